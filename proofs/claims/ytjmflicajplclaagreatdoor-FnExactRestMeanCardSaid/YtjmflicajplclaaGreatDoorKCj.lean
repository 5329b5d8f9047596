/- Texts of a claim, in one: part 10. -/
import Derived.Test.YtjmflicajplclaaGreatDoorKCi
open Bool renaming false_eq_true → aK9
open Int renaming lt_or_gt_of_ne → aNn,lt_trichotomy → aNq,mul_neg_of_neg_of_pos → aNo,mul_pos → aNp,natAbs_mul → aNb,natCast_mul → aMX,neg_mul → aNe,ofNat_le → aNt,sign_eq_neg_one_of_neg → aNE,sign_eq_one_of_pos → aNF,zero_mul → aNr
open List renaming getElem?_eq_getElem → aKE,getElem?_eq_none → aKX,length → aNH,length_append → aKI,length_cons → aKH,length_eq_one_iff → aNu,length_eq_zero_iff → aMF,length_map → aMe,length_nil → aMa,length_pos_iff → aNv,length_replicate → aMm,length_reverse → aNy,length_set → aMv,length_singleton → aMM,mapM_cons → aLU,nil_append → aLP,replicate → aLn,reverse_append → aNz,reverse_singleton → aNA,singleton_append → aNB,singleton_inj → aNG,take_of_length_le → aLq
open Nat renaming Coprime → aNl,div_one → aNm,gcd → aNf,gcd_comm → aNx,gcd_dvd_left → aNh,gcd_ne_zero_right → aNC,gcd_pos_of_pos_left → aNi,gcd_zero_right → aNw,le_of_ble_eq_true → aMl,le_of_dvd → aNg,le_of_lt → aLe,le_refl → aKx,le_trans → aKy,mod_lt → aKZ,mul_comm → aLZ,mul_le_mul_right → aKY,mul_lt_mul_of_pos_right → aM2,mul_ne_zero → aNj,pow_le_pow_right → aMA,sub_le → aND,zero_add → aL5
open Rat renaming mul_def' → aNk,num_eq_zero → aNs
set_option linter.unusedSimpArgs false
set_option linter.unusedVariables false
namespace Go.PM
theorem arJ (neg:Bool) (t d:Nat):mG neg (t*d)=mG neg t*(d:Int):=by cases neg<;>simp[mG,aNe]
theorem GG (q:Rat) {d:Nat} (hd:d≠0):mkRat (mG (decide (q.num<0)) (q.num.natAbs*d)) (q.den*d)=q:=by
 rw[arJ,Rat.mkRat_mul_right hd,NK]
theorem Gl (X Y:Int) {B:Nat} (hB:B≠0):mkRat X B+mkRat Y B=mkRat (X+Y) B:=by
 rw[Rat.mkRat_add_mkRat _ _ hB hB,←Int.add_mul,Rat.mkRat_mul_right hB]
theorem S6 (n:Bool) (x y:Nat):mG n x+mG n y=mG n (x+y):=by cases n<;>simp[mG]<;>omega
theorem Yp {m n:Bool} (h:m≠n) {x y:Nat} (hx:y≤x):mG m x+mG n y=mG m (x-y):=by
 cases m<;>cases n<;>simp_all [mG]<;>omega
theorem XL {m n:Bool} (h:m≠n) {x y:Nat} (hx:x≤y):mG m x+mG n y=mG n (y-x):=by
 cases m<;>cases n<;>simp_all [mG]<;>omega
theorem Sn (n:Int) {d:Nat} (hd:d≠0):(mkRat n d).num.natAbs=n.natAbs / aNf n.natAbs d:=by
 have:=H9 (neg:=decide (n<0)) (t:=n.natAbs) (b:=d) hd
 rw[J3] at this
 rw[this,qV]
theorem Ns (n:Int) {d:Nat} (hd:d≠0):(mkRat n d).den=d / aNf n.natAbs d:=by
 have:=Ss (neg:=decide (n<0)) (t:=n.natAbs) (b:=d) hd
 rwa [J3] at this
theorem ayM (n:Int) {d:Nat} (hd:d≠0):(mkRat n d).num<0↔n<0:=by
 have:=H9 (neg:=decide (n<0)) (t:=n.natAbs) (b:=d) hd
 rw[J3] at this
 rw[this,S9]
 have h:n<0→n.natAbs / aNf n.natAbs d≠0:=fun h=>by
  have:=Nat.div_pos (aNg (by omega) (aNh n.natAbs d)) (aNi d (show 0<n.natAbs by omega))
  omega
 constructor
 ·rintro⟨h1,_⟩;simpa using h1
 ·intro h1;exact⟨by simpa using h1,h h1⟩
theorem Er (t:Nat) {d:Nat} (hd:d≠0):(mkRat (mG false t) d).num.natAbs ∣ t∧(mkRat (mG false t) d).den ∣ d:=by
 rw[Sn _ hd,Ns _ hd,qV]
 exact⟨Nat.div_dvd_of_dvd (aNh _ _),Nat.div_dvd_of_dvd (Nat.gcd_dvd_right _ _)⟩
theorem adO (a b:Rat):(a*b).num.natAbs=(mkRat (mG false a.num.natAbs) b.den).num.natAbs*(mkRat (mG false b.num.natAbs) a.den).num.natAbs ∧
  (a*b).den=(mkRat (mG false a.num.natAbs) b.den).den*(mkRat (mG false b.num.natAbs) a.den).den:=by
 have ha:=a.den_nz
 have hb:=b.den_nz
 have IS:a.den*b.den≠0:=aNj ha hb
 obtain⟨u1,u2⟩:=Er a.num.natAbs hb
 obtain⟨v1,v2⟩:=Er b.num.natAbs ha
 have e:(mkRat (mG false a.num.natAbs) b.den)*(mkRat (mG false b.num.natAbs) a.den)=mkRat (mG false a.num.natAbs*mG false b.num.natAbs) (b.den*a.den):=Rat.mkRat_mul_mkRat _ _ _ _
 have en:((mkRat (mG false a.num.natAbs) b.den)*(mkRat (mG false b.num.natAbs) a.den)).num.natAbs=(a*b).num.natAbs:=by
  rw[e,aNk,Sn _ IS,Sn _ (aNj hb ha),aNb,aNb,qV,qV,aLZ b.den]
 have ed:((mkRat (mG false a.num.natAbs) b.den)*(mkRat (mG false b.num.natAbs) a.den)).den=(a*b).den:=by
  rw[e,aNk,Ns _ IS,Ns _ (aNj hb ha),aNb,aNb,qV,qV,aLZ b.den]
 rw[←en,←ed]
 generalize hu:mkRat (mG false a.num.natAbs) b.den=u at *
 generalize hv:mkRat (mG false b.num.natAbs) a.den=v at *
 have c1:aNl u.num.natAbs u.den:=u.reduced
 have c2:aNl v.num.natAbs v.den:=v.reduced
 have c3:aNl u.num.natAbs v.den:=Nat.Coprime.coprime_dvd_left u1 (Nat.Coprime.coprime_dvd_right v2 a.reduced)
 have c4:aNl v.num.natAbs u.den:=Nat.Coprime.coprime_dvd_left v1 (Nat.Coprime.coprime_dvd_right u2 b.reduced)
 have c:aNf (u.num*v.num).natAbs (u.den*v.den)=1:=by
  rw[aNb]
  exact Nat.Coprime.mul_left (Nat.Coprime.mul_right c1 c3) (Nat.Coprime.mul_right c4 c2)
 rw[aNk,Sn _ (aNj u.den_nz v.den_nz),Ns _ (aNj u.den_nz v.den_nz),c,aNm,aNm,aNb]
 exact⟨rfl,rfl⟩
theorem Vl {a b:Rat} (ha:a.num≠0) (hb:b.num≠0):(a*b).num<0↔(decide (a.num<0) != decide (b.num<0))=true:=by
 rw[aNk,ayM _ (aNj a.den_nz b.den_nz)]
 rcases aNn ha with h1 | h1<;>rcases aNn hb with h2 | h2
 ·have:=Int.mul_pos_of_neg_of_neg h1 h2
  rw[decide_eq_true h1,decide_eq_true h2]
  simp;omega
 ·have:=aNo h1 h2
  rw[decide_eq_true h1,decide_eq_false (show ¬b.num<0 by omega)]
  simp[this]
 ·have:=Int.mul_neg_of_pos_of_neg h1 h2
  rw[decide_eq_false (show ¬a.num<0 by omega),decide_eq_true h2]
  simp[this]
 ·have:=aNp h1 h2
  rw[decide_eq_false (show ¬a.num<0 by omega),decide_eq_false (show ¬b.num<0 by omega)]
  simp;omega
def jJ (q:Rat):Int:=if q.num=0 then 0 else if q.num<0 then -1 else 1
def QB (a b:Rat):Int:=if jJ a=jJ b then (if a.num<0 then -gC (a.num.natAbs*b.den) (b.num.natAbs*a.den) else gC (a.num.natAbs*b.den) (b.num.natAbs*a.den)) else jJ a-jJ b
theorem AH {m n:Nat}:gC m n<0↔m<n:=by
 unfold gC
 split
 ·omega
 ·split<;>omega
theorem atI {m n:Nat}:0<gC m n↔n<m:=by
 unfold gC
 split
 ·omega
 ·split<;>omega
theorem AR {m n:Nat}:gC m n=0↔m=n:=by
 unfold gC
 split
 ·omega
 ·split<;>omega
theorem oP {q:Rat} (h:q.num<0):jJ q = -1:=by unfold jJ;rw[if_neg (by omega),if_pos h]
theorem lB {q:Rat} (h:q.num=0):jJ q=0:=by unfold jJ;rw[if_pos h]
theorem oV {q:Rat} (h:0<q.num):jJ q=1:=by unfold jJ;rw[if_neg (by omega),if_neg (by omega)]
theorem aaH {a b:Rat}:QB a b<0↔a<b:=by
 rw[Rat.lt_iff]
 have hA:(0:Int)<a.den:=by have:=a.den_nz;omega
 have hB:(0:Int)<b.den:=by have:=b.den_nz;omega
 have eA:((a.num.natAbs*b.den:Nat):Int)=(a.num.natAbs:Int)*b.den:=by simp
 have eB:((b.num.natAbs*a.den:Nat):Int)=(b.num.natAbs:Int)*a.den:=by simp
 unfold QB
 rcases aNq a.num 0 with h1 | h1 | h1<;>rcases aNq b.num 0 with h2 | h2 | h2
 ·rw[oP h1,oP h2,if_pos rfl,if_pos h1]
  have f1:(a.num.natAbs:Int) = -a.num:=by omega
  have f2:(b.num.natAbs:Int) = -b.num:=by omega
  rw[f1,aNe] at eA
  rw[f2,aNe] at eB
  have := @atI (a.num.natAbs*b.den) (b.num.natAbs*a.den)
  omega
 ·rw[oP h1,lB h2,if_neg (by decide),h2,aNr]
  have:=aNo h1 hB
  omega
 ·rw[oP h1,oV h2,if_neg (by decide)]
  have:=aNo h1 hB
  have:=aNp h2 hA
  omega
 ·rw[lB h1,oP h2,if_neg (by decide),h1,aNr]
  have:=aNo h2 hA
  omega
 ·rw[lB h1,lB h2,if_pos rfl,h1,h2];simp[gC]
 ·rw[lB h1,oV h2,if_neg (by decide),h1,aNr]
  have:=aNp h2 hA
  omega
 ·rw[oV h1,oP h2,if_neg (by decide)]
  have:=aNo h2 hA
  have:=aNp h1 hB
  omega
 ·rw[oV h1,lB h2,if_neg (by decide),h2,aNr]
  have:=aNp h1 hB
  omega
 ·rw[oV h1,oV h2,if_pos rfl,if_neg (by omega)]
  have f1:(a.num.natAbs:Int)=a.num:=by omega
  have f2:(b.num.natAbs:Int)=b.num:=by omega
  rw[f1] at eA
  rw[f2] at eB
  have := @AH (a.num.natAbs*b.den) (b.num.natAbs*a.den)
  omega
theorem aiO (m n:Nat):gC n m = -gC m n:=by
 rcases Nat.lt_trichotomy m n with h | h | h
 ·rw[gC,gC,if_neg (by omega),if_neg (by omega),if_pos h];rfl
 ·subst h;rw[gC,if_neg (by omega),if_pos rfl];rfl
 ·rw[gC,gC,if_pos h,if_neg (by omega),if_neg (by omega)]
theorem WN (a b:Rat):QB b a = -QB a b:=by
 unfold QB
 by_cases h:jJ a=jJ b
 ·have h2:b.num<0↔a.num<0:=by
   rcases aNq a.num 0 with h1 | h1 | h1<;>rcases aNq b.num 0 with h2 | h2 | h2
   ·simp[h1,h2]
   ·rw[oP h1,lB h2] at h;omega
   ·rw[oP h1,oV h2] at h;omega
   ·rw[lB h1,oP h2] at h;omega
   ·omega
   ·rw[lB h1,oV h2] at h;omega
   ·rw[oV h1,oP h2] at h;omega
   ·rw[oV h1,lB h2] at h;omega
   ·omega
  rw[if_pos h,if_pos h.symm,aiO]
  by_cases h3:a.num<0
  ·rw[if_pos h3,if_pos (h2.2 h3)]
  ·rw[if_neg h3,if_neg (mt h2.1 h3)]
 ·rw[if_neg h,if_neg (fun h'=>h h'.symm)];omega
theorem asA {a b:Rat}:0<QB a b↔b<a:=by
 rw[←aaH,WN a b];omega
theorem Ra {a b:Rat}:QB a b=0↔a=b:=by
 constructor
 ·intro h
  refine Rat.le_antisymm ?_ ?_
  ·rw[←Rat.not_lt,←asA];omega
  ·rw[←Rat.not_lt,←aaH];omega
 ·rintro rfl
  have:=WN a a
  omega
theorem azS {q:Rat}:q.num<0↔q<0:=by
 have := @Rat.num_nonneg q
 rw[←Rat.not_le,←this]
 omega
theorem apN {q:Rat}:0<q.num↔0<q:=by
 have h1 := @azS (-q)
 rw[Rat.neg_num] at h1
 have h2 : -q<0↔0<q:=by
  rw[Rat.neg_lt_iff];simp
 rw[←h2,←h1]
 omega
theorem Ey {q:Rat}:jJ q=0↔q=0:=by
 rw[←aNs]
 rcases aNq q.num 0 with h | h | h
 ·rw[oP h];omega
 ·rw[lB h];omega
 ·rw[oV h];omega
theorem G1 {q:Rat}:0<jJ q↔0<q:=by
 rw[←apN]
 rcases aNq q.num 0 with h | h | h
 ·rw[oP h];omega
 ·rw[lB h];omega
 ·rw[oV h];omega
end Go.PM
namespace Go.PM
theorem QQ {ds:List Nat} {H:aA}:cW 1 (jG ds) H=some (ds.map tV):=by
 have:((ds.map tV).all fun x=>(aB x).length == 1&&(aB x).all bO)=true:=by
  rw[List.all_eq_true]
  intro x hx
  obtain⟨d,_,rfl⟩:=List.mem_map.1 hx
  rfl
 simp only[cW,jG,aC,this,if_true]
theorem GH (n:Nat) {H:aA}:cW 1 (cA n) H=some ((aD 1000000000 n).map tV):=QQ
theorem KB {a n:Nat} (hn:(aD 1000000000 a).length=n+1):∃d,(aD 1000000000 a)[n]? = some d∧d≠0∧d<1000000000:=by
 obtain⟨d,hd⟩:∃d,(aD 1000000000 a)[n]? = some d:=⟨_,aKE (by omega)⟩
 refine⟨d,hd,fun h0 => ?_,gI (by decide) a d (List.mem_of_getElem? hd)⟩
 have:=RD (b:=1000000000) (by decide) a
 rw[List.getLast?_eq_getElem?,hn,Nat.add_sub_cancel,hd,h0] at this
 exact this rfl
theorem aeM {a d:Nat} (h:aD 1000000000 a=[d]):a=d∧0<d∧d<1000000000:=by
 have h1:=cL (b:=1000000000) (by decide) a
 rw[h,val_one] at h1
 obtain⟨e,h2,h3,h4⟩:=KB (a:=a) (n:=0) (by rw[h];rfl)
 rw[h] at h2
 cases h2
 exact⟨h1.symm,by omega,h4⟩
theorem ayV {a:Nat} (h:(aD 1000000000 a).length≤2):a<1000000000000000000:=by
 have h1:=iN (b:=1000000000) (by decide) a
 have h2:1000000000^(aD 1000000000 a).length≤1000000000^2:=aMA (by decide) h
 omega
theorem aiU {H:aA} {u v:VV} (hu:aY u=true) (hv:aY v=true):fz depth H (.eG [u,v])=some (.eG [u,v]):=aL (by simp only[aY,aO,hu,hv,Bool.and_self])
theorem aCk {X N:Nat} (h:(aD 1000000000 X).length≤N):LP 0 1 (.ref 0 0 0 N N) (cA X) [.row 0 ((aLn N 0).map tV) 1 true]=some (VI ((aD 1000000000 X).length:Int),[.row 0 ((aD 1000000000 X++aLn (N-(aD 1000000000 X).length) 0).map tV) 1 true]):=by
 have e:((aD 1000000000 X).map tV).take N=(aD 1000000000 X).map tV:=aLq (by simpa using h)
 simp only[LP,cA,QQ,aT,e,aMe,aMm,aL5]
 rw[if_pos ⟨trivial,aKx _,h⟩]
 simp only[dE,List.set_cons_zero,List.take_zero,aLP,aL5,aMe,List.map_append,List.map_replicate,List.drop_replicate]
theorem xN (a b:Nat) (hb:b≠0) (ha:(aD 1000000000 a).length<17592186044416) (zB:(aD 1000000000 b).length<17592186044416):TC 185 [cA a,cA b] (.eG [cA (a / b),cA (a % b)]):=by
 refine TC.walk ⟨true,false⟩ Ks rfl (aMl rfl) (by simp[aO,cK]) (by simp[gZ,sK,pR]) ?_
 have s1:=EC a (by omega)
 have s2:=EC b (by omega)
 have fin:∀ {H:aA},fz depth H (.eG [cA (a / b),cA (a % b)])=some (.eG [cA (a / b),cA (a % b)]):=aiU (cK _) (cK _)
 by_cases hsm:(aD 1000000000 a).length≤2∧(aD 1000000000 b).length≤2
 ·rw[if_pos hsm.1] at s1
  rw[if_pos hsm.2] at s2
  have la:=ayV hsm.1
  have q1:=NM a b (by omega) (by omega)
  have q2:=OD a b (by omega)
  have hdl:a / b≤a:=Nat.div_le_self _ _
  have hml:a % b≤a:=Nat.mod_le _ _
  have n1:TC 178 [VI ((a / b:Nat):Int)] (cA (a / b)):=tS ((a / b:Nat):Int) (aNt.2 (show a / b≤9223372036854775807 from aKy hdl (by omega)))
  have n2:TC 178 [VI ((a % b:Nat):Int)] (cA (a % b)):=tS ((a % b:Nat):Int) (aNt.2 (show a % b≤9223372036854775807 from aKy hml (by omega)))
  simp only[gG,dY,s1,s2,q1,q2,n1,n2,VX,Nat.reduceEqDiff,Nat.reduceAdd]
  exact fin
 have c1:=zA a b (by omega) (by omega)
 obtain⟨x1,t1,F2⟩:∃(x:Int) (t:Bool),(if (aD 1000000000 a).length≤2 then VV.eG [VI a,VB true] else .eG [VI 0,VB false]) = .eG [VI x,VB t]:=by split<;>exact⟨_,_,rfl⟩
 have Z3:∃(x:Int) (t:Bool),(if (aD 1000000000 b).length≤2 then VV.eG [VI b,VB true] else .eG [VI 0,VB false]) = .eG [VI x,VB t]∧(t1=true→t=false):=by
  by_cases h:(aD 1000000000 b).length≤2
  ·rw[if_pos h]
   refine⟨_,_,rfl,fun ht => ?_⟩
   rw[if_neg (fun h'=>hsm ⟨h',h⟩)] at F2
   injection F2 with F2
   injection F2 with _ F2
   injection F2 with F2 _
   injection F2 with F2
   injection F2 with F2
   subst ht
   cases F2
  ·rw[if_neg h]
   exact⟨_,_,rfl,fun _=>rfl⟩
 obtain⟨x2,t2,Z3,ht⟩:=Z3
 rw[F2] at s1
 rw[Z3] at s2
 by_cases IS:gC a b<0
 ·have bH:a<b:=AH.1 IS
  have e0:∀lr,mR lr [.int .i64 0] 0 [] []=some (.ref 0 0 0 0 0,[.row 0 [] 1 true]):=fun lr=>mT (H:=[]) rfl
  have e1:∀lr,mR lr [.int .i64 0] 0 [] [.row 0 [] 1 true]=some (.ref 1 0 0 0 0,[.row 0 [] 1 true,.row 0 [] 1 true]):=fun lr=>mT (H:=[.row 0 [] 1 true]) rfl
  rw[Nat.div_eq_of_lt bH,Nat.mod_eq_of_lt bH]
  have hz:fz (6+1) [.row 0 [] 1 true,.row 0 [] 1 true] (.ref 0 0 0 0 0)=some (cA 0):=by rw[KQ];rfl
  by_cases ha0:a=0
  ·subst ha0
   have ap:dP 0 1 8 (.ref 1 0 0 0 0) ((aD 1000000000 0).map tV) [.row 0 [] 1 true,.row 0 [] 1 true]=some (.ref 1 0 0 0 0,[.row 0 [] 1 true,.row 0 [] 1 true]):=by
    rw[cF];rfl
   have Km:fz (6+1) [.row 0 [] 1 true,.row 0 [] 1 true] (.ref 1 0 0 0 0)=some (cA 0):=by rw[KQ];rfl
   cases t1 with
   |
    false =>
    simp only[gG,dY,s1,s2,c1,IS,e0,e1,ap,GH,VX,Nat.reduceEqDiff,Nat.reduceAdd]
    exact bN (d:=6) hz Km
   |
    true =>
    rw[ht rfl] at s2
    simp only[gG,dY,s1,s2,c1,IS,e0,e1,ap,GH,VX,Nat.reduceEqDiff,Nat.reduceAdd]
    exact bN (d:=6) hz Km
  ·have hln:(aD 1000000000 a).length≠0:=fun h=>ha0 ((nR (b:=1000000000) (by decide)).1 (aMF.1 h))
   have ap:dP 0 1 8 (.ref 1 0 0 0 0) ((aD 1000000000 a).map tV) [.row 0 [] 1 true,.row 0 [] 1 true]=some (.ref 1 1 0 (aD 1000000000 a).length (aD 1000000000 a).length,[.row 0 [] 1 true,.row 1 ((aD 1000000000 a).map tV) 1 true]):=by
    have hr:aG [.row 0 [] 1 true,.row 0 [] 1 true] 1 0=some ([],1,true):=rfl
    simp only[dP,hr,aMe,aL5,aMa,Nat.add_zero]
    rw[if_pos ⟨by decide,by decide⟩,if_pos ⟨trivial,Nat.zero_le _,aKx _⟩,if_neg (by omega),if_pos (by omega)]
    simp
   have Cy:fz (6+1) [.row 0 [] 1 true,.row 1 ((aD 1000000000 a).map tV) 1 true] (.ref 0 0 0 0 0)=some (cA 0):=by rw[KQ];rfl
   have Km:fz (6+1) [.row 0 [] 1 true,.row 1 ((aD 1000000000 a).map tV) 1 true] (.ref 1 1 0 (aD 1000000000 a).length (aD 1000000000 a).length)=some (cA a):=by
    have:aY (.ref 1 1 0 (aD 1000000000 a).length (aD 1000000000 a).length)=false:=rfl
    have hr:aG [.row 0 [] 1 true,.row 1 ((aD 1000000000 a).map tV) 1 true] 1 1=some ((aD 1000000000 a).map tV,1,true):=rfl
    unfold fz
    simp only[this,hr,aK9,if_false]
    rw[if_pos ⟨by simp,aKx _⟩,List.drop_zero,aLq (by simp),mapM_pure (n:=5) (fO fun _=>rfl)]
    rfl
   cases t1 with
   |
    false =>
    simp only[gG,dY,s1,s2,c1,IS,e0,e1,ap,GH,VX,Nat.reduceEqDiff,Nat.reduceAdd]
    exact bN (d:=6) Cy Km
   |
    true =>
    rw[ht rfl] at s2
    simp only[gG,dY,s1,s2,c1,IS,e0,e1,ap,GH,VX,Nat.reduceEqDiff,Nat.reduceAdd]
    exact bN (d:=6) Cy Km
 have Hj:b≤a:=by have := @AH a b;omega
 have hbn:(aD 1000000000 b).length≠0:=fun h=>hb ((nR (b:=1000000000) (by decide)).1 (aMF.1 h))
 by_cases h1:(((aD 1000000000 b).length:Nat):Int)=1
 ·obtain⟨d,hd⟩:∃d,aD 1000000000 b=[d]:=aNu.1 (by omega)
  obtain⟨hbd,F9,hdT⟩:=aeM hd
  have e1:bJ 1 (cA b) (VI 0) []=some (.cI (tV d) 0):=by
   rw[cA,hd]
   exact aH (f:=tV) (t := .op) (H:=[]) (size:=1) (k := .i64) (xs:=[d]) (i:=0) rfl rfl
  have c2:=BO a d F9 hdT (by omega)
  rw[←hbd] at c2
  have Ye:a % b≤b:=aLe (aKZ _ (by omega))
  have n2:TC 178 [VI ((a % b:Nat):Int)] (cA (a % b)):=tS ((a % b:Nat):Int) (aNt.2 (show a % b≤9223372036854775807 from aKy Ye (by omega)))
  have e2:tV d=tV b:=by rw[hbd]
  rw[e2] at e1
  cases t1 with
  |
   false =>
   simp only[gG,dY,s1,s2,c1,IS,cN,h1,e1,c2,n2,VX,Nat.reduceEqDiff,Nat.reduceAdd]
   exact fin
  |
   true =>
   rw[ht rfl] at s2
   simp only[gG,dY,s1,s2,c1,IS,cN,h1,e1,c2,n2,VX,Nat.reduceEqDiff,Nat.reduceAdd]
   exact fin
 obtain⟨n,hn⟩:∃n,(aD 1000000000 b).length=n+2:=⟨(aD 1000000000 b).length-2,by omega⟩
 obtain⟨t,htd,ht0,htT⟩:=KB (a:=b) (n:=n+1) hn
 obtain⟨s,hs⟩:∃s,s=1000000000 / (t+1):=⟨_,rfl⟩
 have Uf:1≤s:=by rw[hs];exact(Nat.le_div_iff_mul_le (by omega)).2 (by omega)
 have hsT:s<1000000000:=by rw[hs];exact Nat.div_lt_self (by decide) (by omega)
 have vZ:(t+1)*s≤1000000000:=by rw[hs];exact Nat.mul_div_le _ _
 have hla:=eZ (b:=1000000000) (by decide) Hj
 have w0:IntKind.i64.wrap (((n+2:Nat):Int)-1)=((n+1:Nat):Int):=wrapN _ (by omega) (by omega)
 have w1:IntKind.i64.wrap ((t:Int)+1)=((t+1:Nat):Int):=wrapN _ (by omega) (by omega)
 have q0:dK .quo (.int .i64 1000000000) (.int .i64 ((t+1:Nat):Int))=some (.int .i64 (s:Int)):=by rw[hs];exact NM 1000000000 (t+1) (by decide) (by omega)
 have et:∀H,bJ 1 (cA b) (VI ((n+1:Nat):Int)) H=some (.cI (tV t) 0):=fun H=>aH (f:=tV) (t := .op) (size:=1) (k := .i64) htd rfl
 have h1':¬(((n+2:Nat):Int)=1):=by omega
 obtain⟨N,hN⟩:∃N,N=(aD 1000000000 a).length+1:=⟨_,rfl⟩
 have wN:IntKind.i64.wrap (((aD 1000000000 a).length:Int)+1)=(N:Int):=wrapN _ (by omega) (by omega)
 have mkN:=Sh N (by omega)
 have c3:=Br a s Uf hsT ha
 have c4:=Br b s Uf hsT zB
 have avW:b*s<1000000000^(n+2):=by
  have h2:=(Cp (n:=n+1) (gI (b:=1000000000) (by decide) b) hn htd).2
  rw[cL (by decide)] at h2
  have h3:b*s<(t+1)*1000000000^(n+1)*s:=aM2 h2 Uf
  have h4:(t+1)*1000000000^(n+1)*s=(t+1)*s*1000000000^(n+1):=by grind
  have h9:(t+1)*s*1000000000^(n+1)≤1000000000*1000000000^(n+1):=aKY _ vZ
  have h10:1000000000*1000000000^(n+1)=1000000000^(n+2):=by rw[Nat.pow_succ 1000000000 (n+1)];exact aLZ _ _
  rw[h4] at h3
  rw[h10] at h9
  exact Nat.lt_of_lt_of_le h3 h9
 have hVl:(aD 1000000000 (b*s)).length=n+2:=by
  have h2:=oJ (b:=1000000000) (by decide) avW
  have h3:b≤b*s:=Nat.le_mul_of_pos_right b Uf
  have h4:=eZ (b:=1000000000) (by decide) h3
  omega
 have hAl:(aD 1000000000 (a*s)).length≤N:=by
  have h2:=SW (b:=1000000000) (by decide) a s
  have h3:(aD 1000000000 s).length≤1:=oJ (by decide) (by rw[Nat.pow_one];exact hsT)
  omega
 have cp:=aCk hAl
 obtain⟨m,hm⟩:∃m,m+(n+2)=N:=⟨N-(n+2),by omega⟩
 have wm:IntKind.i64.wrap ((N:Int)-((n+2:Nat):Int))=(m:Int):=wrapN _ (by omega) (by omega)
 have wm1:IntKind.i64.wrap ((m:Int)-1)=(m:Int)-1:=wrap64 (by omega) (by omega)
 obtain⟨Hk,asM⟩:∃Hk,Hk=aD 1000000000 (a*s)++aLn (N-(aD 1000000000 (a*s)).length) 0:=⟨_,rfl⟩
 rw[←asM] at cp
 have mkm:BM [.int .i64 0] 8 (VI (m:Int)) (VI (m:Int)) [.row 0 (Hk.map tV) 1 true]=some (.ref 1 0 0 m m,[.row 0 (Hk.map tV) 1 true]++[.row 0 ((aLn m 0).map tV) 1 true]):=nT (f:=tV) (x:=0) (H:=[.row 0 (Hk.map tV) 1 true]) rfl (by omega) (by omega)
 have lN:∀K,aG K 0 0=some (Hk.map tV,1,true)→rW (.ref 0 0 0 N N) K=some (VI (N:Int)):=fun K h=>eH h
 have l1:=lN [.row 0 (Hk.map tV) 1 true] rfl
 have l2:=lN (H2 Hk (aLn m 0)) rfl
 have ayP:Hk.length=N:=by rw[asM,aKI,aMm];omega
 have aA7:∀d∈Hk,d<1000000000:=fun d hd=>by
  rw[asM] at hd
  rcases List.mem_append.1 hd with h | h
  ·exact gI (by decide) _ d h
  ·rw[List.eq_of_mem_replicate h];decide
 have avP:val 1000000000 Hk=a*s:=by rw[asM,BA,uW,Nat.mul_zero,Nat.add_zero,cL (by decide)]
 generalize TX:aD 1000000000 (b*s)=vs at *
 have I2:∀d∈vs,d<1000000000:=by rw[←TX];exact gI (by decide) _
 have Qf:val 1000000000 vs=b*s:=by rw[←TX];exact cL (by decide) _
 have lV:∀H,rW (cA (b*s)) H=some (VI ((n+2:Nat):Int)):=fun H=>by rw[cN,TX,hVl]
 obtain⟨v1,f1⟩:∃v1,vs[n+1]? = some v1:=⟨_,aKE (by omega)⟩
 obtain⟨v0,f0⟩:∃v0,vs[n]? = some v0:=⟨_,aKE (by omega)⟩
 have hv1:1≤v1:=by
  obtain⟨d,hd,F9,_⟩:=KB (a:=b*s) (n:=n+1) (by rw[TX];exact hVl)
  rw[TX,f1] at hd
  cases hd
  omega
 have ET:val 1000000000 (Hk.drop m)<val 1000000000 vs:=by
  have h2:=sP (b:=1000000000) Hk m
  rw[List.length_take,ayP,Nat.min_eq_left (by omega),avP] at h2
  have h3:a<b*1000000000^m:=by
   have y1:=iN (b:=1000000000) (by decide) a
   have y2:=Nv (b:=1000000000) (by decide) hb
   rw[hn] at y2
   have y3:1000000000^(n+2-1)*1000000000^m≤b*1000000000^m:=aKY _ y2
   rw[←Nat.pow_add,show n+2-1+m=(aD 1000000000 a).length by omega] at y3
   exact Nat.lt_of_lt_of_le y1 y3
  have h4:a*s<b*1000000000^m*s:=aM2 h3 Uf
  have h5:b*1000000000^m*s=1000000000^m*(b*s):=by grind
  rw[Qf]
  have h6:1000000000^m*val 1000000000 (Hk.drop m)<1000000000^m*(b*s):=by
   rw[←h5]
   exact Nat.lt_of_le_of_lt (by rw[h2];exact Nat.le_add_left _ _) h4
  exact Nat.lt_of_mul_lt_mul_left h6
 have body:VW ⟨true,false⟩ 0 (.loop kE)=VW ⟨true,false⟩ 0 (.loop kE):=rfl
 have tail:∀(us os:List Nat),us.length=N→(∀d∈us,d<1000000000)→os.length=m→(∀d∈os,d<1000000000)→val 1000000000 us+val 1000000000 vs*val 1000000000 os=a*s→val 1000000000 us<val 1000000000 vs →
   (∀lo K,dH 184 [.ref 0 0 0 N N] lo (H2 us os) K=K (cA (a % b*s)) (dA (H2 us os) [0])) ∧
   (∀lo K,dH 184 [.ref 1 0 0 m m] lo (dA (H2 us os) [0]) K=K (cA (a / b)) (dA (dA (H2 us os) [0]) [1]))∧TC 202 [cA (a % b*s),VI (s:Int)] (.eG [cA (a % b),VI ((a % b*s % s:Nat):Int)]):=by
  intro us os T0 LR hJ nJ hv bH
  rw[Qf] at hv bH
  have hq:val 1000000000 os=a / b:=by
   rw[←Nat.mul_div_mul_right a b Uf,←hv,Nat.add_mul_div_left _ _ (Nat.lt_of_le_of_lt (Nat.zero_le _) bH),Nat.div_eq_of_lt bH,aL5]
  have hr:val 1000000000 us=a % b*s:=by
   rw[←Nat.mul_mod_mul_right,←hv,Nat.add_mul_mod_self_left,Nat.mod_eq_of_lt bH]
  refine⟨fun lo K => ?_,fun lo K => ?_,?_⟩
  ·have h:=wH us LR (by omega)
   rw[hr] at h
   exact TC.arU (f:=tV) h Xv T0.symm (aKx _) Iv (fun _=>rfl) rfl rfl lo K
  ·have h:=wH os nJ (by omega)
   rw[hq] at h
   have lL:aG (dA (H2 us os) [0]) 1 0=some (os.map tV,1,true):=rfl
   exact TC.arU (f:=tV) h lL hJ.symm (aKx _) Iv (fun _=>rfl) rfl rfl lo K
  ·have h:=BO (a % b*s) s Uf hsT (by
    have h2:=eZ (b:=1000000000) (by decide) (aKy (aLe bH) (show b*s≤b*s from aKx _))
    rw[hr,TX] at h2
    omega)
   rwa [Nat.mul_div_cancel _ Uf] at h
 clear body
 have nV:cA (b*s)=jG vs:=by rw[cA,TX]
 cases t1 with
 |
  false =>
  simp only[gG,dY,s1,s2,c1,IS,cN,hn,h1',w0,w1,q0,et,wN,mkN,c3,c4,cp,lV,l1,l2,wm,wm1,mkm,List.cons_append,aLP,VX,Nat.reduceEqDiff,Nat.reduceAdd]
  refine QL (Hk:=Hk) (os0:=aLn m 0) (vs:=vs) (N:=N) (m:=m) (n:=n) (A:=a*s) (s:=s) ayP hm (by omega) aA7 hVl I2 f1 f0 hv1 avP ET (by simp) (CP (by decide) _) (by rfl) (by rfl) (by simp only[VX,Nat.reduceEqDiff,Nat.reduceAdd];exact nV) (by rfl) (by rfl) (by rfl) ?_
  intro AN us os r12 r13 r16 T0 LR hJ nJ hv bH
  obtain⟨x1,x2,x3⟩:=tail us os T0 LR hJ nJ hv bH
  simp only[r12,r13,r16,x1,x2,x3,VX,Nat.reduceEqDiff,Nat.reduceAdd]
  exact fin
 |
  true =>
  rw[ht rfl] at s2
  simp only[gG,dY,s1,s2,c1,IS,cN,hn,h1',w0,w1,q0,et,wN,mkN,c3,c4,cp,lV,l1,l2,wm,wm1,mkm,List.cons_append,aLP,VX,Nat.reduceEqDiff,Nat.reduceAdd]
  refine QL (Hk:=Hk) (os0:=aLn m 0) (vs:=vs) (N:=N) (m:=m) (n:=n) (A:=a*s) (s:=s) ayP hm (by omega) aA7 hVl I2 f1 f0 hv1 avP ET (by simp) (CP (by decide) _) (by rfl) (by rfl) (by simp only[VX,Nat.reduceEqDiff,Nat.reduceAdd];exact nV) (by rfl) (by rfl) (by rfl) ?_
  intro AN us os r12 r13 r16 T0 LR hJ nJ hv bH
  obtain⟨x1,x2,x3⟩:=tail us os T0 LR hJ nJ hv bH
  simp only[r12,r13,r16,x1,x2,x3,VX,Nat.reduceEqDiff,Nat.reduceAdd]
  exact fin
end Go.PM
namespace Go.PM
theorem dN (n:Nat) {H:aA}:rW (bR n) H=some (VI (aD 4294967296 n).length):=eQ
theorem AD {n:Nat}:(0:Int)<((aD 4294967296 n).length:Int)↔n≠0:=by
 constructor
 ·intro h h0
  subst h0
  rw[cF] at h
  simp at h
 ·intro h
  have:=(nR (b:=4294967296) (by decide) (n:=n))
  have h2:aD 4294967296 n≠[]:=fun hx=>h (this.1 hx)
  have:=aNv.2 h2
  omega
theorem Uz {n:Nat} (h:(aD 4294967296 n).length≤2):n<18446744073709551616:=by
 have h1:=iN (b:=4294967296) (by decide) n
 have h2:4294967296^(aD 4294967296 n).length≤4294967296^2:=aMA (by decide) h
 omega
theorem Fg (a b:Nat) (ha:(aD 4294967296 a).length≤17592186044416) (hb:(aD 4294967296 b).length≤17592186044416):TC 175 [bR a,bR b] (bR (aNf a b)):=by
 refine TC.walk ⟨true,false⟩ Kq rfl (aMl rfl) (by simp[aO,bU]) (tQ _) ?_
 simp only[FI,C8,VX,Nat.reduceEqDiff,Nat.reduceAdd]
 refine aP (fun(t:Nat×Nat) ρ H=>H=[]∧aNf t.1 t.2=aNf a b∧(aD 4294967296 t.1).length≤17592186044416∧(aD 4294967296 t.2).length≤17592186044416∧ρ 0=bR t.1∧ρ 1=bR t.2) (fun t=>t.2) (a,b) ⟨rfl,rfl,ha,hb,rfl,rfl⟩ ?_
 rintro⟨x,y⟩ ρ H ⟨rfl,hg,hx,hy,g0,g1⟩
 simp only at hg hx hy g0 g1
 have c1:=DD x hx
 have c2:=DD y hy
 by_cases hy0:y=0
 ·subst hy0
  have hl:¬(0:Int)<((aD 4294967296 0).length:Int):=by rw[AD];omega
  rw[aNw] at hg
  simp only[jX,g0,g1,dN,hl,VX,Nat.reduceEqDiff,Nat.reduceAdd]
  rw[hg]
  exact aL (bU _)
 have hl:(0:Int)<((aD 4294967296 y).length:Int):=AD.2 hy0
 by_cases h1:(aD 4294967296 x).length≤2∧(aD 4294967296 y).length≤2
 ·rw[if_pos h1.1] at c1
  rw[if_pos h1.2] at c2
  simp only[jX,g0,g1,dN,hl,c1,c2,VX,Nat.reduceEqDiff,Nat.reduceAdd]
  refine aP (fun(t:Nat×Nat) ρ H=>H=[]∧aNf t.1 t.2=aNf a b∧t.1<18446744073709551616∧t.2<18446744073709551616∧ρ 5=VK .u64 t.1∧ρ 7=VK .u64 t.2) (fun t=>t.2) (x,y) ⟨rfl,hg,Uz h1.1,Uz h1.2,rfl,rfl⟩ ?_
  rintro⟨u,v⟩ tC H ⟨rfl,hg2,hu,hv,k5,k7⟩
  simp only at hg2 hu hv k5 k7
  by_cases hv0:v=0
  ·subst hv0
   rw[aNw] at hg2
   have hz:¬(0:Int)<((0:Nat):Int):=by omega
   have c3:=oW u hu
   simp only[vX,k5,k7,hz,c3,VX,Nat.reduceEqDiff,Nat.reduceAdd]
   rw[hg2]
   exact aL (bU _)
  ·have hz:(0:Int)<(v:Int):=by omega
   have r1:=Tk u v (by omega)
   simp only[vX,k5,k7,hz,r1,VX,Nat.reduceEqDiff,Nat.reduceAdd]
   refine⟨(v,u % v),?_,?_,hv,?_,rfl,rfl⟩
   ·exact aKZ _ (by omega)
   ·simp only
    rw[←hg2,aNx u v,Nat.gcd_rec v u,aNx]
   ·simp only
    have:=aKZ u (show 0<v by omega)
    omega
 ·have c3:=BE x y hy0 hx hy
  have next:∃s':Nat×Nat,s'.2<y∧aNf s'.1 s'.2=aNf a b∧(aD 4294967296 s'.1).length≤17592186044416∧(aD 4294967296 s'.2).length≤17592186044416∧bR y=bR s'.1∧bR (x % y)=bR s'.2:=by
   have hm:=aKZ x (show 0<y by omega)
   refine⟨(y,x % y),hm,?_,hy,?_,rfl,rfl⟩
   ·simp only
    rw[←hg,aNx x y,Nat.gcd_rec y x,aNx]
   ·simp only
    have:=eZ (b:=4294967296) (by decide) (aLe hm)
    omega
  by_cases h2:(aD 4294967296 x).length≤2
  ·have h3:¬(aD 4294967296 y).length≤2:=fun h=>h1 ⟨h2,h⟩
   rw[if_pos h2] at c1
   rw[if_neg h3] at c2
   simp only[jX,g0,g1,dN,hl,c1,c2,c3,VX,Nat.reduceEqDiff,Nat.reduceAdd]
   exact next
  ·rw[if_neg h2] at c1
   by_cases h3:(aD 4294967296 y).length≤2
   ·rw[if_pos h3] at c2
    simp only[jX,g0,g1,dN,hl,c1,c2,c3,VX,Nat.reduceEqDiff,Nat.reduceAdd]
    exact next
   ·rw[if_neg h3] at c2
    simp only[jX,g0,g1,dN,hl,c1,c2,c3,VX,Nat.reduceEqDiff,Nat.reduceAdd]
    exact next
end Go.PM
namespace Go.PM
open Go.Lib
theorem zD (a b:List UInt8) (h:a.length+b.length≤9223372036854775807):dK .add (.string ⟨a.toArray⟩) (.string ⟨b.toArray⟩)=some (.string ⟨(a++b).toArray⟩):=by
 have h1:(⟨a.toArray⟩:ByteArray).size=a.length:=by simp[ByteArray.size]
 have h2:(⟨b.toArray⟩:ByteArray).size=b.length:=by simp[ByteArray.size]
 have h3:¬(((⟨a.toArray⟩:ByteArray).size+(⟨b.toArray⟩:ByteArray).size:Nat):Int)>IntKind.i64.max:=by
  rw[h1,h2]
  show ¬_>(9223372036854775807:Int)
  omega
 simp only[dK,h3,if_false]
 congr 2
theorem bP (a:List UInt8):Dl (.string ⟨a.toArray⟩)=some (.int .i64 (a.length:Int)):=by simp[Dl,ByteArray.size]
theorem aqS:∀a:List UInt8,(aB (bD a)).length=1:=fun _=>rfl
theorem aeG {xs:List (List UInt8)} {H:aA} {lo b g n:Nat} (hr:aG H b g=some (xs.map bD,1,true)) (hn:xs.length=n) (dR:lo≤b) (Fs:n≤9223372036854775806) :
  jE 216 [.ref b g 0 n n] lo H fun r H'=>r = .eG []∧H'=H.set b (.row g (xs.reverse.map bD) 1 true):=by
 refine jE.walk ⟨true,false⟩ vG (aMl rfl) ?_
 have e0:rW (.ref b g 0 n n) H=some (VI n):=eH hr
 have w0:IntKind.i64.wrap ((n:Int)-1)=(n:Int)-1:=wrap64 (by omega) (by omega)
 simp only[nI,mC,e0,w0,VX,Nat.reduceEqDiff,Nat.reduceAdd]
 refine aP (fun(t:Nat×List (List UInt8)) ρ K=>t.1≤n∧K=H.set b (.row g (t.2.map bD) 1 true)∧t.2.length=n∧(∀k,k<n→t.2[k]? = if k<t.1∨n≤k+t.1 then xs[n-1-k]? else xs[k]?)∧ρ 0 = .ref b g 0 n n∧ρ 2=VI t.1∧ρ 3=VI ((n:Int)-1-(t.1:Int))) (fun t=>n-t.1) (0,xs) ⟨Nat.zero_le _,(Aw hr).symm,hn,fun k hk=>by rw[if_neg (by simp only;omega)],rfl,rfl,by show VI ((n:Int)-1)=VI ((n:Int)-1-((0:Nat):Int));rw[Int.natCast_zero,Int.sub_zero]⟩ ?_
 rintro⟨i,ys⟩ ρ K ⟨hi,rfl,hl,hy,g0,g2,g3⟩
 simp only at hi hl hy g2 g3
 have hr2:aG (H.set b (.row g (ys.map bD) 1 true)) b g=some (ys.map bD,1,true):=pX hr
 by_cases bW:(i:Int)<(n:Int)-1-(i:Int)
 ·have hj:(n:Int)-1-(i:Int)=((n-1-i:Nat):Int):=by omega
  obtain⟨x,hx⟩:∃x,ys[i]? = some x:=⟨_,aKE (by omega)⟩
  obtain⟨y,hyy⟩:∃y,ys[n-1-i]? = some y:=⟨_,aKE (by omega)⟩
  rw[hj] at g3 bW
  have a1:∀(zs:List (List UInt8)) (k:Nat),zs.length=n→k<n→bJ 1 (.ref b g 0 n n) (VI (k:Int)) (H.set b (.row g (zs.map bD) 1 true))=some (.ptr b g k 0):=fun zs k h1 h2=>by rw[bB (pX hr) h2,aL5]
  have l1:bF false 1 (.ptr b g (n-1-i) 0) (H.set b (.row g (ys.map bD) 1 true))=some (bD y):=qA hr2 hyy
  have l2:bF false 1 (.ptr b g i 0) (H.set b (.row g (ys.map bD) 1 true))=some (bD x):=qA hr2 hx
  have s1:bL lo 1 (.ptr b g i 0) (bD y) (H.set b (.row g (ys.map bD) 1 true))=some (H.set b (.row g ((ys.set i y).map bD) 1 true)):=by rw[dQ (f:=bD) (e:=1) hr2 (by omega) dR rfl rfl,oL]
  have s2:bL lo 1 (.ptr b g (n-1-i) 0) (bD x) (H.set b (.row g ((ys.set i y).map bD) 1 true))=some (H.set b (.row g (((ys.set i y).set (n-1-i) x).map bD) 1 true)):=by rw[dQ (f:=bD) (e:=1) (pX hr) (by rw[aMv];omega) dR rfl rfl,oL]
  have w1:IntKind.i64.wrap ((i:Int)+1)=((i+1:Nat):Int):=wrapN _ (by omega) (by omega)
  have w2:IntKind.i64.wrap (((n-1-i:Nat):Int)-1)=(n:Int)-1-((i+1:Nat):Int):=by rw[wrap64 (by omega) (by omega)];omega
  have b1:=a1 ys i hl (by omega)
  have b2:=a1 ys (n-1-i) hl (by omega)
  have b3:=a1 (ys.set i y) (n-1-i) (by rw[aMv];exact hl) (by omega)
  simp only[gQ,g0,g2,g3,bW,b1,b2,b3,l1,l2,s1,s2,w1,w2,VX,Nat.reduceEqDiff,Nat.reduceAdd]
  refine⟨(i+1,(ys.set i y).set (n-1-i) x),by simp only;omega,by simp only;omega,rfl,by simp only[aMv];exact hl,fun k hk => ?_,by (repeat' apply And.intro)<;>first | rfl | trivial⟩
  simp only
  have hxx:=hy i (by omega)
  rw[if_neg (by omega),hx] at hxx
  have hyx:=hy (n-1-i) (by omega)
  rw[if_neg (by omega),hyy] at hyx
  rw[List.getElem?_set,List.getElem?_set,aMv]
  by_cases h1:n-1-i=k
  ·subst h1
   rw[if_pos rfl,if_pos (by omega),if_pos (by omega),show n-1-(n-1-i)=i by omega]
   exact hxx
  ·rw[if_neg h1]
   by_cases h2:i=k
   ·subst h2
    rw[if_pos rfl,if_pos (by omega),if_pos (by omega)]
    exact hyx
   ·rw[if_neg h2,hy k hk]
    by_cases h3:k<i∨n≤k+i
    ·rw[if_pos h3,if_pos (by omega)]
    ·rw[if_neg h3,if_neg (by omega)]
 ·have aDf:ys=xs.reverse:=by
   apply List.ext_getElem?
   intro k
   rcases Nat.lt_or_ge k n with h | h
   ·rw[hy k h,List.getElem?_reverse (by omega),hn]
    split
    ·rfl
    ·rw[show n-1-k=k by omega]
   ·rw[aKX (by omega),aKX (by rw[aNy];omega)]
  subst aDf
  simp only[gQ,g0,g2,g3,bW,VX,Nat.reduceEqDiff,Nat.reduceAdd]
  try exact⟨rfl,rfl⟩
theorem afM (n:Nat):(aD 1000000000 n).length≤2*(aD 4294967296 n).length:=by
 refine oJ (by decide) ?_
 have h1:=iN (b:=4294967296) (by decide) n
 have h2:4294967296^(aD 4294967296 n).length≤(1000000000^2)^(aD 4294967296 n).length:=Nat.pow_le_pow_left (by decide) _
 rw[←Nat.pow_mul] at h2
 omega
theorem apJ {n:Nat} (hn:n≠0):(decDigits n).length≤9*(aD 1000000000 n).length:=by
 have h1:=iN (b:=1000000000) (by decide) n
 have h3:(aD 1000000000 n)≠[]:=fun h=>hn ((nR (by decide)).1 h)
 have h4:=aNv.2 h3
 generalize (aD 1000000000 n).length=L at *
 obtain⟨k,hk⟩:∃k,9*L=k+1:=⟨9*L-1,by omega⟩
 have h5:(1000000000:Nat)^L=10^(9*L):=by rw[show (1000000000:Nat)=10^9 by decide,←Nat.pow_mul]
 rw[h5,hk] at h1
 rw[hk]
 exact D5 n k h1
def uR (q:Nat):List UInt8:=if q=0 then [] else decDigits q
theorem EO (n:Nat) (hn:(aD 4294967296 n).length≤68719476736):TC 196 [bR n] (bD (decDigits n)):=by
 refine TC.walk ⟨true,false⟩ I6 rfl (aMl rfl) (by simp[aO,bU]) rfl ?_
 by_cases h0:n=0
 ·subst h0
  have hl:(((aD 4294967296 0).length:Nat):Int)=0:=by rw[cF];rfl
  simp only[Ad,wL,dN,hl,VX,Nat.reduceEqDiff,Nat.reduceAdd]
  rw[kG (by decide)]
  exact aL rfl
 have hl:¬(((aD 4294967296 n).length:Nat):Int)=0:=by have:=AD.2 h0;omega
 have e1:∀lr,mR lr [.string ⟨#[]⟩] 0 [] []=some (.ref 0 0 0 0 0,[.row 0 (([]:List (List UInt8)).map bD) 1 true]):=fun lr=>mT (H:=[]) (lr:=lr) (z:=[.string ⟨#[]⟩]) rfl
 have hTn:=afM n
 have hdl:=apJ h0
 simp only[Ad,wL,dN,hl,e1,VX,Nat.reduceEqDiff,Nat.reduceAdd]
 refine aP (fun(t:Nat×List (List UInt8)) ρ H=>H=[.row t.2.length (t.2.map bD) 1 true]∧t.1≤n∧t.2.length+(aD 1000000000 t.1).length=(aD 1000000000 n).length∧decDigits n=uR t.1++t.2.reverse.flatten∧ρ 0=bR t.1∧ρ 3 = .ref 0 t.2.length 0 t.2.length t.2.length) (fun t=>t.1) (n,[]) ⟨rfl,aKx _,by simp,by simp[uR,h0],rfl,rfl⟩ ?_
 rintro⟨q,ps⟩ ρ H ⟨rfl,hq,hlen,aeU,g0,g3⟩
 simp only at hq hlen aeU g0 g3
 by_cases TS:q=0
 ·subst TS
  have hz:¬(0:Int)<((aD 4294967296 0).length:Int):=by rw[AD];omega
  rw[uR,if_pos rfl,aLP] at aeU
  have hr:aG [.row ps.length (ps.map bD) 1 true] 0 ps.length=some (ps.map bD,1,true):=aT
  simp only[oX,g0,g3,dN,hz,VX,Nat.reduceEqDiff,Nat.reduceAdd]
  refine fV rfl ((aeG hr rfl (aKx _) (by omega)).mono ?_)
  rintro r H' ⟨rfl,rfl⟩
  have Kj:([.row ps.length (ps.map bD) 1 true]:aA).set 0 (.row ps.length (ps.reverse.map bD) 1 true)=[.row ps.length (ps.reverse.map bD) 1 true]:=rfl
  have hr2:aG [.row ps.length (ps.reverse.map bD) 1 true] 0 ps.length=some (ps.reverse.map bD,1,true):=aT
  have hfl:ps.reverse.flatten.length≤140737488355328:=by rw[←aeU];omega
  have cj:=(axE ps.reverse (by rw[aNy];omega) hfl).flat (H:=[.row ps.length (ps.reverse.map bD) 1 true]) (args:=[.ref 0 ps.length 0 ps.length ps.length,bD []]) rfl (by simp only[aO,mN (f:=bD) aqS (fun _=>rfl),Bool.and_true];rfl) (fz2 (IE hr2 (by simp) (aKx _) (fO fun _=>rfl)) (aL rfl)) rfl
  simp only[Kj,g3,cj,VX,Nat.reduceEqDiff,Nat.reduceAdd]
  rw[←aeU]
  exact aL rfl
 ·have hz:(0:Int)<((aD 4294967296 q).length:Int):=AD.2 TS
  have hql:=eZ (b:=4294967296) (by decide) hq
  have c1:TC 197 [bR q,.sc (.int .u32 1000000000)] (.eG [bR (q / 1000000000),uV (q % 1000000000)]):=As q 1000000000 (by decide) (by decide) (by omega)
  have hm:=aKZ q (show 0<1000000000 by decide)
  have c2:=ayS (q % 1000000000) (by omega)
  have wm:IntKind.u64.wrap ((q % 1000000000:Nat):Int)=((q % 1000000000:Nat):Int):=eR _ (by omega)
  have hdq:=kQ (b:=1000000000) (by decide) TS
  have aID:(aD 1000000000 q).length=(aD 1000000000 (q / 1000000000)).length+1:=by rw[hdq];rfl
  have hdr:=D5 (q % 1000000000) 8 hm
  have hqq:=Nat.mod_add_div q 1000000000
  have e2:∀x:List UInt8,mR false [.string ⟨#[]⟩] 1 [(0,bD x)] [.row ps.length (ps.map bD) 1 true]=some (.tree [bD x] (.cl 1),[.row ps.length (ps.map bD) 1 true]):=fun x=>iX (z:=[.string ⟨#[]⟩]) rfl rfl rfl
  have e3:∀x:List UInt8,cW 1 (.tree [bD x] (.cl 1)) [.row ps.length (ps.map bD) 1 true]=some [bD x]:=fun x=>eV rfl rfl
  have e4:∀x:List UInt8,dP 0 1 16 (.ref 0 ps.length 0 ps.length ps.length) [bD x] [.row ps.length (ps.map bD) 1 true]=some (.ref 0 (ps.length+1) 0 (ps.length+1) (ps.length+1),[.row (ps.length+1) ((ps++[x]).map bD) 1 true]):=fun x=>by
   rw[jQ (f:=bD) (x:=x) aT rfl (aKx _) (by decide) (by decide) (by omega)]
   rfl
  have hle:q / 1000000000<q:=Nat.div_lt_self (by omega) (by decide)
  by_cases hqz:q / 1000000000=0
  ·have NJ:¬(0:Int)<((aD 4294967296 (q / 1000000000)).length:Int):=by rw[AD];omega
   simp only[oX,g0,g3,dN,hz,c1,c2,wm,NJ,e2,e3,e4,VX,Nat.reduceEqDiff,Nat.reduceAdd]
   refine⟨(q / 1000000000,ps++[decDigits (q % 1000000000)]),hle,by simp,by simp only;omega,by simp only[aKI,aMM];omega,?_,rfl,by simp⟩
   rw[aeU,uR,if_neg TS,uR,if_pos hqz,aNz,aLP,aNA,aNB,List.flatten_cons,show q % 1000000000=q by omega]
  ·have NJ:(0:Int)<((aD 4294967296 (q / 1000000000)).length:Int):=AD.2 hqz
   have ws:IntKind.i64.wrap ((9:Int)-((decDigits (q % 1000000000)).length:Int))=((9-(decDigits (q % 1000000000)).length:Nat):Int):=wrapN _ (by omega) (by omega)
   have c3:=akN [48] (9-(decDigits (q % 1000000000)).length) (by simp;omega) (by omega)
   have alB:repeatL [48] (9-(decDigits (q % 1000000000)).length)++decDigits (q % 1000000000)=E9 9 (q % 1000000000):=by
    rw[avU 8 _ hm]
    congr 1
    have:=repeatL_replicate 48 1 (9-(decDigits (q % 1000000000)).length)
    rw[Nat.mul_one] at this
    exact this
   have c4:=zD (repeatL [48] (9-(decDigits (q % 1000000000)).length)) (decDigits (q % 1000000000)) (by rw[←aKI,alB,asL];decide)
   rw[alB] at c4
   simp only[oX,g0,g3,dN,hz,c1,c2,wm,NJ,bP,ws,c3,c4,e2,e3,e4,VX,Nat.reduceEqDiff,Nat.reduceAdd]
   refine⟨(q / 1000000000,ps++[E9 9 (q % 1000000000)]),hle,by simp,by simp only;omega,by simp only[aKI,aMM];omega,?_,rfl,by simp⟩
   rw[aeU,uR,if_neg TS,uR,if_neg hqz,aNz,aNA,aNB,List.flatten_cons,←List.append_assoc,←K9 (by omega) hm]
   congr 2
   omega
end Go.PM
namespace Go.PM
open Go.Lib
def aF (q:Rat):VV := .agg [VB (decide (q.num<0)),bR q.num.natAbs,bR q.den]
theorem fZ (q:Rat):aY (aF q)=true:=by simp[aF,aY,aO,bU,qC]
theorem pO (q:Rat):gZ (aF q)=true:=by simp[aF,gZ,sK,tQ,qC]
theorem DQ {q:Rat} {neg:Bool} {t b:Nat} (h0:q.num<0↔neg=true) (h1:q.num.natAbs=t) (h2:q.den=b):aF q = .agg [VB neg,bR t,bR b]:=by
 subst h1 h2
 unfold aF
 congr 4
 cases neg<;>simp_all
theorem arF {neg:Bool} {t b:Nat} (hb:b≠0) (ht:t≠0):aF (mkRat (mG neg t) b) = .agg [VB neg,bR (t / aNf t b),bR (b / aNf t b)]:=by
 refine DQ ?_ ?_ (Ss hb)
 ·rw[H9 hb,S9]
  have h1:t / aNf t b≠0:=by
   have:=Nat.div_pos (aNg (by omega) (aNh t b)) (aNi b (by omega))
   omega
  simp[h1]
 ·rw[H9 hb,qV]
theorem aeO:aF 0 = .agg [VB false,.tree [] .op,bR 1]:=by
 rw[DQ (q:=0) (neg:=false) (t:=0) (b:=1) (by simp) rfl rfl,Gt]
theorem bA (n:Nat):bO (bR n)=true:=rfl
theorem aZ (n:Nat):isAny (bR n)=false:=rfl
theorem aS (n:Nat):aB (bR n)=[bR n]:=rfl
theorem cM (q:Rat):isAny (aF q)=false:=rfl
theorem aJ (q:Rat):aB (aF q)=[VB (decide (q.num<0)),bR q.num.natAbs,bR q.den]:=rfl
theorem bI (q:Rat):dO true 3 (aF q) 0=some (aF q):=rfl
theorem kY (q:Rat):dO false 1 (aF q) 0=some (VB (decide (q.num<0))):=rfl
theorem kT (q:Rat):dO false 1 (aF q) 1=some (bR q.num.natAbs):=rfl
theorem nN (q:Rat):dO false 1 (aF q) 2=some (bR q.den):=rfl
theorem tZ {d:Nat} {H:aA} {u u' v v' w w':VV} (h1:fz (d+1) H u=some u') (h2:fz (d+1) H v=some v') (h3:fz (d+1) H w=some w'):fz (d+2) H (.agg [u,v,w])=some (.agg [u',v',w']):=by
 have e:fz (d+2) H (.agg [u,v,w])=if aY (.agg [u,v,w])=true then some (.agg [u,v,w]) else ([u,v,w].mapM (fz (d+1) H)).map .agg:=rfl
 rw[e]
 by_cases hp:aY (.agg [u,v,w])=true
 ·rw[if_pos hp]
  simp only[aY,aO,Bool.and_eq_true,and_true] at hp
  rw[aN hp.1] at h1
  rw[aN hp.2.1] at h2
  rw[aN hp.2.2] at h3
  cases h1
  cases h2
  cases h3
  rfl
 ·rw[if_neg hp,aLU,h1,aLU,h2,aLU,h3]
  rfl
theorem aiP {d:Nat} {H:aA} {v:Value} (h:qC v=true):fz (d+1) H (.sc v)=some (.sc v):=aN h
theorem zT {H:aA} {neg:Bool} {t b:Nat}:fz depth H (.agg [VB neg,bR t,bR b])=some (.agg [VB neg,bR t,bR b]):=aL (by simp[aY,aO,bU,qC])
theorem uD {H:aA} (q:Rat):fz depth H (aF q)=some (aF q):=aL (fZ q)
theorem aBm {n:Nat} (h:bl n≤2199023255552):(aD 4294967296 n).length≤68719476736:=by
 have:=avM n
 omega
theorem gK {n:Nat} (h:bl n≤4398046511104):(aD 4294967296 n).length≤17592186044416:=by
 have:=avM n
 omega
theorem tP (neg:Bool) (t b:Nat) (hb:b≠0) (ht:bl t≤4398046511104) (zB:bl b≤4398046511104):TC 144 [VB neg,bR t,bR b] (aF (mkRat (mG neg t) b)):=by
 refine TC.walk ⟨true,false⟩ Qk rfl (aMl rfl) (by simp[aO,bU,aY,qC]) (pO _) ?_
 by_cases h0:t=0
 ·subst h0
  have hl:(((aD 4294967296 0).length:Nat):Int)=0:=by rw[cF];rfl
  have c1:TC 139 [.sc (.int .u64 1)] (bR 1):=oW 1 (by decide)
  rw[AX,Rat.zero_mkRat,aeO,←Gt]
  simp only[zG,tW,dN,hl,c1,bA,aZ,aS,gH,Nat.reduceLeDiff,Nat.reduceLT,Nat.reduceSub,VX,Nat.reduceEqDiff,Nat.reduceAdd]
  exact tZ (aiP rfl) AI (aN (bU _))
 ·have hl:¬(((aD 4294967296 t).length:Nat):Int)=0:=by have:=AD.2 h0;omega
  have c1:=Fg t b (gK ht) (gK zB)
  have hg0:aNf t b≠0:=aNC hb
  have hgl:bl (aNf t b)≤4398046511104:=aKy (lZ (Nat.gcd_le_right t (by omega))) zB
  have c2:=BE t _ hg0 (gK ht) (gK hgl)
  have c3:=BE b _ hg0 (gK zB) (gK hgl)
  rw[arF hb h0]
  by_cases h1:((aD 4294967296 (aNf t b)).length:Int)=1
  ·obtain⟨d,hd⟩:∃d,aD 4294967296 (aNf t b)=[d]:=aNu.1 (by omega)
   obtain⟨hgd,_,_⟩:=UE hd
   have e1:bJ 1 (bR (aNf t b)) (.sc (.int .i64 0)) [.row 0 [.agg [VB false,.tree [] .nil,.tree [] .nil]] 3 true]=some (.cI (uV d) 0):=aH (f:=uV) (xs:=aD 4294967296 (aNf t b)) (i:=0) (k := .i64) (by rw[hd];rfl) rfl
   by_cases h2:(d:Int)=1
   ·have hg1:aNf t b=1:=by omega
    simp only[zG,tW,dN,hl,c1,h1,h2,e1,bA,aZ,aS,gH,Nat.reduceLeDiff,Nat.reduceLT,Nat.reduceSub,VX,Nat.reduceEqDiff,Nat.reduceAdd]
    rw[hg1,aNm,aNm]
    exact zT
   ·simp only[zG,tW,dN,hl,c1,c2,c3,h1,h2,e1,bA,aZ,aS,gH,Nat.reduceLeDiff,Nat.reduceLT,Nat.reduceSub,VX,Nat.reduceEqDiff,Nat.reduceAdd]
    exact zT
  ·simp only[zG,tW,dN,hl,c1,c2,c3,h1,bA,aZ,aS,gH,Nat.reduceLeDiff,Nat.reduceLT,Nat.reduceSub,VX,Nat.reduceEqDiff,Nat.reduceAdd]
   exact zT
theorem afL {n:Int} (h0 : -9223372036854775808≤n) (h:n<0):IntKind.u64.wrap (0-IntKind.u64.wrap n)=(n.natAbs:Int):=by
 rw[wrap_u64,wrap_u64]
 omega
theorem Kn (n:Int) (h0 : -9223372036854775808≤n) (h1:n≤9223372036854775807):TC 140 [VI n] (VK .u64 (n.natAbs:Int)):=by
 refine TC.walk ⟨true,false⟩ KO rfl (aMl rfl) rfl rfl ?_
 by_cases h:n<0
 ·simp only[Bu,xO,h,afL h0 h,VX,Nat.reduceEqDiff,Nat.reduceAdd]
  exact aL rfl
 ·have w:IntKind.u64.wrap n=(n.natAbs:Int):=by rw[wrap_u64];omega
  simp only[Bu,xO,h,w,VX,Nat.reduceEqDiff,Nat.reduceAdd]
  exact aL rfl
theorem ahH (n:Int):aF (n:Rat) = .agg [VB (decide (n<0)),bR n.natAbs,bR 1]:=DQ (by simp) (by simp) (by simp)
theorem kU (n:Int) (h0 : -9223372036854775808≤n) (h1:n≤9223372036854775807):TC 64 [VI n] (aF (n:Rat)):=by
 refine TC.walk ⟨true,false⟩ SY rfl (aMl rfl) rfl (pO _) ?_
 have c1:=Kn n h0 h1
 have c2:=oW n.natAbs (by omega)
 have c3:TC 139 [.sc (.int .u64 1)] (bR 1):=oW 1 (by decide)
 rw[ahH]
 simp only[NR,I3,c1,c2,c3,bA,aZ,aS,gH,Nat.reduceLeDiff,Nat.reduceLT,Nat.reduceSub,VX,Nat.reduceEqDiff,Nat.reduceAdd]
 exact zT
theorem NL {q:Rat}:(((aD 4294967296 q.num.natAbs).length:Nat):Int)=0↔q.num=0:=by
 have:=AD (n:=q.num.natAbs)
 omega
theorem dI (q:Rat):TC 68 [aF q] (VI (jJ q)):=by
 refine TC.walk ⟨true,false⟩ JV rfl (aMl rfl) (by simp[aO,fZ]) rfl ?_
 unfold jJ
 by_cases h0:q.num=0
 ·have hl:=NL.2 h0
  rw[if_pos h0]
  simp only[uC,qM,dN,hl,aJ,kY,kT,bA,aZ,aS,gH,Nat.reduceLeDiff,Nat.reduceLT,Nat.reduceSub,VX,Nat.reduceEqDiff,Nat.reduceAdd]
  exact aL rfl
 ·have hl:¬(((aD 4294967296 q.num.natAbs).length:Nat):Int)=0:=fun h=>h0 (NL.1 h)
  rw[if_neg h0]
  by_cases h1:q.num<0
  ·simp only[uC,qM,dN,hl,h1,aJ,kY,kT,bA,aZ,aS,gH,Nat.reduceLeDiff,Nat.reduceLT,Nat.reduceSub,VX,Nat.reduceEqDiff,Nat.reduceAdd]
   exact aL rfl
  ·simp only[uC,qM,dN,hl,h1,aJ,kY,kT,bA,aZ,aS,gH,Nat.reduceLeDiff,Nat.reduceLT,Nat.reduceSub,VX,Nat.reduceEqDiff,Nat.reduceAdd]
   exact aL rfl
theorem Dv (q:Rat):TC 177 [aF q] (aF (-q)):=by
 refine TC.walk ⟨true,false⟩ IB rfl (aMl rfl) (by simp[aO,fZ]) (pO _) ?_
 have hq:aF (-q) = .agg [VB (decide (0<q.num)),bR q.num.natAbs,bR q.den]:=DQ (by simp) (by simp) (by simp)
 rw[hq]
 by_cases h1:q.num<0
 ·have h2:¬0<q.num:=by omega
  simp only[sG,pC,dN,h1,h2,aJ,kY,kT,nN,bA,aZ,aS,gH,Nat.reduceLeDiff,Nat.reduceLT,Nat.reduceSub,VX,Nat.reduceEqDiff,Nat.reduceAdd]
  exact zT
 ·by_cases h0:q.num=0
  ·have hl:¬(0:Int)<((aD 4294967296 q.num.natAbs).length:Int):=by have:=NL.2 h0;omega
   have h2:¬0<q.num:=by omega
   simp only[sG,pC,dN,hl,h1,h2,aJ,kY,kT,nN,bA,aZ,aS,gH,Nat.reduceLeDiff,Nat.reduceLT,Nat.reduceSub,VX,Nat.reduceEqDiff,Nat.reduceAdd]
   exact zT
  ·have hl:(0:Int)<((aD 4294967296 q.num.natAbs).length:Int):=by have:=mt NL.1 h0;omega
   have h2:0<q.num:=by omega
   simp only[sG,pC,dN,hl,h1,h2,aJ,kY,kT,nN,bA,aZ,aS,gH,Nat.reduceLeDiff,Nat.reduceLT,Nat.reduceSub,VX,Nat.reduceEqDiff,Nat.reduceAdd]
   exact zT
end Go.PM
namespace Go.PM
open Go.Lib
theorem xQ (a b:Bool):Ol false (.bool a) (.bool b)=some (.bool (a == b)):=by
 show some (Value.bool ((a == b) != false))=_
 rw[Bool.bne_false]
theorem Ak (a b:Bool):Ol true (.bool a) (.bool b)=some (.bool (a != b)):=by
 show some (Value.bool ((a == b) != true))=_
 cases a<;>cases b<;>rfl
theorem uM {q:Rat} {k:Nat} (h:aK q≤k):bl q.num.natAbs≤k:=aKy qB h
theorem uX {q:Rat} {k:Nat} (h:aK q≤k):bl q.den≤k:=aKy oB h
theorem Lh {X Y B:Nat} {a b:Rat} (hB:B≠0) (ha:mkRat (mG (decide (a.num<0)) X) B=a) (hb:mkRat (mG (decide (b.num<0)) Y) B=b) :
  ((decide (a.num<0))=(decide (b.num<0))→mkRat (mG (decide (a.num<0)) (X+Y)) B=a+b) ∧
  ((decide (a.num<0))≠(decide (b.num<0))→Y≤X→mkRat (mG (decide (a.num<0)) (X-Y)) B=a+b) ∧
  ((decide (a.num<0))≠(decide (b.num<0))→X≤Y→mkRat (mG (decide (b.num<0)) (Y-X)) B=a+b):=by
 refine⟨fun h => ?_,fun h hx => ?_,fun h hx => ?_⟩
 ·conv=>rhs;rw[←ha,←hb,Gl _ _ hB,←h,S6]
 ·conv=>rhs;rw[←ha,←hb,Gl _ _ hB,Yp h hx]
 ·conv=>rhs;rw[←ha,←hb,Gl _ _ hB,XL h hx]
theorem oD (a b:Rat) (Mu:aK a≤1099511627776) (IU:aK b≤1099511627776):TC 69 [aF a,aF b] (aF (a+b)):=by
 refine TC.walk ⟨true,false⟩ Ls rfl (aMl rfl) (by simp[aO,fZ]) (pO _) ?_
 have ca:=dI a
 have cb:=dI b
 by_cases ha0:a.num=0
 ·have:a=0:=aNs.1 ha0
  rw[lB ha0] at ca
  rw[this,Rat.zero_add,←this]
  simp only[iL,fE,ca,cb,aJ,bI,cM,bA,aZ,aS,gH,Nat.reduceLeDiff,Nat.reduceLT,Nat.reduceSub,VX,Nat.reduceEqDiff,Nat.reduceAdd]
  exact uD _
 have hsa:¬jJ a=0:=fun h=>ha0 (aNs.2 (Ey.1 h))
 by_cases Qp:b.num=0
 ·have:b=0:=aNs.1 Qp
  rw[lB Qp] at cb
  rw[this,Rat.add_zero,←this]
  simp only[iL,fE,ca,cb,hsa,aJ,bI,cM,bA,aZ,aS,gH,Nat.reduceLeDiff,Nat.reduceLT,Nat.reduceSub,VX,Nat.reduceEqDiff,Nat.reduceAdd]
  exact uD _
 have hsb:¬jJ b=0:=fun h=>Qp (aNs.2 (Ey.1 h))
 have la:=uM Mu
 have lb:=uM IU
 have lda:=uX Mu
 have ldb:=uX IU
 have fin:∀(X Y B:Nat),bl X≤2199023255552→bl Y≤2199023255552→bl B≤2199023255552→B≠0→mkRat (mG (decide (a.num<0)) X) B=a→mkRat (mG (decide (b.num<0)) Y) B=b →
   TC 145 [bR X,bR Y] (bR (X+Y))∧TC 142 [bR X,bR Y] (VI (gC X Y)) ∧
   (Y≤X→TC 146 [bR X,bR Y] (bR (X-Y)))∧(X≤Y→TC 146 [bR Y,bR X] (bR (Y-X))) ∧
   (∀neg,TC 144 [VB neg,bR (X+Y),bR B] (aF (mkRat (mG neg (X+Y)) B))) ∧
   (∀neg,TC 144 [VB neg,bR (X-Y),bR B] (aF (mkRat (mG neg (X-Y)) B))) ∧
   (∀neg,TC 144 [VB neg,bR (Y-X),bR B] (aF (mkRat (mG neg (Y-X)) B))):=by
  intro X Y B hX hY hB hB0 _ _
  refine⟨FP X Y (gK (by omega)) (gK (by omega)),lS X Y (gK (by omega)) (gK (by omega)),fun h=>Gm X Y h (gK (by omega)),fun h=>Gm Y X h (gK (by omega)),fun neg=>tP neg _ _ hB0 ?_ (by omega),fun neg=>tP neg _ _ hB0 ?_ (by omega),fun neg=>tP neg _ _ hB0 ?_ (by omega)⟩
  ·exact aKy (YK hX hY) (by omega)
  ·exact aKy (lZ (aND _ _)) (by omega)
  ·exact aKy (lZ (aND _ _)) (by omega)
 by_cases hd:a.den=b.den
 ·have hBn:=a.den_nz
  have cc:=lS a.den b.den (gK (by omega)) (gK (by omega))
  rw[show gC a.den b.den=0 from AR.2 hd] at cc
  have eb:mkRat (mG (decide (b.num<0)) b.num.natAbs) a.den=b:=by rw[hd,NK]
  obtain⟨f1,f2,f3,f4,f5,f6,f7⟩:=fin a.num.natAbs b.num.natAbs a.den (by omega) (by omega) (by omega) hBn (NK a) eb
  obtain⟨p1,p2,p3⟩:=Lh hBn (NK a) eb
  by_cases hn:decide (a.num<0)=decide (b.num<0)
  ·have W2:(decide (a.num<0) == decide (b.num<0))=true:=by simpa using hn
   rw[←p1 hn]
   simp only[iL,fE,ca,cb,hsa,hsb,cc,f1,f5,xQ,Ak,W2,aJ,bI,kY,kT,nN,cM,bA,aZ,aS,gH,Nat.reduceLeDiff,Nat.reduceLT,Nat.reduceSub,VX,Nat.reduceEqDiff,Nat.reduceAdd]
   exact uD _
  ·have W2:(decide (a.num<0) == decide (b.num<0))=false:=by simpa using hn
   by_cases hx:(0:Int)≤gC a.num.natAbs b.num.natAbs
   ·have hle:b.num.natAbs≤a.num.natAbs:=by have := @AH a.num.natAbs b.num.natAbs;omega
    have c3:=f3 hle
    rw[←p2 hn hle]
    simp only[iL,fE,ca,cb,hsa,hsb,cc,f2,c3,f6,hx,xQ,Ak,W2,aJ,bI,kY,kT,nN,cM,bA,aZ,aS,gH,Nat.reduceLeDiff,Nat.reduceLT,Nat.reduceSub,VX,Nat.reduceEqDiff,Nat.reduceAdd]
    exact uD _
   ·have hle:a.num.natAbs≤b.num.natAbs:=by have := @AH a.num.natAbs b.num.natAbs;omega
    have c3:=f4 hle
    rw[←p3 hn hle]
    simp only[iL,fE,ca,cb,hsa,hsb,cc,f2,c3,f7,hx,xQ,Ak,W2,aJ,bI,kY,kT,nN,cM,bA,aZ,aS,gH,Nat.reduceLeDiff,Nat.reduceLT,Nat.reduceSub,VX,Nat.reduceEqDiff,Nat.reduceAdd]
    exact uD _
 ·have hBn:=aNj a.den_nz b.den_nz
  have cc:=lS a.den b.den (gK (by omega)) (gK (by omega))
  have TY:¬gC a.den b.den=0:=fun h=>hd (AR.1 h)
  have m1:=jP a.num.natAbs b.den (gK (by omega)) (gK (by omega))
  have m2:=jP b.num.natAbs a.den (gK (by omega)) (gK (by omega))
  have m3:=jP a.den b.den (gK (by omega)) (gK (by omega))
  have ea:mkRat (mG (decide (a.num<0)) (a.num.natAbs*b.den)) (a.den*b.den)=a:=GG a b.den_nz
  have eb:mkRat (mG (decide (b.num<0)) (b.num.natAbs*a.den)) (a.den*b.den)=b:=by rw[aLZ a.den];exact GG b a.den_nz
  have k1:=nU a.num.natAbs b.den
  have k2:=nU b.num.natAbs a.den
  have k3:=nU a.den b.den
  obtain⟨f1,f2,f3,f4,f5,f6,f7⟩:=fin _ _ _ (by omega) (by omega) (by omega) hBn ea eb
  obtain⟨p1,p2,p3⟩:=Lh hBn ea eb
  by_cases hn:decide (a.num<0)=decide (b.num<0)
  ·have W2:(decide (a.num<0) == decide (b.num<0))=true:=by simpa using hn
   rw[←p1 hn]
   simp only[iL,fE,ca,cb,hsa,hsb,cc,TY,m1,m2,m3,f1,f5,xQ,Ak,W2,aJ,bI,kY,kT,nN,cM,bA,aZ,aS,gH,Nat.reduceLeDiff,Nat.reduceLT,Nat.reduceSub,VX,Nat.reduceEqDiff,Nat.reduceAdd]
   exact uD _
  ·have W2:(decide (a.num<0) == decide (b.num<0))=false:=by simpa using hn
   by_cases hx:(0:Int)≤gC (a.num.natAbs*b.den) (b.num.natAbs*a.den)
   ·have hle:b.num.natAbs*a.den≤a.num.natAbs*b.den:=by have := @AH (a.num.natAbs*b.den) (b.num.natAbs*a.den);omega
    have c3:=f3 hle
    rw[←p2 hn hle]
    simp only[iL,fE,ca,cb,hsa,hsb,cc,TY,m1,m2,m3,f2,c3,f6,hx,xQ,Ak,W2,aJ,bI,kY,kT,nN,cM,bA,aZ,aS,gH,Nat.reduceLeDiff,Nat.reduceLT,Nat.reduceSub,VX,Nat.reduceEqDiff,Nat.reduceAdd]
    exact uD _
   ·have hle:a.num.natAbs*b.den≤b.num.natAbs*a.den:=by have := @AH (a.num.natAbs*b.den) (b.num.natAbs*a.den);omega
    have c3:=f4 hle
    rw[←p3 hn hle]
    simp only[iL,fE,ca,cb,hsa,hsb,cc,TY,m1,m2,m3,f2,c3,f7,hx,xQ,Ak,W2,aJ,bI,kY,kT,nN,cM,bA,aZ,aS,gH,Nat.reduceLeDiff,Nat.reduceLT,Nat.reduceSub,VX,Nat.reduceEqDiff,Nat.reduceAdd]
    exact uD _
theorem Be (a b:Rat) (Mu:aK a≤1099511627776) (IU:aK b≤1099511627776):TC 128 [aF a,aF b] (aF (a-b)):=by
 refine TC.walk ⟨true,false⟩ KN rfl (aMl rfl) (by simp[aO,fZ]) (pO _) ?_
 have c1:=Dv b
 have c2:=oD a (-b) Mu (by rw[GU];exact IU)
 rw[←Rat.sub_eq_add_neg] at c2
 simp only[FJ,Dz,c1,c2,aJ,bI,cM,bA,aZ,aS,gH,Nat.reduceLeDiff,Nat.reduceLT,Nat.reduceSub,VX,Nat.reduceEqDiff,Nat.reduceAdd]
 exact uD _
theorem jO (a b:Rat) (Mu:aK a≤1099511627776) (IU:aK b≤1099511627776):TC 132 [aF a,aF b] (aF (a*b)):=by
 refine TC.walk ⟨true,false⟩ K0 rfl (aMl rfl) (by simp[aO,fZ]) (pO _) ?_
 have ca:=dI a
 have cb:=dI b
 have c0:TC 64 [VI 0] (aF 0):=kU 0 (by decide) (by decide)
 by_cases ha0:a.num=0
 ·have:a=0:=aNs.1 ha0
  rw[lB ha0] at ca
  rw[show a*b=0 by rw[this,Rat.zero_mul]]
  simp only[wR,sF,ca,cb,c0,aJ,bI,cM,bA,aZ,aS,gH,Nat.reduceLeDiff,Nat.reduceLT,Nat.reduceSub,VX,Nat.reduceEqDiff,Nat.reduceAdd]
  exact uD _
 have hsa:¬jJ a=0:=fun h=>ha0 (aNs.2 (Ey.1 h))
 by_cases Qp:b.num=0
 ·have:b=0:=aNs.1 Qp
  rw[lB Qp] at cb
  rw[show a*b=0 by rw[this,Rat.mul_zero]]
  simp only[wR,sF,ca,cb,hsa,c0,aJ,bI,cM,bA,aZ,aS,gH,Nat.reduceLeDiff,Nat.reduceLT,Nat.reduceSub,VX,Nat.reduceEqDiff,Nat.reduceAdd]
  exact uD _
 have hsb:¬jJ b=0:=fun h=>Qp (aNs.2 (Ey.1 h))
 have la:=uM Mu
 have lb:=uM IU
 have lda:=uX Mu
 have ldb:=uX IU
 have l1:=tP false a.num.natAbs b.den b.den_nz (by omega) (by omega)
 have l2:=tP false b.num.natAbs a.den a.den_nz (by omega) (by omega)
 obtain⟨d1,d2⟩:=Er a.num.natAbs b.den_nz
 obtain⟨d3,d4⟩:=Er b.num.natAbs a.den_nz
 have b1:=lZ (aNg (by omega) d1)
 have b2:=lZ (aNg (Nat.pos_of_ne_zero b.den_nz) d2)
 have b3:=lZ (aNg (by omega) d3)
 have b4:=lZ (aNg (Nat.pos_of_ne_zero a.den_nz) d4)
 obtain⟨e1,e2⟩:=adO a b
 have e3:=Vl ha0 Qp
 generalize mkRat (mG false a.num.natAbs) b.den=u at *
 generalize mkRat (mG false b.num.natAbs) a.den=v at *
 have m1:=jP u.num.natAbs v.num.natAbs (gK (by omega)) (gK (by omega))
 have m2:=jP u.den v.den (gK (by omega)) (gK (by omega))
 rw[DQ e3 e1 e2]
 simp only[wR,sF,ca,cb,hsa,hsb,l1,l2,m1,m2,xQ,Ak,aJ,bI,kY,kT,nN,cM,bA,aZ,aS,gH,Nat.reduceLeDiff,Nat.reduceLT,Nat.reduceSub,VX,Nat.reduceEqDiff,Nat.reduceAdd]
 exact zT
theorem ajU {b:Rat} (h:b≠0):aF b⁻¹ = .agg [VB (decide (b.num<0)),bR b.den,bR b.num.natAbs]:=by
 have hn:b.num≠0:=fun hn=>h (aNs.1 hn)
 have hd:(0:Int)<b.den:=by have:=b.den_nz;omega
 refine DQ ?_ ?_ ?_
 ·rw[Rat.num_inv,decide_eq_true_eq]
  rcases aNn hn with h1 | h1
  ·rw[aNE h1];omega
  ·rw[aNF h1];omega
 ·rw[Rat.num_inv,aNb,Int.natAbs_natCast]
  rcases aNn hn with h1 | h1
  ·rw[aNE h1];simp
  ·rw[aNF h1];simp
 ·rw[Rat.den_inv,if_neg hn]
theorem Af (a b:Rat) (hb:b≠0) (Mu:aK a≤1099511627776) (IU:aK b≤1099511627776):TC 129 [aF a,aF b] (aF (a / b)):=by
 refine TC.walk ⟨true,false⟩ IV rfl (aMl rfl) (by simp[aO,fZ]) (pO _) ?_
 have c1:=jO a b⁻¹ Mu (aKy (RI b) IU)
 rw[←Rat.div_def,ajU hb] at c1
 simp only[EU,B2,c1,aJ,bI,kY,kT,nN,cM,bA,aZ,aS,gH,Nat.reduceLeDiff,Nat.reduceLT,Nat.reduceSub,VX,Nat.reduceEqDiff,Nat.reduceAdd]
 exact uD _
theorem My (q:Rat) : -1≤jJ q∧jJ q≤1:=by
 rcases aNq q.num 0 with h | h | h
 ·rw[oP h];omega
 ·rw[lB h];omega
 ·rw[oV h];omega
theorem Xh (m n:Nat) : -1≤gC m n∧gC m n≤1:=by
 rcases Nat.lt_trichotomy m n with h | h | h
 ·rw[gC,if_pos h];omega
 ·subst h;rw[gC,if_neg (by omega),if_pos rfl];omega
 ·rw[gC,if_neg (by omega),if_neg (by omega)];omega
theorem O5 (a b:Rat) (Mu:aK a≤1099511627776) (IU:aK b≤1099511627776):TC 148 [aF a,aF b] (VI (QB a b)):=by
 refine TC.walk ⟨true,false⟩ KW rfl (aMl rfl) (by simp[aO,fZ]) rfl ?_
 have ca:=dI a
 have cb:=dI b
 have la:=uM Mu
 have lb:=uM IU
 have lda:=uX Mu
 have ldb:=uX IU
 have k1:=nU a.num.natAbs b.den
 have k2:=nU b.num.natAbs a.den
 have m1:=jP a.num.natAbs b.den (gK (by omega)) (gK (by omega))
 have m2:=jP b.num.natAbs a.den (gK (by omega)) (gK (by omega))
 have c1:=lS (a.num.natAbs*b.den) (b.num.natAbs*a.den) (gK (by omega)) (gK (by omega))
 have ra:=My a
 have rb:=My b
 have rc:=Xh (a.num.natAbs*b.den) (b.num.natAbs*a.den)
 unfold QB
 by_cases hs:jJ a=jJ b
 ·rw[if_pos hs]
  have w:IntKind.i64.wrap (0-gC (a.num.natAbs*b.den) (b.num.natAbs*a.den)) = -gC (a.num.natAbs*b.den) (b.num.natAbs*a.den):=by rw[wrap64 (by omega) (by omega)];omega
  by_cases hn:a.num<0
  ·rw[if_pos hn]
   simp only[wS,sW,ca,cb,hs,m1,m2,c1,hn,w,aJ,bI,kY,kT,nN,cM,bA,aZ,aS,gH,Nat.reduceLeDiff,Nat.reduceLT,Nat.reduceSub,VX,Nat.reduceEqDiff,Nat.reduceAdd]
   exact aL rfl
  ·rw[if_neg hn]
   simp only[wS,sW,ca,cb,hs,m1,m2,c1,hn,aJ,bI,kY,kT,nN,cM,bA,aZ,aS,gH,Nat.reduceLeDiff,Nat.reduceLT,Nat.reduceSub,VX,Nat.reduceEqDiff,Nat.reduceAdd]
   exact aL rfl
 ·rw[if_neg hs]
  have w:IntKind.i64.wrap (jJ a-jJ b)=jJ a-jJ b:=wrap64 (by omega) (by omega)
  simp only[wS,sW,ca,cb,hs,w,aJ,bI,kY,kT,nN,cM,bA,aZ,aS,gH,Nat.reduceLeDiff,Nat.reduceLT,Nat.reduceSub,VX,Nat.reduceEqDiff,Nat.reduceAdd]
  exact aL rfl
theorem Lp (a:Rat) (Mu:aK a≤1099511627776):TC 161 [aF a] (VB (decide (a=1))):=by
 refine TC.walk ⟨true,false⟩ Ir rfl (aMl rfl) (by simp[aO,fZ]) rfl ?_
 have c1:=O5 a 1 Mu (by rw[AO];decide)
 have c2:TC 64 [VI 1] (aF 1):=kU 1 (by decide) (by decide)
 by_cases h:QB a 1=0
 ·rw[decide_eq_true (Ra.1 h)]
  simp only[yD,uS,c1,c2,h,aJ,bI,cM,bA,aZ,aS,gH,Nat.reduceLeDiff,Nat.reduceLT,Nat.reduceSub,VX,Nat.reduceEqDiff,Nat.reduceAdd]
  exact aL rfl
 ·rw[decide_eq_false (mt Ra.2 h)]
  simp only[yD,uS,c1,c2,h,aJ,bI,cM,bA,aZ,aS,gH,Nat.reduceLeDiff,Nat.reduceLT,Nat.reduceSub,VX,Nat.reduceEqDiff,Nat.reduceAdd]
  exact aL rfl
end Go.PM
namespace Go.PM
theorem tJ {n:Nat}:(0:Int)<((aD 1000000000 n).length:Int)↔n≠0:=by
 constructor
 ·intro h h0
  subst h0
  rw[cF] at h
  simp at h
 ·intro h
  have:=(nR (b:=1000000000) (by decide) (n:=n))
  have h2:aD 1000000000 n≠[]:=fun hx=>h (this.1 hx)
  have:=aNv.2 h2
  omega
theorem pK {n:Nat} (h:bl n≤4398046511104):(aD 1000000000 n).length<17592186044416:=by
 have:=auT n
 omega
theorem HY (a b:Nat) (ha:(aD 1000000000 a).length<17592186044416) (hb:(aD 1000000000 b).length<17592186044416):TC 170 [cA a,cA b] (cA (aNf a b)):=by
 refine TC.walk ⟨true,false⟩ Qo rfl (aMl rfl) (by simp[aO,cK]) (pR _) ?_
 simp only[L8,HK,VX,Nat.reduceEqDiff,Nat.reduceAdd]
 refine aP (fun(t:Nat×Nat) ρ H=>H=[]∧aNf t.1 t.2=aNf a b∧(aD 1000000000 t.1).length<17592186044416∧(aD 1000000000 t.2).length<17592186044416∧ρ 0=cA t.1∧ρ 1=cA t.2) (fun t=>t.2) (a,b) ⟨rfl,rfl,ha,hb,rfl,rfl⟩ ?_
 rintro⟨x,y⟩ ρ H ⟨rfl,hg,hx,hy,g0,g1⟩
 simp only at hg hx hy g0 g1
 by_cases hy0:y=0
 ·subst hy0
  have hl:¬(0:Int)<((aD 1000000000 0).length:Int):=by rw[tJ];omega
  rw[aNw] at hg
  simp only[Bl,g0,g1,cN,hl,VX,Nat.reduceEqDiff,Nat.reduceAdd]
  rw[hg]
  exact aL (cK _)
 ·have hl:(0:Int)<((aD 1000000000 y).length:Int):=tJ.2 hy0
  have c3:=xN x y hy0 hx hy
  have hm:=aKZ x (show 0<y by omega)
  simp only[Bl,g0,g1,cN,hl,c3,VX,Nat.reduceEqDiff,Nat.reduceAdd]
  refine⟨(y,x % y),hm,?_,hy,?_,rfl,rfl⟩
  ·simp only
   rw[←hg,aNx x y,Nat.gcd_rec y x,aNx]
  ·simp only
   have:=eZ (b:=1000000000) (by decide) (aLe hm)
   omega
def aM (q:Rat):VV := .agg [VB (decide (q.num<0)),cA q.num.natAbs,cA q.den]
theorem pU (q:Rat):aY (aM q)=true:=by simp[aM,aY,aO,cK,qC]
theorem wV (q:Rat):gZ (aM q)=true:=by simp[aM,gZ,sK,pR,qC]
theorem Nz {q:Rat} {neg:Bool} {t b:Nat} (h0:q.num<0↔neg=true) (h1:q.num.natAbs=t) (h2:q.den=b):aM q = .agg [VB neg,cA t,cA b]:=by
 subst h1 h2
 unfold aM
 congr 4
 cases neg<;>simp_all
theorem aR (n:Nat):bO (cA n)=true:=rfl
theorem bC (n:Nat):isAny (cA n)=false:=rfl
theorem aW (n:Nat):aB (cA n)=[cA n]:=rfl
theorem gM (q:Rat):isAny (aM q)=false:=rfl
theorem bT (q:Rat):aB (aM q)=[VB (decide (q.num<0)),cA q.num.natAbs,cA q.den]:=rfl
theorem cH (q:Rat):dO true 3 (aM q) 0=some (aM q):=rfl
theorem iH (q:Rat):dO false 1 (aM q) 0=some (VB (decide (q.num<0))):=rfl
theorem jS (q:Rat):dO false 1 (aM q) 1=some (cA q.num.natAbs):=rfl
theorem jN (q:Rat):dO false 1 (aM q) 2=some (cA q.den):=rfl
theorem sO {H:aA} {neg:Bool} {t b:Nat}:fz depth H (.agg [VB neg,cA t,cA b])=some (.agg [VB neg,cA t,cA b]):=aL (by simp[aY,aO,cK,qC])
theorem Cs {H:aA} (q:Rat):fz depth H (aM q)=some (aM q):=aL (pU q)
theorem ajN (n:Int):aM (n:Rat) = .agg [VB (decide (n<0)),cA n.natAbs,cA 1]:=Nz (by simp) (by simp) (by simp)
theorem Nq {n lo:Nat} {H:aA} {K:VV→aA→Prop} (h:(aD 1000000000 n).length≤17592186044416):dH 155 [cA n,.tree [VI 1] (.cl 1)] lo H K=K (VI (gC n 1)) H:=by
 have c:=zA n 1 h (by rw[Fo (by decide) (by decide) (by decide)];simp)
 have e:cA 1 = .tree [VI 1] .op:=by rw[cA,Fo (by decide) (by decide) (by decide)];rfl
 rw[e] at c
 exact TC.args c rfl (by simp only[aO,cK];rfl) (fz2 (aL (cK n)) (atV rfl)) (by simp only[List.flatMap_cons,List.flatMap_nil,DV (cK n),alU (es:=[VI 1]) rfl,List.append_nil]) lo K
theorem eO {d:Int} {H:aA}:mR false [.int .i64 0] 1 [(0,VI d)] H=some (.tree [VI d] (.cl 1),H):=wE
theorem gV {e:Nat} {es:List VV}:bO (.tree es (.cl e))=true:=rfl
theorem eK {k:TK} {es:List VV}:aB (.tree es k)=[.tree es k]:=rfl
theorem gT {k:TK} {es:List VV}:isAny (.tree es k)=false:=rfl
theorem TG {d:Nat} {H:aA}:fz (d+2) H (.tree [VI 1] (.cl 1))=some (cA 1):=by
 rw[amO]
 unfold fz
 have:aY (.tree [VI 1] (.cl 1))=false:=by simp[aY]
 simp only[this,aK9,if_false]
 rfl
theorem rL (neg:Bool) (t b:Nat) (hb:b≠0) (ht:bl t≤4398046511104) (zB:bl b≤4398046511104):TC 153 [VB neg,cA t,cA b] (aM (mkRat (mG neg t) b)):=by
 refine TC.walk ⟨true,false⟩ OZ rfl (aMl rfl) (by simp[aO,cK,aY,qC]) (wV _) ?_
 have hg0:aNf t b≠0:=aNC hb
 have hgl:bl (aNf t b)≤4398046511104:=aKy (lZ (Nat.gcd_le_right t (by omega))) zB
 have c1:=HY t b (pK ht) (pK zB)
 have c2:=xN t _ hg0 (pK ht) (pK hgl)
 have c3:=xN b _ hg0 (pK zB) (pK hgl)
 have c4:∀lo H K,_:=fun lo H K=>Nq (n:=aNf t b) (lo:=lo) (H:=H) (K:=K) (aLe (pK hgl))
 have Yf:aM (mkRat (mG neg t) b) = .agg [VB (neg&&decide (t / aNf t b≠0)),cA (t / aNf t b),cA (b / aNf t b)]:=by
  refine Nz ?_ (by rw[H9 hb,qV]) (Ss hb)
  rw[H9 hb,S9,Bool.and_eq_true,decide_eq_true_eq]
 rw[Yf]
 by_cases h1:gC (aNf t b) 1=0
 ·have hg1:=AR.1 h1
  have e1:t / aNf t b=t:=by rw[hg1,aNm]
  have e2:b / aNf t b=b:=by rw[hg1,aNm]
  rw[e1,e2]
  cases neg with
  |
   false =>
   simp only[pG,lU,c1,c4,h1,eO,aR,bC,aW,gH,Nat.reduceLeDiff,Nat.reduceLT,Nat.reduceSub,VX,Nat.reduceEqDiff,Nat.reduceAdd]
   exact sO
  |
   true =>
   by_cases h0:t=0
   ·have hl:¬(0:Int)<((aD 1000000000 t).length:Int):=by rw[tJ];omega
    simp only[pG,lU,c1,c4,h1,hl,cN,eO,aR,bC,aW,gH,Nat.reduceLeDiff,Nat.reduceLT,Nat.reduceSub,VX,Nat.reduceEqDiff,Nat.reduceAdd]
    rw[h0]
    exact sO
   ·have hl:(0:Int)<((aD 1000000000 t).length:Int):=tJ.2 h0
    simp only[pG,lU,c1,c4,h1,hl,cN,eO,aR,bC,aW,gH,Nat.reduceLeDiff,Nat.reduceLT,Nat.reduceSub,VX,Nat.reduceEqDiff,Nat.reduceAdd]
    rw[decide_eq_true h0]
    exact sO
 ·cases neg with
  |
   false =>
   simp only[pG,lU,c1,c2,c3,c4,h1,eO,aR,bC,aW,gH,Nat.reduceLeDiff,Nat.reduceLT,Nat.reduceSub,VX,Nat.reduceEqDiff,Nat.reduceAdd]
   exact sO
  |
   true =>
   generalize t / aNf t b=t' at *
   by_cases h0:t'=0
   ·have hl:¬(0:Int)<((aD 1000000000 t').length:Int):=by rw[tJ];omega
    simp only[pG,lU,c1,c2,c3,c4,h1,hl,cN,eO,aR,bC,aW,gH,Nat.reduceLeDiff,Nat.reduceLT,Nat.reduceSub,VX,Nat.reduceEqDiff,Nat.reduceAdd]
    rw[h0]
    exact sO
   ·have hl:(0:Int)<((aD 1000000000 t').length:Int):=tJ.2 h0
    simp only[pG,lU,c1,c2,c3,c4,h1,hl,cN,eO,aR,bC,aW,gH,Nat.reduceLeDiff,Nat.reduceLT,Nat.reduceSub,VX,Nat.reduceEqDiff,Nat.reduceAdd]
    rw[decide_eq_true h0]
    exact sO
theorem yU (n:Int) (h0 : -9223372036854775808<n) (h1:n≤9223372036854775807):TC 130 [VI n] (aM (n:Rat)):=by
 refine TC.walk ⟨true,false⟩ Qs rfl (aMl rfl) rfl (wV _) ?_
 rw[ajN]
 by_cases h:n<0
 ·have w:IntKind.i64.wrap (0-n)=(n.natAbs:Int):=wrapN _ (by omega) (by omega)
  have c1:TC 178 [VI (n.natAbs:Int)] (cA n.natAbs):=tS (n.natAbs:Int) (by omega)
  rw[decide_eq_true h]
  simp only[FQ,CE,h,w,c1,eO,aR,bC,aW,gV,eK,gT,gH,Nat.reduceLeDiff,Nat.reduceLT,Nat.reduceSub,VX,Nat.reduceEqDiff,Nat.reduceAdd]
  exact tZ (d:=6) (aiP rfl) (aN (cK _)) (TG (d:=5))
 ·have c1:TC 178 [VI n] (cA n.natAbs):=by
   have:=tS n h1
   rwa [show n.toNat=n.natAbs by omega] at this
  rw[decide_eq_false h]
  simp only[FQ,CE,h,c1,eO,aR,bC,aW,gV,eK,gT,gH,Nat.reduceLeDiff,Nat.reduceLT,Nat.reduceSub,VX,Nat.reduceEqDiff,Nat.reduceAdd]
  exact tZ (d:=6) (aiP rfl) (aN (cK _)) (TG (d:=5))
theorem HJ:TC 83 [] (aM 1):=by
 refine TC.walk ⟨true,false⟩ QF rfl (aMl rfl) rfl (wV _) ?_
 have c1:TC 130 [VI 1] (aM 1):=yU 1 (by decide) (by decide)
 simp only[MC,HU,c1,bT,cH,gM,aR,gH,Nat.reduceLeDiff,Nat.reduceLT,Nat.reduceSub,VX,Nat.reduceEqDiff,Nat.reduceAdd]
 exact Cs _
theorem Bw:TC 77 [] (aM 0):=by
 refine TC.walk ⟨true,false⟩ N2 rfl (aMl rfl) rfl (wV _) ?_
 have c1:TC 130 [VI 0] (aM 0):=yU 0 (by decide) (by decide)
 simp only[IX,FT,c1,bT,cH,gM,aR,gH,Nat.reduceLeDiff,Nat.reduceLT,Nat.reduceSub,VX,Nat.reduceEqDiff,Nat.reduceAdd]
 exact Cs _
theorem Bi (q:Rat):TC 157 [aM q] (aM (-q)):=by
 refine TC.walk ⟨true,false⟩ HZ rfl (aMl rfl) (by simp[aO,pU]) (wV _) ?_
 have hq:aM (-q) = .agg [VB (decide (0<q.num)),cA q.num.natAbs,cA q.den]:=Nz (by simp) (by simp) (by simp)
 rw[hq]
 by_cases h1:q.num<0
 ·have h2:¬0<q.num:=by omega
  simp only[sT,oU,cN,h1,h2,bT,iH,jS,jN,aR,bC,aW,gH,Nat.reduceLeDiff,Nat.reduceLT,Nat.reduceSub,VX,Nat.reduceEqDiff,Nat.reduceAdd]
  exact sO
 ·by_cases h0:q.num=0
  ·have hl:¬(0:Int)<((aD 1000000000 q.num.natAbs).length:Int):=by rw[tJ];omega
   have h2:¬0<q.num:=by omega
   simp only[sT,oU,cN,hl,h1,h2,bT,iH,jS,jN,aR,bC,aW,gH,Nat.reduceLeDiff,Nat.reduceLT,Nat.reduceSub,VX,Nat.reduceEqDiff,Nat.reduceAdd]
   exact sO
  ·have hl:(0:Int)<((aD 1000000000 q.num.natAbs).length:Int):=by rw[tJ];omega
   have h2:0<q.num:=by omega
   simp only[sT,oU,cN,hl,h1,h2,bT,iH,jS,jN,aR,bC,aW,gH,Nat.reduceLeDiff,Nat.reduceLT,Nat.reduceSub,VX,Nat.reduceEqDiff,Nat.reduceAdd]
   exact sO
theorem tN (a b:Rat) (Mu:aK a≤1099511627776) (IU:aK b≤1099511627776):TC 79 [aM a,aM b] (aM (a+b)):=by
 refine TC.walk ⟨true,false⟩ Qc rfl (aMl rfl) (by simp[aO,pU]) (wV _) ?_
 have la:=uM Mu
 have lb:=uM IU
 have lda:=uX Mu
 have ldb:=uX IU
 have hBn:=aNj a.den_nz b.den_nz
 have m1:=fH a.num.natAbs b.den (aLe (pK (by omega))) (aLe (pK (by omega)))
 have m2:=fH b.num.natAbs a.den (aLe (pK (by omega))) (aLe (pK (by omega)))
 have m3:=fH a.den b.den (aLe (pK (by omega))) (aLe (pK (by omega)))
 have ea:mkRat (mG (decide (a.num<0)) (a.num.natAbs*b.den)) (a.den*b.den)=a:=GG a b.den_nz
 have eb:mkRat (mG (decide (b.num<0)) (b.num.natAbs*a.den)) (a.den*b.den)=b:=by rw[aLZ a.den];exact GG b a.den_nz
 have k1:=nU a.num.natAbs b.den
 have k2:=nU b.num.natAbs a.den
 have k3:=nU a.den b.den
 obtain⟨p1,p2,p3⟩:=Lh hBn ea eb
 have hX:bl (a.num.natAbs*b.den)≤2199023255552:=by omega
 have hY:bl (b.num.natAbs*a.den)≤2199023255552:=by omega
 have hB:bl (a.den*b.den)≤4398046511104:=by omega
 generalize a.num.natAbs*b.den=X at *
 generalize b.num.natAbs*a.den=Y at *
 generalize a.den*b.den=B at *
 have f1:=K3 X Y (pK (by omega)) (pK (by omega))
 have f2:=zA X Y (aLe (pK (by omega))) (aLe (pK (by omega)))
 have hS:bl (X+Y)≤4398046511104:=aKy (YK hX hY) (by decide)
 have hD1:bl (X-Y)≤4398046511104:=aKy (lZ (aND _ _)) (by omega)
 have hD2:bl (Y-X)≤4398046511104:=aKy (lZ (aND _ _)) (by omega)
 have f5:=fun neg=>rL neg (X+Y) B hBn hS hB
 have f6:=fun neg=>rL neg (X-Y) B hBn hD1 hB
 have f7:=fun neg=>rL neg (Y-X) B hBn hD2 hB
 by_cases hn:decide (a.num<0)=decide (b.num<0)
 ·have W2:(decide (a.num<0) == decide (b.num<0))=true:=by simpa using hn
  rw[←p1 hn]
  simp only[Cb,yV,m1,m2,m3,f1,f5,xQ,Ak,W2,bT,cH,iH,jS,jN,gM,aR,bC,aW,gH,Nat.reduceLeDiff,Nat.reduceLT,Nat.reduceSub,VX,Nat.reduceEqDiff,Nat.reduceAdd]
  exact Cs _
 ·have W2:(decide (a.num<0) == decide (b.num<0))=false:=by simpa using hn
  by_cases hx:(0:Int)≤gC X Y
  ·have hle:Y≤X:=by have := @AH X Y;omega
   have c3:=B1 X Y hle (aLe (pK (by omega)))
   rw[←p2 hn hle]
   simp only[Cb,yV,m1,m2,m3,f2,c3,f6,hx,xQ,Ak,W2,bT,cH,iH,jS,jN,gM,aR,bC,aW,gH,Nat.reduceLeDiff,Nat.reduceLT,Nat.reduceSub,VX,Nat.reduceEqDiff,Nat.reduceAdd]
   exact Cs _
  ·have hle:X≤Y:=by have := @AH X Y;omega
   have c3:=B1 Y X hle (aLe (pK (by omega)))
   rw[←p3 hn hle]
   simp only[Cb,yV,m1,m2,m3,f2,c3,f7,hx,xQ,Ak,W2,bT,cH,iH,jS,jN,gM,aR,bC,aW,gH,Nat.reduceLeDiff,Nat.reduceLT,Nat.reduceSub,VX,Nat.reduceEqDiff,Nat.reduceAdd]
   exact Cs _
theorem MO (a b:Rat) (Mu:aK a≤1099511627776) (IU:aK b≤1099511627776):TC 82 [aM a,aM b] (aM (a-b)):=by
 refine TC.walk ⟨true,false⟩ MZ rfl (aMl rfl) (by simp[aO,pU]) (wV _) ?_
 have c1:=Bi b
 have c2:=tN a (-b) Mu (by rw[GU];exact IU)
 rw[←Rat.sub_eq_add_neg] at c2
 simp only[HM,EF,c1,c2,bT,cH,gM,aR,bC,aW,gH,Nat.reduceLeDiff,Nat.reduceLT,Nat.reduceSub,VX,Nat.reduceEqDiff,Nat.reduceAdd]
 exact Cs _
theorem Y8 (a b:Int):mG (decide (a<0) != decide (b<0)) (a.natAbs*b.natAbs)=a*b:=by
 rcases aNq a 0 with h1 | h1 | h1<;>rcases aNq b 0 with h2 | h2 | h2
 ·rw[decide_eq_true h1,decide_eq_true h2]
  simp only[mG,bne_self_eq_false,aK9,if_false,aMX]
  rw[show (a.natAbs:Int) = -a by omega,show (b.natAbs:Int) = -b by omega,Int.neg_mul_neg]
 ·subst h2;simp[AX]
 ·rw[decide_eq_true h1,decide_eq_false (show ¬b<0 by omega)]
  simp only[mG,Bool.true_bne,Bool.not_false,if_true,aMX]
  rw[show (a.natAbs:Int) = -a by omega,show (b.natAbs:Int)=b by omega,aNe,Int.neg_neg]
 ·subst h1;simp[AX]
 ·subst h1;simp[AX]
 ·subst h1;simp[AX]
 ·rw[decide_eq_false (show ¬a<0 by omega),decide_eq_true h2]
  simp only[mG,Bool.false_bne,if_true,aMX]
  rw[show (a.natAbs:Int)=a by omega,show (b.natAbs:Int) = -b by omega,Int.mul_neg,Int.neg_neg]
 ·subst h2;simp[AX]
 ·rw[decide_eq_false (show ¬a<0 by omega),decide_eq_false (show ¬b<0 by omega)]
  simp only[mG,bne_self_eq_false,aK9,if_false,aMX]
  rw[show (a.natAbs:Int)=a by omega,show (b.natAbs:Int)=b by omega]
theorem uF (a b:Rat) (Mu:aK a≤1099511627776) (IU:aK b≤1099511627776):TC 125 [aM a,aM b] (aM (a*b)):=by
 refine TC.walk ⟨true,false⟩ M8 rfl (aMl rfl) (by simp[aO,pU]) (wV _) ?_
 have la:=uM Mu
 have lb:=uM IU
 have lda:=uX Mu
 have ldb:=uX IU
 have k1:=nU a.num.natAbs b.num.natAbs
 have k3:=nU a.den b.den
 have m1:=fH a.num.natAbs b.num.natAbs (aLe (pK (by omega))) (aLe (pK (by omega)))
 have m3:=fH a.den b.den (aLe (pK (by omega))) (aLe (pK (by omega)))
 have c1:=rL (decide (a.num<0) != decide (b.num<0)) (a.num.natAbs*b.num.natAbs) (a.den*b.den) (aNj a.den_nz b.den_nz) (by omega) (by omega)
 rw[Y8,←aNk] at c1
 simp only[HI,ES,m1,m3,c1,Ak,bT,cH,iH,jS,jN,gM,aR,bC,aW,gH,Nat.reduceLeDiff,Nat.reduceLT,Nat.reduceSub,VX,Nat.reduceEqDiff,Nat.reduceAdd]
 exact Cs _
theorem Yg {a b:Rat} (hb:b≠0):mkRat (mG (decide (a.num<0) != decide (b.num<0)) (a.num.natAbs*b.den)) (a.den*b.num.natAbs)=a / b:=by
 have hn:b.num≠0:=fun h=>hb (aNs.1 h)
 have i1:b⁻¹.num=b.num.sign*b.den:=Rat.num_inv b
 have i2:b⁻¹.den=b.num.natAbs:=by rw[Rat.den_inv,if_neg hn]
 have hd:(0:Int)<b.den:=by have:=b.den_nz;omega
 have i3:b⁻¹.num.natAbs=b.den:=by
  rw[i1,aNb,Int.natAbs_natCast]
  rcases aNn hn with h1 | h1
  ·rw[aNE h1];simp
  ·rw[aNF h1];simp
 have i4:decide (b⁻¹.num<0)=decide (b.num<0):=by
  rw[i1]
  rcases aNn hn with h1 | h1
  ·rw[aNE h1,decide_eq_true h1];simp;omega
  ·rw[aNF h1,decide_eq_false (show ¬b.num<0 by omega)];simp
 rw[Rat.div_def,aNk,←Y8,i2,i3,i4]
theorem AV (a b:Rat) (hb:b≠0) (Mu:aK a≤1099511627776) (IU:aK b≤1099511627776):TC 81 [aM a,aM b] (aM (a / b)):=by
 refine TC.walk ⟨true,false⟩ OR rfl (aMl rfl) (by simp[aO,pU]) (wV _) ?_
 have hn:b.num≠0:=fun h=>hb (aNs.1 h)
 have la:=uM Mu
 have lb:=uM IU
 have lda:=uX Mu
 have ldb:=uX IU
 have k1:=nU a.num.natAbs b.den
 have k3:=nU a.den b.num.natAbs
 have m1:=fH a.num.natAbs b.den (aLe (pK (by omega))) (aLe (pK (by omega)))
 have m3:=fH a.den b.num.natAbs (aLe (pK (by omega))) (aLe (pK (by omega)))
 have c1:=rL (decide (a.num<0) != decide (b.num<0)) (a.num.natAbs*b.den) (a.den*b.num.natAbs) (aNj a.den_nz (by omega)) (by omega) (by omega)
 rw[Yg hb] at c1
 simp only[Jy,Gb,m1,m3,c1,Ak,bT,cH,iH,jS,jN,gM,aR,bC,aW,gH,Nat.reduceLeDiff,Nat.reduceLT,Nat.reduceSub,VX,Nat.reduceEqDiff,Nat.reduceAdd]
 exact Cs _
theorem rB (q:Rat):TC 59 [aM q] (VB (decide (q=0))):=by
 refine TC.walk ⟨true,false⟩ O4 rfl (aMl rfl) (by simp[aO,pU]) rfl ?_
 by_cases h0:q=0
 ·have hl:(((aD 1000000000 q.num.natAbs).length:Nat):Int)=0:=by rw[h0];simp[cF]
  simp only[DU,BF,cN,hl,bT,iH,jS,jN,aR,bC,aW,gH,Nat.reduceLeDiff,Nat.reduceLT,Nat.reduceSub,VX,Nat.reduceEqDiff,Nat.reduceAdd]
  rw[decide_eq_true h0]
  exact aL rfl
 ·have hn:q.num≠0:=fun h=>h0 (aNs.1 h)
  have hl:¬(((aD 1000000000 q.num.natAbs).length:Nat):Int)=0:=by have := @tJ q.num.natAbs;omega
  simp only[DU,BF,cN,hl,bT,iH,jS,jN,aR,bC,aW,gH,Nat.reduceLeDiff,Nat.reduceLT,Nat.reduceSub,VX,Nat.reduceEqDiff,Nat.reduceAdd]
  rw[decide_eq_false h0]
  exact aL rfl
end Go.PM
namespace Go.PM
open Go.Lib
theorem aqP {m n:Nat} (h:decDigits m=decDigits n):m=n:=by
 have key:∀k m n:Nat,m<10^(k+1)→decDigits m=decDigits n→m=n:=by
  intro k
  induction k with
  |
   zero =>
   intro m n hm h
   rw[kG (by omega)] at h
   by_cases hn:n<10
   ·rw[kG hn] at h
    have h1:=aNG.1 h
    unfold d10 at h1
    have:=congrArg UInt8.toNat h1
    simp at this
    omega
   ·rw[Cj hn] at h
    have:=congrArg aNH h
    have h2:=aNv.2 (SS (n / 10))
    simp only[aKI,aKH,aMa] at this
    omega
  |
   succ k ih =>
   intro m n hm h
   by_cases h1:m<10
   ·rw[kG h1] at h
    by_cases hn:n<10
    ·rw[kG hn] at h
     have h1:=aNG.1 h
     unfold d10 at h1
     have:=congrArg UInt8.toNat h1
     simp at this
     omega
    ·rw[Cj hn] at h
     have:=congrArg aNH h
     have h2:=aNv.2 (SS (n / 10))
     simp only[aKI,aKH,aMa] at this
     omega
   ·rw[Cj h1] at h
    by_cases hn:n<10
    ·rw[kG hn] at h
     have:=congrArg aNH h
     have h2:=aNv.2 (SS (m / 10))
     simp only[aKI,aKH,aMa] at this
     omega
    ·rw[Cj hn] at h
     obtain⟨h2,h3⟩:=List.append_inj' h rfl
     have h4:=ih (m / 10) (n / 10) (by rw[Nat.pow_succ] at hm;omega) h2
     have h5:=aNG.1 h3
     unfold d10 at h5
     have:=congrArg UInt8.toNat h5
     simp at this
     omega
 exact key m m n (Nat.lt_trans (Nat.lt_pow_self (by decide)) (Nat.pow_lt_pow_right (by decide) (Nat.lt_succ_self m))) h
def OJ (q:Rat):List UInt8:=(if q.num<0 then [45] else [])++decDigits q.num.natAbs++(if q.den=1 then [] else 47::decDigits q.den)
def Dj (q:Rat):Bool:=decide ((decDigits q.num.natAbs).length≤200)&&decide ((decDigits q.den).length≤200)
theorem Du (n:Nat):(decDigits n).length≤bl n+1:=by
 by_cases h:n=0
 ·subst h;rw[kG (by decide)];simp
 ·have h1:=anP h
  obtain⟨k,hk⟩:∃k,bl n=k+1:=⟨bl n-1,by omega⟩
  have h2:=HH n
  rw[hk] at h2 ⊢
  have h3:2^(k+1)≤10^(k+1):=Nat.pow_le_pow_left (by decide) _
  have:=D5 n k (by omega)
  omega
end Go.PM
namespace Go.PM
open Go.Lib
theorem S5 (a b:List UInt8):dK .neq (.string ⟨a.toArray⟩) (.string ⟨b.toArray⟩)=some (.bool (!decide (a=b))):=by
 have h:∀l:List UInt8,(ByteArray.toList ⟨l.toArray⟩)=l:=fun l=>by rw[ByteArray.toList_eq]
 show some (Value.bool (!(ByteArray.toList ⟨a.toArray⟩ == ByteArray.toList ⟨b.toArray⟩)))=_
 rw[h,h]
 congr 3
 cases h2:a == b
 ·rw[decide_eq_false (by simpa using h2)]
 ·rw[decide_eq_true (by simpa using h2)]
theorem ZZ (a b:List UInt8):dK .eql (.string ⟨a.toArray⟩) (.string ⟨b.toArray⟩)=some (.bool (decide (a=b))):=by
 have h:∀l:List UInt8,(ByteArray.toList ⟨l.toArray⟩)=l:=fun l=>by rw[ByteArray.toList_eq]
 show some (Value.bool (ByteArray.toList ⟨a.toArray⟩ == ByteArray.toList ⟨b.toArray⟩))=_
 rw[h,h]
 congr 2
 cases h2:a == b
 ·rw[decide_eq_false (by simpa using h2)]
 ·rw[decide_eq_true (by simpa using h2)]
theorem Oa {n:Nat}:(decDigits n=[49])↔n=1:=by
 have e:decDigits 1=[49]:=by rw[kG (by decide)];rfl
 rw[←e]
 exact⟨aqP,fun h=>by rw[h]⟩
theorem MT (q:Rat) (hk:aK q≤1099511627776):TC 180 [aF q] (.eG [bD (OJ q),VB (Dj q)]):=by
 refine TC.walk ⟨true,false⟩ I7 rfl (aMl rfl) (by simp[aO,fZ]) rfl ?_
 have la:=uM hk
 have lb:=uX hk
 have t1:=EO q.num.natAbs (aBm (by omega))
 have t2:=EO q.den (aBm (by omega))
 have d1:=Du q.num.natAbs
 have d2:=Du q.den
 have a1:dK .add (.string ⟨#[45]⟩) (.string ⟨(decDigits q.num.natAbs).toArray⟩)=some (.string ⟨(45::decDigits q.num.natAbs).toArray⟩):=zD [45] _ (by simp only[aKH,aMa];omega)
 have a2:dK .add (.string ⟨#[47]⟩) (.string ⟨(decDigits q.den).toArray⟩)=some (.string ⟨(47::decDigits q.den).toArray⟩):=zD [47] (decDigits q.den) (by simp only[aKH,aMa];omega)
 have a3:=zD (45::decDigits q.num.natAbs) (47::decDigits q.den) (by simp only[aKH];omega)
 have a4:=zD (decDigits q.num.natAbs) (47::decDigits q.den) (by simp only[aKH];omega)
 have ne:dK .neq (.string ⟨(decDigits q.den).toArray⟩) (.string ⟨#[49]⟩)=_:=S5 (decDigits q.den) [49]
 have hf:Dj q=(decide (((decDigits q.num.natAbs).length:Int)≤200)&&decide (((decDigits q.den).length:Int)≤200)):=by
  unfold Dj
  congr 1<;>exact decide_eq_decide.2 (by omega)
 rw[hf]
 have hs:OJ q=(if q.num<0 then (45::decDigits q.num.natAbs) else decDigits q.num.natAbs)++(if q.den=1 then [] else 47::decDigits q.den):=by
  unfold OJ
  by_cases hn:q.num<0
  ·rw[if_pos hn,if_pos hn];rfl
  ·rw[if_neg hn,if_neg hn];rfl
 rw[hs]
 by_cases hd:q.den=1
 ·rw[decide_eq_true (Oa.2 hd)] at ne
  rw[if_pos hd,List.append_nil]
  by_cases hn:q.num<0<;>by_cases hl:((decDigits q.num.natAbs).length:Int)≤200
  all_goals
   simp only[An,vQ,t1,t2,a1,a2,a3,a4,ne,hn,hl,bP,aJ,bI,kY,kT,nN,cM,bA,aZ,aS,gH,Nat.reduceLeDiff,Nat.reduceLT,Nat.reduceSub,VX,Nat.reduceEqDiff,Nat.reduceAdd]
   exact aL rfl
 ·rw[decide_eq_false (mt Oa.1 hd)] at ne
  rw[if_neg hd]
  by_cases hn:q.num<0<;>by_cases hl:((decDigits q.num.natAbs).length:Int)≤200
  all_goals
   simp only[An,vQ,t1,t2,a1,a2,a3,a4,ne,hn,hl,bP,aJ,bI,kY,kT,nN,cM,bA,aZ,aS,gH,Nat.reduceLeDiff,Nat.reduceLT,Nat.reduceSub,VX,Nat.reduceEqDiff,Nat.reduceAdd]
   exact aL rfl
def Cm (q:Rat):VV:=if Dj q=true then .eG [bD (OJ q),VB true] else .eG [bD [],VB false]
theorem Gv (q:Rat):gZ (Cm q)=true:=by unfold Cm;split<;>rfl
theorem U2 (q:Rat) (hk:aK q≤1099511627776):TC 137 [aF q] (Cm q):=by
 refine TC.walk ⟨true,false⟩ Wo rfl (aMl rfl) (by simp[aO,fZ]) (Gv q) ?_
 have t1:=MT q hk
 unfold Cm
 by_cases h:Dj q=true
 ·rw[h] at t1
  rw[if_pos h]
  simp only[Kx,FO,t1,aJ,bI,cM,bA,aZ,aS,gH,Nat.reduceLeDiff,Nat.reduceLT,Nat.reduceSub,VX,Nat.reduceEqDiff,Nat.reduceAdd]
  exact aL rfl
 ·have h':Dj q=false:=by simpa using h
  rw[h'] at t1
  rw[if_neg h]
  simp only[Kx,FO,t1,aJ,bI,cM,bA,aZ,aS,gH,Nat.reduceLeDiff,Nat.reduceLT,Nat.reduceSub,VX,Nat.reduceEqDiff,Nat.reduceAdd]
  exact aL rfl
end Go.PM