/- Texts of a claim, in one: part 10. -/
import Derived.Test.YtjmflicajplclaaGreatDoorKDi
open Bool renaming false_eq_true → aKX
open Int renaming lt_or_gt_of_ne → aM9,lt_trichotomy → aNc,mul_neg_of_neg_of_pos → aNa,mul_pos → aNb,natAbs_mul → aMX,natCast_mul → aMJ,neg_mul → aM0,ofNat_le → aNf,sign_eq_neg_one_of_neg → aNr,sign_eq_one_of_pos → aNs,zero_mul → aNd
open List renaming getElem?_eq_getElem → aKs,getElem?_eq_none → aKL,length → aNu,length_append → aKw,length_cons → aKv,length_eq_one_iff → aNh,length_eq_zero_iff → aNg,length_map → aL2,length_nil → aLY,length_pos_iff → aNi,length_replicate → aMa,length_reverse → aNl,length_set → aMk,length_singleton → aMw,mapM_cons → aLI,nil_append → aLD,replicate → aLb,reverse_append → aNm,reverse_singleton → aNn,singleton_append → aNo,singleton_inj → aNt,take_of_length_le → aLe
open Nat renaming Coprime → aM7,div_one → aM8,gcd → aM1,gcd_comm → aNk,gcd_dvd_left → aM3,gcd_ne_zero_right → aNp,gcd_pos_of_pos_left → aM4,gcd_zero_right → aNj,le_of_ble_eq_true → aL9,le_of_dvd → aM2,le_of_lt → aK2,le_refl → aKl,le_trans → aKm,mod_lt → aKN,mul_comm → aLN,mul_le_mul_right → aKM,mul_lt_mul_of_pos_right → aMO,mul_ne_zero → aM5,pow_le_pow_right → aMp,sub_le → aNq,zero_add → aLT
open Rat renaming mul_def' → aM6,num_eq_zero → aNe
set_option linter.unusedSimpArgs false
set_option linter.unusedVariables false
namespace Go.PM
theorem arJ (neg:Bool) (t d:Nat):mF neg (t*d)=mF neg t*(d:Int):=by cases neg<;>simp[mF,aM0]
theorem GO (q:Rat) {d:Nat} (hd:d≠0):mkRat (mF (decide (q.num<0)) (q.num.natAbs*d)) (q.den*d)=q:=by
 rw[arJ,Rat.mkRat_mul_right hd,Nt]
theorem Fp (X Y:Int) {B:Nat} (hB:B≠0):mkRat X B+mkRat Y B=mkRat (X+Y) B:=by
 rw[Rat.mkRat_add_mkRat _ _ hB hB,←Int.add_mul,Rat.mkRat_mul_right hB]
theorem Tc (n:Bool) (x y:Nat):mF n x+mF n y=mF n (x+y):=by cases n<;>simp[mF]<;>omega
theorem W2 {m n:Bool} (h:m≠n) {x y:Nat} (hx:y≤x):mF m x+mF n y=mF m (x-y):=by
 cases m<;>cases n<;>simp_all [mF]<;>omega
theorem XP {m n:Bool} (h:m≠n) {x y:Nat} (hx:x≤y):mF m x+mF n y=mF n (y-x):=by
 cases m<;>cases n<;>simp_all [mF]<;>omega
theorem Tu (n:Int) {d:Nat} (hd:d≠0):(mkRat n d).num.natAbs=n.natAbs / aM1 n.natAbs d:=by
 have:=Iz (neg:=decide (n<0)) (t:=n.natAbs) (b:=d) hd
 rw[Jb] at this
 rw[this,qJ]
theorem Nl (n:Int) {d:Nat} (hd:d≠0):(mkRat n d).den=d / aM1 n.natAbs d:=by
 have:=Tm (neg:=decide (n<0)) (t:=n.natAbs) (b:=d) hd
 rwa [Jb] at this
theorem awP (n:Int) {d:Nat} (hd:d≠0):(mkRat n d).num<0↔n<0:=by
 have:=Iz (neg:=decide (n<0)) (t:=n.natAbs) (b:=d) hd
 rw[Jb] at this
 rw[this,Tl]
 have h:n<0→n.natAbs / aM1 n.natAbs d≠0:=fun h=>by
  have:=Nat.div_pos (aM2 (by omega) (aM3 n.natAbs d)) (aM4 d (show 0<n.natAbs by omega))
  omega
 constructor
 ·rintro⟨h1,_⟩;simpa using h1
 ·intro h1;exact⟨by simpa using h1,h h1⟩
theorem DP (t:Nat) {d:Nat} (hd:d≠0):(mkRat (mF false t) d).num.natAbs ∣ t∧(mkRat (mF false t) d).den ∣ d:=by
 rw[Tu _ hd,Nl _ hd,qJ]
 exact⟨Nat.div_dvd_of_dvd (aM3 _ _),Nat.div_dvd_of_dvd (Nat.gcd_dvd_right _ _)⟩
theorem adU (a b:Rat):(a*b).num.natAbs=(mkRat (mF false a.num.natAbs) b.den).num.natAbs*(mkRat (mF false b.num.natAbs) a.den).num.natAbs ∧
  (a*b).den=(mkRat (mF false a.num.natAbs) b.den).den*(mkRat (mF false b.num.natAbs) a.den).den:=by
 have ha:=a.den_nz
 have hb:=b.den_nz
 have IN:a.den*b.den≠0:=aM5 ha hb
 obtain⟨u1,u2⟩:=DP a.num.natAbs hb
 obtain⟨v1,v2⟩:=DP b.num.natAbs ha
 have e:(mkRat (mF false a.num.natAbs) b.den)*(mkRat (mF false b.num.natAbs) a.den)=mkRat (mF false a.num.natAbs*mF false b.num.natAbs) (b.den*a.den):=Rat.mkRat_mul_mkRat _ _ _ _
 have en:((mkRat (mF false a.num.natAbs) b.den)*(mkRat (mF false b.num.natAbs) a.den)).num.natAbs=(a*b).num.natAbs:=by
  rw[e,aM6,Tu _ IN,Tu _ (aM5 hb ha),aMX,aMX,qJ,qJ,aLN b.den]
 have ed:((mkRat (mF false a.num.natAbs) b.den)*(mkRat (mF false b.num.natAbs) a.den)).den=(a*b).den:=by
  rw[e,aM6,Nl _ IN,Nl _ (aM5 hb ha),aMX,aMX,qJ,qJ,aLN b.den]
 rw[←en,←ed]
 generalize hu:mkRat (mF false a.num.natAbs) b.den=u at *
 generalize hv:mkRat (mF false b.num.natAbs) a.den=v at *
 have c1:aM7 u.num.natAbs u.den:=u.reduced
 have c2:aM7 v.num.natAbs v.den:=v.reduced
 have c3:aM7 u.num.natAbs v.den:=Nat.Coprime.coprime_dvd_left u1 (Nat.Coprime.coprime_dvd_right v2 a.reduced)
 have c4:aM7 v.num.natAbs u.den:=Nat.Coprime.coprime_dvd_left v1 (Nat.Coprime.coprime_dvd_right u2 b.reduced)
 have c:aM1 (u.num*v.num).natAbs (u.den*v.den)=1:=by
  rw[aMX]
  exact Nat.Coprime.mul_left (Nat.Coprime.mul_right c1 c3) (Nat.Coprime.mul_right c4 c2)
 rw[aM6,Tu _ (aM5 u.den_nz v.den_nz),Nl _ (aM5 u.den_nz v.den_nz),c,aM8,aM8,aMX]
 exact⟨rfl,rfl⟩
theorem UU {a b:Rat} (ha:a.num≠0) (hb:b.num≠0):(a*b).num<0↔(decide (a.num<0) != decide (b.num<0))=true:=by
 rw[aM6,awP _ (aM5 a.den_nz b.den_nz)]
 rcases aM9 ha with h1 | h1<;>rcases aM9 hb with h2 | h2
 ·have:=Int.mul_pos_of_neg_of_neg h1 h2
  rw[decide_eq_true h1,decide_eq_true h2]
  simp;omega
 ·have:=aNa h1 h2
  rw[decide_eq_true h1,decide_eq_false (show ¬b.num<0 by omega)]
  simp[this]
 ·have:=Int.mul_neg_of_pos_of_neg h1 h2
  rw[decide_eq_false (show ¬a.num<0 by omega),decide_eq_true h2]
  simp[this]
 ·have:=aNb h1 h2
  rw[decide_eq_false (show ¬a.num<0 by omega),decide_eq_false (show ¬b.num<0 by omega)]
  simp;omega
def iY (q:Rat):Int:=if q.num=0 then 0 else if q.num<0 then -1 else 1
def P6 (a b:Rat):Int:=if iY a=iY b then (if a.num<0 then -fW (a.num.natAbs*b.den) (b.num.natAbs*a.den) else fW (a.num.natAbs*b.den) (b.num.natAbs*a.den)) else iY a-iY b
theorem Ay {m n:Nat}:fW m n<0↔m<n:=by
 unfold fW
 split
 ·omega
 ·split<;>omega
theorem apO {m n:Nat}:0<fW m n↔n<m:=by
 unfold fW
 split
 ·omega
 ·split<;>omega
theorem AJ {m n:Nat}:fW m n=0↔m=n:=by
 unfold fW
 split
 ·omega
 ·split<;>omega
theorem oY {q:Rat} (h:q.num<0):iY q = -1:=by unfold iY;rw[if_neg (by omega),if_pos h]
theorem kX {q:Rat} (h:q.num=0):iY q=0:=by unfold iY;rw[if_pos h]
theorem oX {q:Rat} (h:0<q.num):iY q=1:=by unfold iY;rw[if_neg (by omega),if_neg (by omega)]
theorem Zb {a b:Rat}:P6 a b<0↔a<b:=by
 rw[Rat.lt_iff]
 have hA:(0:Int)<a.den:=by have:=a.den_nz;omega
 have hB:(0:Int)<b.den:=by have:=b.den_nz;omega
 have eA:((a.num.natAbs*b.den:Nat):Int)=(a.num.natAbs:Int)*b.den:=by simp
 have eB:((b.num.natAbs*a.den:Nat):Int)=(b.num.natAbs:Int)*a.den:=by simp
 unfold P6
 rcases aNc a.num 0 with h1 | h1 | h1<;>rcases aNc b.num 0 with h2 | h2 | h2
 ·rw[oY h1,oY h2,if_pos rfl,if_pos h1]
  have f1:(a.num.natAbs:Int) = -a.num:=by omega
  have f2:(b.num.natAbs:Int) = -b.num:=by omega
  rw[f1,aM0] at eA
  rw[f2,aM0] at eB
  have := @apO (a.num.natAbs*b.den) (b.num.natAbs*a.den)
  omega
 ·rw[oY h1,kX h2,if_neg (by decide),h2,aNd]
  have:=aNa h1 hB
  omega
 ·rw[oY h1,oX h2,if_neg (by decide)]
  have:=aNa h1 hB
  have:=aNb h2 hA
  omega
 ·rw[kX h1,oY h2,if_neg (by decide),h1,aNd]
  have:=aNa h2 hA
  omega
 ·rw[kX h1,kX h2,if_pos rfl,h1,h2];simp[fW]
 ·rw[kX h1,oX h2,if_neg (by decide),h1,aNd]
  have:=aNb h2 hA
  omega
 ·rw[oX h1,oY h2,if_neg (by decide)]
  have:=aNa h2 hA
  have:=aNb h1 hB
  omega
 ·rw[oX h1,kX h2,if_neg (by decide),h2,aNd]
  have:=aNb h1 hB
  omega
 ·rw[oX h1,oX h2,if_pos rfl,if_neg (by omega)]
  have f1:(a.num.natAbs:Int)=a.num:=by omega
  have f2:(b.num.natAbs:Int)=b.num:=by omega
  rw[f1] at eA
  rw[f2] at eB
  have := @Ay (a.num.natAbs*b.den) (b.num.natAbs*a.den)
  omega
theorem amF (m n:Nat):fW n m = -fW m n:=by
 rcases Nat.lt_trichotomy m n with h | h | h
 ·rw[fW,fW,if_neg (by omega),if_neg (by omega),if_pos h];rfl
 ·subst h;rw[fW,if_neg (by omega),if_pos rfl];rfl
 ·rw[fW,fW,if_pos h,if_neg (by omega),if_neg (by omega)]
theorem VM (a b:Rat):P6 b a = -P6 a b:=by
 unfold P6
 by_cases h:iY a=iY b
 ·have h2:b.num<0↔a.num<0:=by
   rcases aNc a.num 0 with h1 | h1 | h1<;>rcases aNc b.num 0 with h2 | h2 | h2
   ·simp[h1,h2]
   ·rw[oY h1,kX h2] at h;omega
   ·rw[oY h1,oX h2] at h;omega
   ·rw[kX h1,oY h2] at h;omega
   ·omega
   ·rw[kX h1,oX h2] at h;omega
   ·rw[oX h1,oY h2] at h;omega
   ·rw[oX h1,kX h2] at h;omega
   ·omega
  rw[if_pos h,if_pos h.symm,amF]
  by_cases h3:a.num<0
  ·rw[if_pos h3,if_pos (h2.2 h3)]
  ·rw[if_neg h3,if_neg (mt h2.1 h3)]
 ·rw[if_neg h,if_neg (fun h'=>h h'.symm)];omega
theorem asM {a b:Rat}:0<P6 a b↔b<a:=by
 rw[←Zb,VM a b];omega
theorem QO {a b:Rat}:P6 a b=0↔a=b:=by
 constructor
 ·intro h
  refine Rat.le_antisymm ?_ ?_
  ·rw[←Rat.not_lt,←asM];omega
  ·rw[←Rat.not_lt,←Zb];omega
 ·rintro rfl
  have:=VM a a
  omega
theorem awE {q:Rat}:q.num<0↔q<0:=by
 have := @Rat.num_nonneg q
 rw[←Rat.not_le,←this]
 omega
theorem asW {q:Rat}:0<q.num↔0<q:=by
 have h1 := @awE (-q)
 rw[Rat.neg_num] at h1
 have h2 : -q<0↔0<q:=by
  rw[Rat.neg_lt_iff];simp
 rw[←h2,←h1]
 omega
theorem DY {q:Rat}:iY q=0↔q=0:=by
 rw[←aNe]
 rcases aNc q.num 0 with h | h | h
 ·rw[oY h];omega
 ·rw[kX h];omega
 ·rw[oX h];omega
theorem GD {q:Rat}:0<iY q↔0<q:=by
 rw[←asW]
 rcases aNc q.num 0 with h | h | h
 ·rw[oY h];omega
 ·rw[kX h];omega
 ·rw[oX h];omega
end Go.PM
namespace Go.PM
theorem QQ {ds:List Nat} {H:aA}:dF 1 (jJ ds) H=some (ds.map tV):=by
 have:((ds.map tV).all fun x=>(aB x).length == 1&&(aB x).all bL)=true:=by
  rw[List.all_eq_true]
  intro x hx
  obtain⟨d,_,rfl⟩:=List.mem_map.1 hx
  rfl
 simp only[dF,jJ,aC,this,if_true]
theorem Ge (n:Nat) {H:aA}:dF 1 (bW n) H=some ((aD 1000000000 n).map tV):=QQ
theorem La {a n:Nat} (hn:(aD 1000000000 a).length=n+1):∃d,(aD 1000000000 a)[n]? = some d∧d≠0∧d<1000000000:=by
 obtain⟨d,hd⟩:∃d,(aD 1000000000 a)[n]? = some d:=⟨_,aKs (by omega)⟩
 refine⟨d,hd,fun h0 => ?_,gF (by decide) a d (List.mem_of_getElem? hd)⟩
 have:=QP (b:=1000000000) (by decide) a
 rw[List.getLast?_eq_getElem?,hn,Nat.add_sub_cancel,hd,h0] at this
 exact this rfl
theorem aeF {a d:Nat} (h:aD 1000000000 a=[d]):a=d∧0<d∧d<1000000000:=by
 have h1:=cI (b:=1000000000) (by decide) a
 rw[h,val_one] at h1
 obtain⟨e,h2,h3,h4⟩:=La (a:=a) (n:=0) (by rw[h];rfl)
 rw[h] at h2
 cases h2
 exact⟨h1.symm,by omega,h4⟩
theorem avT {a:Nat} (h:(aD 1000000000 a).length≤2):a<1000000000000000000:=by
 have h1:=iO (b:=1000000000) (by decide) a
 have h2:1000000000^(aD 1000000000 a).length≤1000000000^2:=aMp (by decide) h
 omega
theorem alU {H:aA} {u v:VV} (hu:aX u=true) (hv:aX v=true):fz depth H (.dU [u,v])=some (.dU [u,v]):=aH (by simp only[aX,aO,hu,hv,Bool.and_self])
theorem aBB {X N:Nat} (h:(aD 1000000000 X).length≤N):Ml 0 1 (.ref 0 0 0 N N) (bW X) [.row 0 ((aLb N 0).map tV) 1 true]=some (VI ((aD 1000000000 X).length:Int),[.row 0 ((aD 1000000000 X++aLb (N-(aD 1000000000 X).length) 0).map tV) 1 true]):=by
 have e:((aD 1000000000 X).map tV).take N=(aD 1000000000 X).map tV:=aLe (by simpa using h)
 simp only[Ml,bW,QQ,aT,e,aL2,aMa,aLT]
 rw[if_pos ⟨trivial,aKl _,h⟩]
 simp only[dE,List.set_cons_zero,List.take_zero,aLD,aLT,aL2,List.map_append,List.map_replicate,List.drop_replicate]
theorem yA (a b:Nat) (hb:b≠0) (ha:(aD 1000000000 a).length<17592186044416) (yW:(aD 1000000000 b).length<17592186044416):TC 185 [bW a,bW b] (.dU [bW (a / b),bW (a % b)]):=by
 refine TC.walk ⟨true,false⟩ Kp rfl (aL9 rfl) (by simp[aO,cG]) (by simp[gW,sO,pR]) ?_
 have s1:=ED a (by omega)
 have s2:=ED b (by omega)
 have fin:∀ {H:aA},fz depth H (.dU [bW (a / b),bW (a % b)])=some (.dU [bW (a / b),bW (a % b)]):=alU (cG _) (cG _)
 by_cases hsm:(aD 1000000000 a).length≤2∧(aD 1000000000 b).length≤2
 ·rw[if_pos hsm.1] at s1
  rw[if_pos hsm.2] at s2
  have la:=avT hsm.1
  have q1:=No a b (by omega) (by omega)
  have q2:=NL a b (by omega)
  have hdl:a / b≤a:=Nat.div_le_self _ _
  have hml:a % b≤a:=Nat.mod_le _ _
  have n1:TC 178 [VI ((a / b:Nat):Int)] (bW (a / b)):=tY ((a / b:Nat):Int) (aNf.2 (show a / b≤9223372036854775807 from aKm hdl (by omega)))
  have n2:TC 178 [VI ((a % b:Nat):Int)] (bW (a % b)):=tY ((a % b:Nat):Int) (aNf.2 (show a % b≤9223372036854775807 from aKm hml (by omega)))
  simp only[gA,dV,s1,s2,q1,q2,n1,n2,VX,Nat.reduceEqDiff,Nat.reduceAdd]
  exact fin
 have c1:=yX a b (by omega) (by omega)
 obtain⟨x1,t1,Kx⟩:∃(x:Int) (t:Bool),(if (aD 1000000000 a).length≤2 then VV.dU [VI a,VB true] else .dU [VI 0,VB false]) = .dU [VI x,VB t]:=by split<;>exact⟨_,_,rfl⟩
 have hs2:∃(x:Int) (t:Bool),(if (aD 1000000000 b).length≤2 then VV.dU [VI b,VB true] else .dU [VI 0,VB false]) = .dU [VI x,VB t]∧(t1=true→t=false):=by
  by_cases h:(aD 1000000000 b).length≤2
  ·rw[if_pos h]
   refine⟨_,_,rfl,fun ht => ?_⟩
   rw[if_neg (fun h'=>hsm ⟨h',h⟩)] at Kx
   injection Kx with Kx
   injection Kx with _ Kx
   injection Kx with Kx _
   injection Kx with Kx
   injection Kx with Kx
   subst ht
   cases Kx
  ·rw[if_neg h]
   exact⟨_,_,rfl,fun _=>rfl⟩
 obtain⟨x2,t2,hs2,ht⟩:=hs2
 rw[Kx] at s1
 rw[hs2] at s2
 by_cases IN:fW a b<0
 ·have bF:a<b:=Ay.1 IN
  have e0:∀lr,oD lr [.int .i64 0] 0 [] []=some (.ref 0 0 0 0 0,[.row 0 [] 1 true]):=fun lr=>mO (H:=[]) rfl
  have e1:∀lr,oD lr [.int .i64 0] 0 [] [.row 0 [] 1 true]=some (.ref 1 0 0 0 0,[.row 0 [] 1 true,.row 0 [] 1 true]):=fun lr=>mO (H:=[.row 0 [] 1 true]) rfl
  rw[Nat.div_eq_of_lt bF,Nat.mod_eq_of_lt bF]
  have hz:fz (6+1) [.row 0 [] 1 true,.row 0 [] 1 true] (.ref 0 0 0 0 0)=some (bW 0):=by rw[KO];rfl
  by_cases ha0:a=0
  ·subst ha0
   have ap:dI 0 1 8 (.ref 1 0 0 0 0) ((aD 1000000000 0).map tV) [.row 0 [] 1 true,.row 0 [] 1 true]=some (.ref 1 0 0 0 0,[.row 0 [] 1 true,.row 0 [] 1 true]):=by
    rw[cD];rfl
   have KV:fz (6+1) [.row 0 [] 1 true,.row 0 [] 1 true] (.ref 1 0 0 0 0)=some (bW 0):=by rw[KO];rfl
   cases t1 with
   |
    false =>
    simp only[gA,dV,s1,s2,c1,IN,e0,e1,ap,Ge,VX,Nat.reduceEqDiff,Nat.reduceAdd]
    exact bO (d:=6) hz KV
   |
    true =>
    rw[ht rfl] at s2
    simp only[gA,dV,s1,s2,c1,IN,e0,e1,ap,Ge,VX,Nat.reduceEqDiff,Nat.reduceAdd]
    exact bO (d:=6) hz KV
  ·have hln:(aD 1000000000 a).length≠0:=fun h=>ha0 ((oF (b:=1000000000) (by decide)).1 (aNg.1 h))
   have ap:dI 0 1 8 (.ref 1 0 0 0 0) ((aD 1000000000 a).map tV) [.row 0 [] 1 true,.row 0 [] 1 true]=some (.ref 1 1 0 (aD 1000000000 a).length (aD 1000000000 a).length,[.row 0 [] 1 true,.row 1 ((aD 1000000000 a).map tV) 1 true]):=by
    have hr:aG [.row 0 [] 1 true,.row 0 [] 1 true] 1 0=some ([],1,true):=rfl
    simp only[dI,hr,aL2,aLT,aLY,Nat.add_zero]
    rw[if_pos ⟨by decide,by decide⟩,if_pos ⟨trivial,Nat.zero_le _,aKl _⟩,if_neg (by omega),if_pos (by omega)]
    simp
   have Ch:fz (6+1) [.row 0 [] 1 true,.row 1 ((aD 1000000000 a).map tV) 1 true] (.ref 0 0 0 0 0)=some (bW 0):=by rw[KO];rfl
   have KV:fz (6+1) [.row 0 [] 1 true,.row 1 ((aD 1000000000 a).map tV) 1 true] (.ref 1 1 0 (aD 1000000000 a).length (aD 1000000000 a).length)=some (bW a):=by
    have:aX (.ref 1 1 0 (aD 1000000000 a).length (aD 1000000000 a).length)=false:=rfl
    have hr:aG [.row 0 [] 1 true,.row 1 ((aD 1000000000 a).map tV) 1 true] 1 1=some ((aD 1000000000 a).map tV,1,true):=rfl
    unfold fz
    simp only[this,hr,aKX,if_false]
    rw[if_pos ⟨by simp,aKl _⟩,List.drop_zero,aLe (by simp),mapM_pure (n:=5) (fM fun _=>rfl)]
    rfl
   cases t1 with
   |
    false =>
    simp only[gA,dV,s1,s2,c1,IN,e0,e1,ap,Ge,VX,Nat.reduceEqDiff,Nat.reduceAdd]
    exact bO (d:=6) Ch KV
   |
    true =>
    rw[ht rfl] at s2
    simp only[gA,dV,s1,s2,c1,IN,e0,e1,ap,Ge,VX,Nat.reduceEqDiff,Nat.reduceAdd]
    exact bO (d:=6) Ch KV
 have GY:b≤a:=by have := @Ay a b;omega
 have hbn:(aD 1000000000 b).length≠0:=fun h=>hb ((oF (b:=1000000000) (by decide)).1 (aNg.1 h))
 by_cases h1:(((aD 1000000000 b).length:Nat):Int)=1
 ·obtain⟨d,hd⟩:∃d,aD 1000000000 b=[d]:=aNh.1 (by omega)
  obtain⟨hbd,ES,hdT⟩:=aeF hd
  have e1:bJ 1 (bW b) (VI 0) []=some (.cF (tV d) 0):=by
   rw[bW,hd]
   exact aI (f:=tV) (t := .op) (H:=[]) (size:=1) (k := .i64) (xs:=[d]) (i:=0) rfl rfl
  have c2:=BH a d ES hdT (by omega)
  rw[←hbd] at c2
  have WX:a % b≤b:=aK2 (aKN _ (by omega))
  have n2:TC 178 [VI ((a % b:Nat):Int)] (bW (a % b)):=tY ((a % b:Nat):Int) (aNf.2 (show a % b≤9223372036854775807 from aKm WX (by omega)))
  have e2:tV d=tV b:=by rw[hbd]
  rw[e2] at e1
  cases t1 with
  |
   false =>
   simp only[gA,dV,s1,s2,c1,IN,cL,h1,e1,c2,n2,VX,Nat.reduceEqDiff,Nat.reduceAdd]
   exact fin
  |
   true =>
   rw[ht rfl] at s2
   simp only[gA,dV,s1,s2,c1,IN,cL,h1,e1,c2,n2,VX,Nat.reduceEqDiff,Nat.reduceAdd]
   exact fin
 obtain⟨n,hn⟩:∃n,(aD 1000000000 b).length=n+2:=⟨(aD 1000000000 b).length-2,by omega⟩
 obtain⟨t,htd,ht0,htT⟩:=La (a:=b) (n:=n+1) hn
 obtain⟨s,hs⟩:∃s,s=1000000000 / (t+1):=⟨_,rfl⟩
 have T3:1≤s:=by rw[hs];exact(Nat.le_div_iff_mul_le (by omega)).2 (by omega)
 have hsT:s<1000000000:=by rw[hs];exact Nat.div_lt_self (by decide) (by omega)
 have xA:(t+1)*s≤1000000000:=by rw[hs];exact Nat.mul_div_le _ _
 have hla:=eU (b:=1000000000) (by decide) GY
 have w0:IntKind.i64.wrap (((n+2:Nat):Int)-1)=((n+1:Nat):Int):=wrapN _ (by omega) (by omega)
 have w1:IntKind.i64.wrap ((t:Int)+1)=((t+1:Nat):Int):=wrapN _ (by omega) (by omega)
 have q0:dK .quo (.int .i64 1000000000) (.int .i64 ((t+1:Nat):Int))=some (.int .i64 (s:Int)):=by rw[hs];exact No 1000000000 (t+1) (by decide) (by omega)
 have et:∀H,bJ 1 (bW b) (VI ((n+1:Nat):Int)) H=some (.cF (tV t) 0):=fun H=>aI (f:=tV) (t := .op) (size:=1) (k := .i64) htd rfl
 have h1':¬(((n+2:Nat):Int)=1):=by omega
 obtain⟨N,hN⟩:∃N,N=(aD 1000000000 a).length+1:=⟨_,rfl⟩
 have wN:IntKind.i64.wrap (((aD 1000000000 a).length:Int)+1)=(N:Int):=wrapN _ (by omega) (by omega)
 have mkN:=Sv N (by omega)
 have c3:=A9 a s T3 hsT ha
 have c4:=A9 b s T3 hsT yW
 have azU:b*s<1000000000^(n+2):=by
  have h2:=(BY (n:=n+1) (gF (b:=1000000000) (by decide) b) hn htd).2
  rw[cI (by decide)] at h2
  have h3:b*s<(t+1)*1000000000^(n+1)*s:=aMO h2 T3
  have h4:(t+1)*1000000000^(n+1)*s=(t+1)*s*1000000000^(n+1):=by grind
  have h9:(t+1)*s*1000000000^(n+1)≤1000000000*1000000000^(n+1):=aKM _ xA
  have h10:1000000000*1000000000^(n+1)=1000000000^(n+2):=by rw[Nat.pow_succ 1000000000 (n+1)];exact aLN _ _
  rw[h4] at h3
  rw[h10] at h9
  exact Nat.lt_of_lt_of_le h3 h9
 have hVl:(aD 1000000000 (b*s)).length=n+2:=by
  have h2:=oN (b:=1000000000) (by decide) azU
  have h3:b≤b*s:=Nat.le_mul_of_pos_right b T3
  have h4:=eU (b:=1000000000) (by decide) h3
  omega
 have hAl:(aD 1000000000 (a*s)).length≤N:=by
  have h2:=Tt (b:=1000000000) (by decide) a s
  have h3:(aD 1000000000 s).length≤1:=oN (by decide) (by rw[Nat.pow_one];exact hsT)
  omega
 have cp:=aBB hAl
 obtain⟨m,hm⟩:∃m,m+(n+2)=N:=⟨N-(n+2),by omega⟩
 have wm:IntKind.i64.wrap ((N:Int)-((n+2:Nat):Int))=(m:Int):=wrapN _ (by omega) (by omega)
 have wm1:IntKind.i64.wrap ((m:Int)-1)=(m:Int)-1:=wrap64 (by omega) (by omega)
 obtain⟨G5,aqF⟩:∃G5,G5=aD 1000000000 (a*s)++aLb (N-(aD 1000000000 (a*s)).length) 0:=⟨_,rfl⟩
 rw[←aqF] at cp
 have mkm:Bc [.int .i64 0] 8 (VI (m:Int)) (VI (m:Int)) [.row 0 (G5.map tV) 1 true]=some (.ref 1 0 0 m m,[.row 0 (G5.map tV) 1 true]++[.row 0 ((aLb m 0).map tV) 1 true]):=oG (f:=tV) (x:=0) (H:=[.row 0 (G5.map tV) 1 true]) rfl (by omega) (by omega)
 have lN:∀K,aG K 0 0=some (G5.map tV,1,true)→rC (.ref 0 0 0 N N) K=some (VI (N:Int)):=fun K h=>eK h
 have l1:=lN [.row 0 (G5.map tV) 1 true] rfl
 have l2:=lN (H2 G5 (aLb m 0)) rfl
 have axX:G5.length=N:=by rw[aqF,aKw,aMa];omega
 have aB4:∀d∈G5,d<1000000000:=fun d hd=>by
  rw[aqF] at hd
  rcases List.mem_append.1 hd with h | h
  ·exact gF (by decide) _ d h
  ·rw[List.eq_of_mem_replicate h];decide
 have avX:val 1000000000 G5=a*s:=by rw[aqF,Bw,uZ,Nat.mul_zero,Nat.add_zero,cI (by decide)]
 generalize TE:aD 1000000000 (b*s)=vs at *
 have IZ:∀d∈vs,d<1000000000:=by rw[←TE];exact gF (by decide) _
 have Qp:val 1000000000 vs=b*s:=by rw[←TE];exact cI (by decide) _
 have lV:∀H,rC (bW (b*s)) H=some (VI ((n+2:Nat):Int)):=fun H=>by rw[cL,TE,hVl]
 obtain⟨v1,f1⟩:∃v1,vs[n+1]? = some v1:=⟨_,aKs (by omega)⟩
 obtain⟨v0,f0⟩:∃v0,vs[n]? = some v0:=⟨_,aKs (by omega)⟩
 have hv1:1≤v1:=by
  obtain⟨d,hd,ES,_⟩:=La (a:=b*s) (n:=n+1) (by rw[TE];exact hVl)
  rw[TE,f1] at hd
  cases hd
  omega
 have El:val 1000000000 (G5.drop m)<val 1000000000 vs:=by
  have h2:=sQ (b:=1000000000) G5 m
  rw[List.length_take,axX,Nat.min_eq_left (by omega),avX] at h2
  have h3:a<b*1000000000^m:=by
   have y1:=iO (b:=1000000000) (by decide) a
   have y2:=Ns (b:=1000000000) (by decide) hb
   rw[hn] at y2
   have y3:1000000000^(n+2-1)*1000000000^m≤b*1000000000^m:=aKM _ y2
   rw[←Nat.pow_add,show n+2-1+m=(aD 1000000000 a).length by omega] at y3
   exact Nat.lt_of_lt_of_le y1 y3
  have h4:a*s<b*1000000000^m*s:=aMO h3 T3
  have h5:b*1000000000^m*s=1000000000^m*(b*s):=by grind
  rw[Qp]
  have h6:1000000000^m*val 1000000000 (G5.drop m)<1000000000^m*(b*s):=by
   rw[←h5]
   exact Nat.lt_of_le_of_lt (by rw[h2];exact Nat.le_add_left _ _) h4
  exact Nat.lt_of_mul_lt_mul_left h6
 have body:VW ⟨true,false⟩ 0 (.loop kA)=VW ⟨true,false⟩ 0 (.loop kA):=rfl
 have tail:∀(us os:List Nat),us.length=N→(∀d∈us,d<1000000000)→os.length=m→(∀d∈os,d<1000000000)→val 1000000000 us+val 1000000000 vs*val 1000000000 os=a*s→val 1000000000 us<val 1000000000 vs →
   (∀lo K,dH 184 [.ref 0 0 0 N N] lo (H2 us os) K=K (bW (a % b*s)) (cZ (H2 us os) [0])) ∧
   (∀lo K,dH 184 [.ref 1 0 0 m m] lo (cZ (H2 us os) [0]) K=K (bW (a / b)) (cZ (cZ (H2 us os) [0]) [1]))∧TC 202 [bW (a % b*s),VI (s:Int)] (.dU [bW (a % b),VI ((a % b*s % s:Nat):Int)]):=by
  intro us os TG ME iA nI hv bF
  rw[Qp] at hv bF
  have hq:val 1000000000 os=a / b:=by
   rw[←Nat.mul_div_mul_right a b T3,←hv,Nat.add_mul_div_left _ _ (Nat.lt_of_le_of_lt (Nat.zero_le _) bF),Nat.div_eq_of_lt bF,aLT]
  have hr:val 1000000000 us=a % b*s:=by
   rw[←Nat.mul_mod_mul_right,←hv,Nat.add_mul_mod_self_left,Nat.mod_eq_of_lt bF]
  refine⟨fun lo K => ?_,fun lo K => ?_,?_⟩
  ·have h:=wI us ME (by omega)
   rw[hr] at h
   exact TC.asC (f:=tV) h YE TG.symm (aKl _) IH (fun _=>rfl) rfl rfl lo K
  ·have h:=wI os nI (by omega)
   rw[hq] at h
   have lX:aG (cZ (H2 us os) [0]) 1 0=some (os.map tV,1,true):=rfl
   exact TC.asC (f:=tV) h lX iA.symm (aKl _) IH (fun _=>rfl) rfl rfl lo K
  ·have h:=BH (a % b*s) s T3 hsT (by
    have h2:=eU (b:=1000000000) (by decide) (aKm (aK2 bF) (show b*s≤b*s from aKl _))
    rw[hr,TE] at h2
    omega)
   rwa [Nat.mul_div_cancel _ T3] at h
 clear body
 have nV:bW (b*s)=jJ vs:=by rw[bW,TE]
 cases t1 with
 |
  false =>
  simp only[gA,dV,s1,s2,c1,IN,cL,hn,h1',w0,w1,q0,et,wN,mkN,c3,c4,cp,lV,l1,l2,wm,wm1,mkm,List.cons_append,aLD,VX,Nat.reduceEqDiff,Nat.reduceAdd]
  refine R3 (G5:=G5) (os0:=aLb m 0) (vs:=vs) (N:=N) (m:=m) (n:=n) (A:=a*s) (s:=s) axX hm (by omega) aB4 hVl IZ f1 f0 hv1 avX El (by simp) (Cx (by decide) _) (by rfl) (by rfl) (by simp only[VX,Nat.reduceEqDiff,Nat.reduceAdd];exact nV) (by rfl) (by rfl) (by rfl) ?_
  intro AH us os r12 r13 r16 TG ME iA nI hv bF
  obtain⟨x1,x2,x3⟩:=tail us os TG ME iA nI hv bF
  simp only[r12,r13,r16,x1,x2,x3,VX,Nat.reduceEqDiff,Nat.reduceAdd]
  exact fin
 |
  true =>
  rw[ht rfl] at s2
  simp only[gA,dV,s1,s2,c1,IN,cL,hn,h1',w0,w1,q0,et,wN,mkN,c3,c4,cp,lV,l1,l2,wm,wm1,mkm,List.cons_append,aLD,VX,Nat.reduceEqDiff,Nat.reduceAdd]
  refine R3 (G5:=G5) (os0:=aLb m 0) (vs:=vs) (N:=N) (m:=m) (n:=n) (A:=a*s) (s:=s) axX hm (by omega) aB4 hVl IZ f1 f0 hv1 avX El (by simp) (Cx (by decide) _) (by rfl) (by rfl) (by simp only[VX,Nat.reduceEqDiff,Nat.reduceAdd];exact nV) (by rfl) (by rfl) (by rfl) ?_
  intro AH us os r12 r13 r16 TG ME iA nI hv bF
  obtain⟨x1,x2,x3⟩:=tail us os TG ME iA nI hv bF
  simp only[r12,r13,r16,x1,x2,x3,VX,Nat.reduceEqDiff,Nat.reduceAdd]
  exact fin
end Go.PM
namespace Go.PM
theorem dM (n:Nat) {H:aA}:rC (bN n) H=some (VI (aD 4294967296 n).length):=eR
theorem An {n:Nat}:(0:Int)<((aD 4294967296 n).length:Int)↔n≠0:=by
 constructor
 ·intro h h0
  subst h0
  rw[cD] at h
  simp at h
 ·intro h
  have:=(oF (b:=4294967296) (by decide) (n:=n))
  have h2:aD 4294967296 n≠[]:=fun hx=>h (this.1 hx)
  have:=aNi.2 h2
  omega
theorem US {n:Nat} (h:(aD 4294967296 n).length≤2):n<18446744073709551616:=by
 have h1:=iO (b:=4294967296) (by decide) n
 have h2:4294967296^(aD 4294967296 n).length≤4294967296^2:=aMp (by decide) h
 omega
theorem FT (a b:Nat) (ha:(aD 4294967296 a).length≤17592186044416) (hb:(aD 4294967296 b).length≤17592186044416):TC 175 [bN a,bN b] (bN (aM1 a b)):=by
 refine TC.walk ⟨true,false⟩ Lb rfl (aL9 rfl) (by simp[aO,bT]) (tL _) ?_
 simp only[Ga,Dt,VX,Nat.reduceEqDiff,Nat.reduceAdd]
 refine aR (fun(t:Nat×Nat) ρ H=>H=[]∧aM1 t.1 t.2=aM1 a b∧(aD 4294967296 t.1).length≤17592186044416∧(aD 4294967296 t.2).length≤17592186044416∧ρ 0=bN t.1∧ρ 1=bN t.2) (fun t=>t.2) (a,b) ⟨rfl,rfl,ha,hb,rfl,rfl⟩ ?_
 rintro⟨x,y⟩ ρ H ⟨rfl,hg,hx,hy,g0,g1⟩
 simp only at hg hx hy g0 g1
 have c1:=CM x hx
 have c2:=CM y hy
 by_cases hy0:y=0
 ·subst hy0
  have hl:¬(0:Int)<((aD 4294967296 0).length:Int):=by rw[An];omega
  rw[aNj] at hg
  simp only[kE,g0,g1,dM,hl,VX,Nat.reduceEqDiff,Nat.reduceAdd]
  rw[hg]
  exact aH (bT _)
 have hl:(0:Int)<((aD 4294967296 y).length:Int):=An.2 hy0
 by_cases h1:(aD 4294967296 x).length≤2∧(aD 4294967296 y).length≤2
 ·rw[if_pos h1.1] at c1
  rw[if_pos h1.2] at c2
  simp only[kE,g0,g1,dM,hl,c1,c2,VX,Nat.reduceEqDiff,Nat.reduceAdd]
  refine aR (fun(t:Nat×Nat) ρ H=>H=[]∧aM1 t.1 t.2=aM1 a b∧t.1<18446744073709551616∧t.2<18446744073709551616∧ρ 5=VK .u64 t.1∧ρ 7=VK .u64 t.2) (fun t=>t.2) (x,y) ⟨rfl,hg,US h1.1,US h1.2,rfl,rfl⟩ ?_
  rintro⟨u,v⟩ tG H ⟨rfl,hg2,hu,hv,k5,k7⟩
  simp only at hg2 hu hv k5 k7
  by_cases hv0:v=0
  ·subst hv0
   rw[aNj] at hg2
   have hz:¬(0:Int)<((0:Nat):Int):=by omega
   have c3:=pE u hu
   simp only[wP,k5,k7,hz,c3,VX,Nat.reduceEqDiff,Nat.reduceAdd]
   rw[hg2]
   exact aH (bT _)
  ·have hz:(0:Int)<(v:Int):=by omega
   have r1:=SA u v (by omega)
   simp only[wP,k5,k7,hz,r1,VX,Nat.reduceEqDiff,Nat.reduceAdd]
   refine⟨(v,u % v),?_,?_,hv,?_,rfl,rfl⟩
   ·exact aKN _ (by omega)
   ·simp only
    rw[←hg2,aNk u v,Nat.gcd_rec v u,aNk]
   ·simp only
    have:=aKN u (show 0<v by omega)
    omega
 ·have c3:=Ba x y hy0 hx hy
  have next:∃s':Nat×Nat,s'.2<y∧aM1 s'.1 s'.2=aM1 a b∧(aD 4294967296 s'.1).length≤17592186044416∧(aD 4294967296 s'.2).length≤17592186044416∧bN y=bN s'.1∧bN (x % y)=bN s'.2:=by
   have hm:=aKN x (show 0<y by omega)
   refine⟨(y,x % y),hm,?_,hy,?_,rfl,rfl⟩
   ·simp only
    rw[←hg,aNk x y,Nat.gcd_rec y x,aNk]
   ·simp only
    have:=eU (b:=4294967296) (by decide) (aK2 hm)
    omega
  by_cases h2:(aD 4294967296 x).length≤2
  ·have h3:¬(aD 4294967296 y).length≤2:=fun h=>h1 ⟨h2,h⟩
   rw[if_pos h2] at c1
   rw[if_neg h3] at c2
   simp only[kE,g0,g1,dM,hl,c1,c2,c3,VX,Nat.reduceEqDiff,Nat.reduceAdd]
   exact next
  ·rw[if_neg h2] at c1
   by_cases h3:(aD 4294967296 y).length≤2
   ·rw[if_pos h3] at c2
    simp only[kE,g0,g1,dM,hl,c1,c2,c3,VX,Nat.reduceEqDiff,Nat.reduceAdd]
    exact next
   ·rw[if_neg h3] at c2
    simp only[kE,g0,g1,dM,hl,c1,c2,c3,VX,Nat.reduceEqDiff,Nat.reduceAdd]
    exact next
end Go.PM
namespace Go.PM
open Go.Lib
theorem yV (a b:List UInt8) (h:a.length+b.length≤9223372036854775807):dK .add (.string ⟨a.toArray⟩) (.string ⟨b.toArray⟩)=some (.string ⟨(a++b).toArray⟩):=by
 have h1:(⟨a.toArray⟩:ByteArray).size=a.length:=by simp[ByteArray.size]
 have h2:(⟨b.toArray⟩:ByteArray).size=b.length:=by simp[ByteArray.size]
 have h3:¬(((⟨a.toArray⟩:ByteArray).size+(⟨b.toArray⟩:ByteArray).size:Nat):Int)>IntKind.i64.max:=by
  rw[h1,h2]
  show ¬_>(9223372036854775807:Int)
  omega
 simp only[dK,h3,if_false]
 congr 2
theorem bP (a:List UInt8):Ak (.string ⟨a.toArray⟩)=some (.int .i64 (a.length:Int)):=by simp[Ak,ByteArray.size]
theorem apE:∀a:List UInt8,(aB (bD a)).length=1:=fun _=>rfl
theorem abH {xs:List (List UInt8)} {H:aA} {lo b g n:Nat} (hr:aG H b g=some (xs.map bD,1,true)) (hn:xs.length=n) (dQ:lo≤b) (F1:n≤9223372036854775806) :
  jA 216 [.ref b g 0 n n] lo H fun r H'=>r = .dU []∧H'=H.set b (.row g (xs.reverse.map bD) 1 true):=by
 refine jA.walk ⟨true,false⟩ vG (aL9 rfl) ?_
 have e0:rC (.ref b g 0 n n) H=some (VI n):=eK hr
 have w0:IntKind.i64.wrap ((n:Int)-1)=(n:Int)-1:=wrap64 (by omega) (by omega)
 simp only[nG,mC,e0,w0,VX,Nat.reduceEqDiff,Nat.reduceAdd]
 refine aR (fun(t:Nat×List (List UInt8)) ρ K=>t.1≤n∧K=H.set b (.row g (t.2.map bD) 1 true)∧t.2.length=n∧(∀k,k<n→t.2[k]? = if k<t.1∨n≤k+t.1 then xs[n-1-k]? else xs[k]?)∧ρ 0 = .ref b g 0 n n∧ρ 2=VI t.1∧ρ 3=VI ((n:Int)-1-(t.1:Int))) (fun t=>n-t.1) (0,xs) ⟨Nat.zero_le _,(Ar hr).symm,hn,fun k hk=>by rw[if_neg (by simp only;omega)],rfl,rfl,by show VI ((n:Int)-1)=VI ((n:Int)-1-((0:Nat):Int));rw[Int.natCast_zero,Int.sub_zero]⟩ ?_
 rintro⟨i,ys⟩ ρ K ⟨hi,rfl,hl,hy,g0,g2,g3⟩
 simp only at hi hl hy g2 g3
 have hr2:aG (H.set b (.row g (ys.map bD) 1 true)) b g=some (ys.map bD,1,true):=pX hr
 by_cases bX:(i:Int)<(n:Int)-1-(i:Int)
 ·have hj:(n:Int)-1-(i:Int)=((n-1-i:Nat):Int):=by omega
  obtain⟨x,hx⟩:∃x,ys[i]? = some x:=⟨_,aKs (by omega)⟩
  obtain⟨y,hyy⟩:∃y,ys[n-1-i]? = some y:=⟨_,aKs (by omega)⟩
  rw[hj] at g3 bX
  have a1:∀(zs:List (List UInt8)) (k:Nat),zs.length=n→k<n→bJ 1 (.ref b g 0 n n) (VI (k:Int)) (H.set b (.row g (zs.map bD) 1 true))=some (.ptr b g k 0):=fun zs k h1 h2=>by rw[bA (pX hr) h2,aLT]
  have l1:bI false 1 (.ptr b g (n-1-i) 0) (H.set b (.row g (ys.map bD) 1 true))=some (bD y):=pW hr2 hyy
  have l2:bI false 1 (.ptr b g i 0) (H.set b (.row g (ys.map bD) 1 true))=some (bD x):=pW hr2 hx
  have s1:bK lo 1 (.ptr b g i 0) (bD y) (H.set b (.row g (ys.map bD) 1 true))=some (H.set b (.row g ((ys.set i y).map bD) 1 true)):=by rw[dN (f:=bD) (e:=1) hr2 (by omega) dQ rfl rfl,oP]
  have s2:bK lo 1 (.ptr b g (n-1-i) 0) (bD x) (H.set b (.row g ((ys.set i y).map bD) 1 true))=some (H.set b (.row g (((ys.set i y).set (n-1-i) x).map bD) 1 true)):=by rw[dN (f:=bD) (e:=1) (pX hr) (by rw[aMk];omega) dQ rfl rfl,oP]
  have w1:IntKind.i64.wrap ((i:Int)+1)=((i+1:Nat):Int):=wrapN _ (by omega) (by omega)
  have w2:IntKind.i64.wrap (((n-1-i:Nat):Int)-1)=(n:Int)-1-((i+1:Nat):Int):=by rw[wrap64 (by omega) (by omega)];omega
  have b1:=a1 ys i hl (by omega)
  have b2:=a1 ys (n-1-i) hl (by omega)
  have b3:=a1 (ys.set i y) (n-1-i) (by rw[aMk];exact hl) (by omega)
  simp only[gN,g0,g2,g3,bX,b1,b2,b3,l1,l2,s1,s2,w1,w2,VX,Nat.reduceEqDiff,Nat.reduceAdd]
  refine⟨(i+1,(ys.set i y).set (n-1-i) x),by simp only;omega,by simp only;omega,rfl,by simp only[aMk];exact hl,fun k hk => ?_,by (repeat' apply And.intro)<;>first | rfl | trivial⟩
  simp only
  have hxx:=hy i (by omega)
  rw[if_neg (by omega),hx] at hxx
  have hyx:=hy (n-1-i) (by omega)
  rw[if_neg (by omega),hyy] at hyx
  rw[List.getElem?_set,List.getElem?_set,aMk]
  by_cases h1:n-1-i=k
  ·subst h1
   rw[if_pos rfl,if_pos (by omega),if_pos (by omega),show n-1-(n-1-i)=i by omega]
   exact hxx
  ·rw[if_neg h1]
   by_cases h2:i=k
   ·subst h2
    rw[if_pos rfl,if_pos (by omega),if_pos (by omega)]
    exact hyx
   ·rw[if_neg h2,hy k hk]
    by_cases h3:k<i∨n≤k+i
    ·rw[if_pos h3,if_pos (by omega)]
    ·rw[if_neg h3,if_neg (by omega)]
 ·have aDr:ys=xs.reverse:=by
   apply List.ext_getElem?
   intro k
   rcases Nat.lt_or_ge k n with h | h
   ·rw[hy k h,List.getElem?_reverse (by omega),hn]
    split
    ·rfl
    ·rw[show n-1-k=k by omega]
   ·rw[aKL (by omega),aKL (by rw[aNl];omega)]
  subst aDr
  simp only[gN,g0,g2,g3,bX,VX,Nat.reduceEqDiff,Nat.reduceAdd]
  try exact⟨rfl,rfl⟩
theorem afC (n:Nat):(aD 1000000000 n).length≤2*(aD 4294967296 n).length:=by
 refine oN (by decide) ?_
 have h1:=iO (b:=4294967296) (by decide) n
 have h2:4294967296^(aD 4294967296 n).length≤(1000000000^2)^(aD 4294967296 n).length:=Nat.pow_le_pow_left (by decide) _
 rw[←Nat.pow_mul] at h2
 omega
theorem aqU {n:Nat} (hn:n≠0):(decDigits n).length≤9*(aD 1000000000 n).length:=by
 have h1:=iO (b:=1000000000) (by decide) n
 have h3:(aD 1000000000 n)≠[]:=fun h=>hn ((oF (by decide)).1 h)
 have h4:=aNi.2 h3
 generalize (aD 1000000000 n).length=L at *
 obtain⟨k,hk⟩:∃k,9*L=k+1:=⟨9*L-1,by omega⟩
 have h5:(1000000000:Nat)^L=10^(9*L):=by rw[show (1000000000:Nat)=10^9 by decide,←Nat.pow_mul]
 rw[h5,hk] at h1
 rw[hk]
 exact D6 n k h1
def uL (q:Nat):List UInt8:=if q=0 then [] else decDigits q
theorem EA (n:Nat) (hn:(aD 4294967296 n).length≤68719476736):TC 196 [bN n] (bD (decDigits n)):=by
 refine TC.walk ⟨true,false⟩ JD rfl (aL9 rfl) (by simp[aO,bT]) rfl ?_
 by_cases h0:n=0
 ·subst h0
  have hl:(((aD 4294967296 0).length:Nat):Int)=0:=by rw[cD];rfl
  simp only[zZ,wD,dM,hl,VX,Nat.reduceEqDiff,Nat.reduceAdd]
  rw[kH (by decide)]
  exact aH rfl
 have hl:¬(((aD 4294967296 n).length:Nat):Int)=0:=by have:=An.2 h0;omega
 have e1:∀lr,oD lr [.string ⟨#[]⟩] 0 [] []=some (.ref 0 0 0 0 0,[.row 0 (([]:List (List UInt8)).map bD) 1 true]):=fun lr=>mO (H:=[]) (lr:=lr) (z:=[.string ⟨#[]⟩]) rfl
 have hTn:=afC n
 have hdl:=aqU h0
 simp only[zZ,wD,dM,hl,e1,VX,Nat.reduceEqDiff,Nat.reduceAdd]
 refine aR (fun(t:Nat×List (List UInt8)) ρ H=>H=[.row t.2.length (t.2.map bD) 1 true]∧t.1≤n∧t.2.length+(aD 1000000000 t.1).length=(aD 1000000000 n).length∧decDigits n=uL t.1++t.2.reverse.flatten∧ρ 0=bN t.1∧ρ 3 = .ref 0 t.2.length 0 t.2.length t.2.length) (fun t=>t.1) (n,[]) ⟨rfl,aKl _,by simp,by simp[uL,h0],rfl,rfl⟩ ?_
 rintro⟨q,ps⟩ ρ H ⟨rfl,hq,hlen,abI,g0,g3⟩
 simp only at hq hlen abI g0 g3
 by_cases TJ:q=0
 ·subst TJ
  have hz:¬(0:Int)<((aD 4294967296 0).length:Int):=by rw[An];omega
  rw[uL,if_pos rfl,aLD] at abI
  have hr:aG [.row ps.length (ps.map bD) 1 true] 0 ps.length=some (ps.map bD,1,true):=aT
  simp only[pD,g0,g3,dM,hz,VX,Nat.reduceEqDiff,Nat.reduceAdd]
  refine fS rfl ((abH hr rfl (aKl _) (by omega)).mono ?_)
  rintro r H' ⟨rfl,rfl⟩
  have Lo:([.row ps.length (ps.map bD) 1 true]:aA).set 0 (.row ps.length (ps.reverse.map bD) 1 true)=[.row ps.length (ps.reverse.map bD) 1 true]:=rfl
  have hr2:aG [.row ps.length (ps.reverse.map bD) 1 true] 0 ps.length=some (ps.reverse.map bD,1,true):=aT
  have hfl:ps.reverse.flatten.length≤140737488355328:=by rw[←abI];omega
  have cj:=(azO ps.reverse (by rw[aNl];omega) hfl).flat (H:=[.row ps.length (ps.reverse.map bD) 1 true]) (args:=[.ref 0 ps.length 0 ps.length ps.length,bD []]) rfl (by simp only[aO,mN (f:=bD) apE (fun _=>rfl),Bool.and_true];rfl) (fz2 (HN hr2 (by simp) (aKl _) (fM fun _=>rfl)) (aH rfl)) rfl
  simp only[Lo,g3,cj,VX,Nat.reduceEqDiff,Nat.reduceAdd]
  rw[←abI]
  exact aH rfl
 ·have hz:(0:Int)<((aD 4294967296 q).length:Int):=An.2 TJ
  have hql:=eU (b:=4294967296) (by decide) hq
  have c1:TC 197 [bN q,.sc (.int .u32 1000000000)] (.dU [bN (q / 1000000000),uV (q % 1000000000)]):=Ag q 1000000000 (by decide) (by decide) (by omega)
  have hm:=aKN q (show 0<1000000000 by decide)
  have c2:=avW (q % 1000000000) (by omega)
  have wm:IntKind.u64.wrap ((q % 1000000000:Nat):Int)=((q % 1000000000:Nat):Int):=eT _ (by omega)
  have hdq:=kO (b:=1000000000) (by decide) TJ
  have aIr:(aD 1000000000 q).length=(aD 1000000000 (q / 1000000000)).length+1:=by rw[hdq];rfl
  have hdr:=D6 (q % 1000000000) 8 hm
  have hqq:=Nat.mod_add_div q 1000000000
  have e2:∀x:List UInt8,oD false [.string ⟨#[]⟩] 1 [(0,bD x)] [.row ps.length (ps.map bD) 1 true]=some (.tree [bD x] (.cl 1),[.row ps.length (ps.map bD) 1 true]):=fun x=>lS (z:=[.string ⟨#[]⟩]) rfl rfl rfl
  have e3:∀x:List UInt8,dF 1 (.tree [bD x] (.cl 1)) [.row ps.length (ps.map bD) 1 true]=some [bD x]:=fun x=>gS rfl rfl
  have e4:∀x:List UInt8,dI 0 1 16 (.ref 0 ps.length 0 ps.length ps.length) [bD x] [.row ps.length (ps.map bD) 1 true]=some (.ref 0 (ps.length+1) 0 (ps.length+1) (ps.length+1),[.row (ps.length+1) ((ps++[x]).map bD) 1 true]):=fun x=>by
   rw[jU (f:=bD) (x:=x) aT rfl (aKl _) (by decide) (by decide) (by omega)]
   rfl
  have hle:q / 1000000000<q:=Nat.div_lt_self (by omega) (by decide)
  by_cases hqz:q / 1000000000=0
  ·have Nq:¬(0:Int)<((aD 4294967296 (q / 1000000000)).length:Int):=by rw[An];omega
   simp only[pD,g0,g3,dM,hz,c1,c2,wm,Nq,e2,e3,e4,VX,Nat.reduceEqDiff,Nat.reduceAdd]
   refine⟨(q / 1000000000,ps++[decDigits (q % 1000000000)]),hle,by simp,by simp only;omega,by simp only[aKw,aMw];omega,?_,rfl,by simp⟩
   rw[abI,uL,if_neg TJ,uL,if_pos hqz,aNm,aLD,aNn,aNo,List.flatten_cons,show q % 1000000000=q by omega]
  ·have Nq:(0:Int)<((aD 4294967296 (q / 1000000000)).length:Int):=An.2 hqz
   have ws:IntKind.i64.wrap ((9:Int)-((decDigits (q % 1000000000)).length:Int))=((9-(decDigits (q % 1000000000)).length:Nat):Int):=wrapN _ (by omega) (by omega)
   have c3:=alK [48] (9-(decDigits (q % 1000000000)).length) (by simp;omega) (by omega)
   have aiY:repeatL [48] (9-(decDigits (q % 1000000000)).length)++decDigits (q % 1000000000)=EM 9 (q % 1000000000):=by
    rw[awB 8 _ hm]
    congr 1
    have:=repeatL_replicate 48 1 (9-(decDigits (q % 1000000000)).length)
    rw[Nat.mul_one] at this
    exact this
   have c4:=yV (repeatL [48] (9-(decDigits (q % 1000000000)).length)) (decDigits (q % 1000000000)) (by rw[←aKw,aiY,atF];decide)
   rw[aiY] at c4
   simp only[pD,g0,g3,dM,hz,c1,c2,wm,Nq,bP,ws,c3,c4,e2,e3,e4,VX,Nat.reduceEqDiff,Nat.reduceAdd]
   refine⟨(q / 1000000000,ps++[EM 9 (q % 1000000000)]),hle,by simp,by simp only;omega,by simp only[aKw,aMw];omega,?_,rfl,by simp⟩
   rw[abI,uL,if_neg TJ,uL,if_neg hqz,aNm,aNn,aNo,List.flatten_cons,←List.append_assoc,←KM (by omega) hm]
   congr 2
   omega
end Go.PM
namespace Go.PM
open Go.Lib
def aF (q:Rat):VV := .agg [VB (decide (q.num<0)),bN q.num.natAbs,bN q.den]
theorem dW (q:Rat):aX (aF q)=true:=by simp[aF,aX,aO,bT,qD]
theorem rS (q:Rat):gW (aF q)=true:=by simp[aF,gW,sO,tL,qD]
theorem DB {q:Rat} {neg:Bool} {t b:Nat} (h0:q.num<0↔neg=true) (h1:q.num.natAbs=t) (h2:q.den=b):aF q = .agg [VB neg,bN t,bN b]:=by
 subst h1 h2
 unfold aF
 congr 4
 cases neg<;>simp_all
theorem asP {neg:Bool} {t b:Nat} (hb:b≠0) (ht:t≠0):aF (mkRat (mF neg t) b) = .agg [VB neg,bN (t / aM1 t b),bN (b / aM1 t b)]:=by
 refine DB ?_ ?_ (Tm hb)
 ·rw[Iz hb,Tl]
  have h1:t / aM1 t b≠0:=by
   have:=Nat.div_pos (aM2 (by omega) (aM3 t b)) (aM4 b (by omega))
   omega
  simp[h1]
 ·rw[Iz hb,qJ]
theorem acH:aF 0 = .agg [VB false,.tree [] .op,bN 1]:=by
 rw[DB (q:=0) (neg:=false) (t:=0) (b:=1) (by simp) rfl rfl,GG]
theorem aZ (n:Nat):bL (bN n)=true:=rfl
theorem aY (n:Nat):isAny (bN n)=false:=rfl
theorem aS (n:Nat):aB (bN n)=[bN n]:=rfl
theorem cK (q:Rat):isAny (aF q)=false:=rfl
theorem aK (q:Rat):aB (aF q)=[VB (decide (q.num<0)),bN q.num.natAbs,bN q.den]:=rfl
theorem bH (q:Rat):dP true 3 (aF q) 0=some (aF q):=rfl
theorem kY (q:Rat):dP false 1 (aF q) 0=some (VB (decide (q.num<0))):=rfl
theorem kU (q:Rat):dP false 1 (aF q) 1=some (bN q.num.natAbs):=rfl
theorem nK (q:Rat):dP false 1 (aF q) 2=some (bN q.den):=rfl
theorem uB {d:Nat} {H:aA} {u u' v v' w w':VV} (h1:fz (d+1) H u=some u') (h2:fz (d+1) H v=some v') (h3:fz (d+1) H w=some w'):fz (d+2) H (.agg [u,v,w])=some (.agg [u',v',w']):=by
 have e:fz (d+2) H (.agg [u,v,w])=if aX (.agg [u,v,w])=true then some (.agg [u,v,w]) else ([u,v,w].mapM (fz (d+1) H)).map .agg:=rfl
 rw[e]
 by_cases hp:aX (.agg [u,v,w])=true
 ·rw[if_pos hp]
  simp only[aX,aO,Bool.and_eq_true,and_true] at hp
  rw[aL hp.1] at h1
  rw[aL hp.2.1] at h2
  rw[aL hp.2.2] at h3
  cases h1
  cases h2
  cases h3
  rfl
 ·rw[if_neg hp,aLI,h1,aLI,h2,aLI,h3]
  rfl
theorem anD {d:Nat} {H:aA} {v:Value} (h:qD v=true):fz (d+1) H (.sc v)=some (.sc v):=aL h
theorem zD {H:aA} {neg:Bool} {t b:Nat}:fz depth H (.agg [VB neg,bN t,bN b])=some (.agg [VB neg,bN t,bN b]):=aH (by simp[aX,aO,bT,qD])
theorem uI {H:aA} (q:Rat):fz depth H (aF q)=some (aF q):=aH (dW q)
theorem aAw {n:Nat} (h:bl n≤2199023255552):(aD 4294967296 n).length≤68719476736:=by
 have:=auN n
 omega
theorem gI {n:Nat} (h:bl n≤4398046511104):(aD 4294967296 n).length≤17592186044416:=by
 have:=auN n
 omega
theorem tO (neg:Bool) (t b:Nat) (hb:b≠0) (ht:bl t≤4398046511104) (yW:bl b≤4398046511104):TC 144 [VB neg,bN t,bN b] (aF (mkRat (mF neg t) b)):=by
 refine TC.walk ⟨true,false⟩ Qy rfl (aL9 rfl) (by simp[aO,bT,aX,qD]) (rS _) ?_
 by_cases h0:t=0
 ·subst h0
  have hl:(((aD 4294967296 0).length:Nat):Int)=0:=by rw[cD];rfl
  have c1:TC 139 [.sc (.int .u64 1)] (bN 1):=pE 1 (by decide)
  rw[Be,Rat.zero_mkRat,acH,←GG]
  simp only[zP,tP,dM,hl,c1,aZ,aY,aS,fT,Nat.reduceLeDiff,Nat.reduceLT,Nat.reduceSub,VX,Nat.reduceEqDiff,Nat.reduceAdd]
  exact uB (anD rfl) Au (aL (bT _))
 ·have hl:¬(((aD 4294967296 t).length:Nat):Int)=0:=by have:=An.2 h0;omega
  have c1:=FT t b (gI ht) (gI yW)
  have hg0:aM1 t b≠0:=aNp hb
  have hgl:bl (aM1 t b)≤4398046511104:=aKm (mA (Nat.gcd_le_right t (by omega))) yW
  have c2:=Ba t _ hg0 (gI ht) (gI hgl)
  have c3:=Ba b _ hg0 (gI yW) (gI hgl)
  rw[asP hb h0]
  by_cases h1:((aD 4294967296 (aM1 t b)).length:Int)=1
  ·obtain⟨d,hd⟩:∃d,aD 4294967296 (aM1 t b)=[d]:=aNh.1 (by omega)
   obtain⟨hgd,_,_⟩:=TY hd
   have e1:bJ 1 (bN (aM1 t b)) (.sc (.int .i64 0)) [.row 0 [.agg [VB false,.tree [] .nil,.tree [] .nil]] 3 true]=some (.cF (uV d) 0):=aI (f:=uV) (xs:=aD 4294967296 (aM1 t b)) (i:=0) (k := .i64) (by rw[hd];rfl) rfl
   by_cases h2:(d:Int)=1
   ·have hg1:aM1 t b=1:=by omega
    simp only[zP,tP,dM,hl,c1,h1,h2,e1,aZ,aY,aS,fT,Nat.reduceLeDiff,Nat.reduceLT,Nat.reduceSub,VX,Nat.reduceEqDiff,Nat.reduceAdd]
    rw[hg1,aM8,aM8]
    exact zD
   ·simp only[zP,tP,dM,hl,c1,c2,c3,h1,h2,e1,aZ,aY,aS,fT,Nat.reduceLeDiff,Nat.reduceLT,Nat.reduceSub,VX,Nat.reduceEqDiff,Nat.reduceAdd]
    exact zD
  ·simp only[zP,tP,dM,hl,c1,c2,c3,h1,aZ,aY,aS,fT,Nat.reduceLeDiff,Nat.reduceLT,Nat.reduceSub,VX,Nat.reduceEqDiff,Nat.reduceAdd]
   exact zD
theorem adI {n:Int} (h0 : -9223372036854775808≤n) (h:n<0):IntKind.u64.wrap (0-IntKind.u64.wrap n)=(n.natAbs:Int):=by
 rw[wrap_u64,wrap_u64]
 omega
theorem Lp (n:Int) (h0 : -9223372036854775808≤n) (h1:n≤9223372036854775807):TC 140 [VI n] (VK .u64 (n.natAbs:Int)):=by
 refine TC.walk ⟨true,false⟩ KY rfl (aL9 rfl) rfl rfl ?_
 by_cases h:n<0
 ·simp only[A6,yC,h,adI h0 h,VX,Nat.reduceEqDiff,Nat.reduceAdd]
  exact aH rfl
 ·have w:IntKind.u64.wrap n=(n.natAbs:Int):=by rw[wrap_u64];omega
  simp only[A6,yC,h,w,VX,Nat.reduceEqDiff,Nat.reduceAdd]
  exact aH rfl
theorem ajI (n:Int):aF (n:Rat) = .agg [VB (decide (n<0)),bN n.natAbs,bN 1]:=DB (by simp) (by simp) (by simp)
theorem wA (n:Int) (h0 : -9223372036854775808≤n) (h1:n≤9223372036854775807):TC 64 [VI n] (aF (n:Rat)):=by
 refine TC.walk ⟨true,false⟩ Sh rfl (aL9 rfl) rfl (rS _) ?_
 have c1:=Lp n h0 h1
 have c2:=pE n.natAbs (by omega)
 have c3:TC 139 [.sc (.int .u64 1)] (bN 1):=pE 1 (by decide)
 rw[ajI]
 simp only[NV,JI,c1,c2,c3,aZ,aY,aS,fT,Nat.reduceLeDiff,Nat.reduceLT,Nat.reduceSub,VX,Nat.reduceEqDiff,Nat.reduceAdd]
 exact zD
theorem Nj {q:Rat}:(((aD 4294967296 q.num.natAbs).length:Nat):Int)=0↔q.num=0:=by
 have:=An (n:=q.num.natAbs)
 omega
theorem dD (q:Rat):TC 68 [aF q] (VI (iY q)):=by
 refine TC.walk ⟨true,false⟩ I8 rfl (aL9 rfl) (by simp[aO,dW]) rfl ?_
 unfold iY
 by_cases h0:q.num=0
 ·have hl:=Nj.2 h0
  rw[if_pos h0]
  simp only[uK,qW,dM,hl,aK,kY,kU,aZ,aY,aS,fT,Nat.reduceLeDiff,Nat.reduceLT,Nat.reduceSub,VX,Nat.reduceEqDiff,Nat.reduceAdd]
  exact aH rfl
 ·have hl:¬(((aD 4294967296 q.num.natAbs).length:Nat):Int)=0:=fun h=>h0 (Nj.1 h)
  rw[if_neg h0]
  by_cases h1:q.num<0
  ·simp only[uK,qW,dM,hl,h1,aK,kY,kU,aZ,aY,aS,fT,Nat.reduceLeDiff,Nat.reduceLT,Nat.reduceSub,VX,Nat.reduceEqDiff,Nat.reduceAdd]
   exact aH rfl
  ·simp only[uK,qW,dM,hl,h1,aK,kY,kU,aZ,aY,aS,fT,Nat.reduceLeDiff,Nat.reduceLT,Nat.reduceSub,VX,Nat.reduceEqDiff,Nat.reduceAdd]
   exact aH rfl
theorem C7 (q:Rat):TC 177 [aF q] (aF (-q)):=by
 refine TC.walk ⟨true,false⟩ HQ rfl (aL9 rfl) (by simp[aO,dW]) (rS _) ?_
 have hq:aF (-q) = .agg [VB (decide (0<q.num)),bN q.num.natAbs,bN q.den]:=DB (by simp) (by simp) (by simp)
 rw[hq]
 by_cases h1:q.num<0
 ·have h2:¬0<q.num:=by omega
  simp only[sP,pL,dM,h1,h2,aK,kY,kU,nK,aZ,aY,aS,fT,Nat.reduceLeDiff,Nat.reduceLT,Nat.reduceSub,VX,Nat.reduceEqDiff,Nat.reduceAdd]
  exact zD
 ·by_cases h0:q.num=0
  ·have hl:¬(0:Int)<((aD 4294967296 q.num.natAbs).length:Int):=by have:=Nj.2 h0;omega
   have h2:¬0<q.num:=by omega
   simp only[sP,pL,dM,hl,h1,h2,aK,kY,kU,nK,aZ,aY,aS,fT,Nat.reduceLeDiff,Nat.reduceLT,Nat.reduceSub,VX,Nat.reduceEqDiff,Nat.reduceAdd]
   exact zD
  ·have hl:(0:Int)<((aD 4294967296 q.num.natAbs).length:Int):=by have:=mt Nj.1 h0;omega
   have h2:0<q.num:=by omega
   simp only[sP,pL,dM,hl,h1,h2,aK,kY,kU,nK,aZ,aY,aS,fT,Nat.reduceLeDiff,Nat.reduceLT,Nat.reduceSub,VX,Nat.reduceEqDiff,Nat.reduceAdd]
   exact zD
end Go.PM
namespace Go.PM
open Go.Lib
theorem yK (a b:Bool):PT false (.bool a) (.bool b)=some (.bool (a == b)):=by
 show some (Value.bool ((a == b) != false))=_
 rw[Bool.bne_false]
theorem zV (a b:Bool):PT true (.bool a) (.bool b)=some (.bool (a != b)):=by
 show some (Value.bool ((a == b) != true))=_
 cases a<;>cases b<;>rfl
theorem uQ {q:Rat} {k:Nat} (h:aM q≤k):bl q.num.natAbs≤k:=aKm pV h
theorem uY {q:Rat} {k:Nat} (h:aM q≤k):bl q.den≤k:=aKm oE h
theorem Kn {X Y B:Nat} {a b:Rat} (hB:B≠0) (ha:mkRat (mF (decide (a.num<0)) X) B=a) (hb:mkRat (mF (decide (b.num<0)) Y) B=b) :
  ((decide (a.num<0))=(decide (b.num<0))→mkRat (mF (decide (a.num<0)) (X+Y)) B=a+b) ∧
  ((decide (a.num<0))≠(decide (b.num<0))→Y≤X→mkRat (mF (decide (a.num<0)) (X-Y)) B=a+b) ∧
  ((decide (a.num<0))≠(decide (b.num<0))→X≤Y→mkRat (mF (decide (b.num<0)) (Y-X)) B=a+b):=by
 refine⟨fun h => ?_,fun h hx => ?_,fun h hx => ?_⟩
 ·conv=>rhs;rw[←ha,←hb,Fp _ _ hB,←h,Tc]
 ·conv=>rhs;rw[←ha,←hb,Fp _ _ hB,W2 h hx]
 ·conv=>rhs;rw[←ha,←hb,Fp _ _ hB,XP h hx]
theorem oB (a b:Rat) (Mh:aM a≤1099511627776) (IL:aM b≤1099511627776):TC 69 [aF a,aF b] (aF (a+b)):=by
 refine TC.walk ⟨true,false⟩ Ld rfl (aL9 rfl) (by simp[aO,dW]) (rS _) ?_
 have ca:=dD a
 have cb:=dD b
 by_cases ha0:a.num=0
 ·have:a=0:=aNe.1 ha0
  rw[kX ha0] at ca
  rw[this,Rat.zero_add,←this]
  simp only[iI,fH,ca,cb,aK,bH,cK,aZ,aY,aS,fT,Nat.reduceLeDiff,Nat.reduceLT,Nat.reduceSub,VX,Nat.reduceEqDiff,Nat.reduceAdd]
  exact uI _
 have hsa:¬iY a=0:=fun h=>ha0 (aNe.2 (DY.1 h))
 by_cases Qw:b.num=0
 ·have:b=0:=aNe.1 Qw
  rw[kX Qw] at cb
  rw[this,Rat.add_zero,←this]
  simp only[iI,fH,ca,cb,hsa,aK,bH,cK,aZ,aY,aS,fT,Nat.reduceLeDiff,Nat.reduceLT,Nat.reduceSub,VX,Nat.reduceEqDiff,Nat.reduceAdd]
  exact uI _
 have hsb:¬iY b=0:=fun h=>Qw (aNe.2 (DY.1 h))
 have la:=uQ Mh
 have lb:=uQ IL
 have lda:=uY Mh
 have ldb:=uY IL
 have fin:∀(X Y B:Nat),bl X≤2199023255552→bl Y≤2199023255552→bl B≤2199023255552→B≠0→mkRat (mF (decide (a.num<0)) X) B=a→mkRat (mF (decide (b.num<0)) Y) B=b →
   TC 145 [bN X,bN Y] (bN (X+Y))∧TC 142 [bN X,bN Y] (VI (fW X Y)) ∧
   (Y≤X→TC 146 [bN X,bN Y] (bN (X-Y)))∧(X≤Y→TC 146 [bN Y,bN X] (bN (Y-X))) ∧
   (∀neg,TC 144 [VB neg,bN (X+Y),bN B] (aF (mkRat (mF neg (X+Y)) B))) ∧
   (∀neg,TC 144 [VB neg,bN (X-Y),bN B] (aF (mkRat (mF neg (X-Y)) B))) ∧
   (∀neg,TC 144 [VB neg,bN (Y-X),bN B] (aF (mkRat (mF neg (Y-X)) B))):=by
  intro X Y B hX hY hB hB0 _ _
  refine⟨Fx X Y (gI (by omega)) (gI (by omega)),lK X Y (gI (by omega)) (gI (by omega)),fun h=>Fw X Y h (gI (by omega)),fun h=>Fw Y X h (gI (by omega)),fun neg=>tO neg _ _ hB0 ?_ (by omega),fun neg=>tO neg _ _ hB0 ?_ (by omega),fun neg=>tO neg _ _ hB0 ?_ (by omega)⟩
  ·exact aKm (X8 hX hY) (by omega)
  ·exact aKm (mA (aNq _ _)) (by omega)
  ·exact aKm (mA (aNq _ _)) (by omega)
 by_cases hd:a.den=b.den
 ·have hBn:=a.den_nz
  have cc:=lK a.den b.den (gI (by omega)) (gI (by omega))
  rw[show fW a.den b.den=0 from AJ.2 hd] at cc
  have eb:mkRat (mF (decide (b.num<0)) b.num.natAbs) a.den=b:=by rw[hd,Nt]
  obtain⟨f1,f2,f3,f4,f5,f6,f7⟩:=fin a.num.natAbs b.num.natAbs a.den (by omega) (by omega) (by omega) hBn (Nt a) eb
  obtain⟨p1,p2,p3⟩:=Kn hBn (Nt a) eb
  by_cases hn:decide (a.num<0)=decide (b.num<0)
  ·have WI:(decide (a.num<0) == decide (b.num<0))=true:=by simpa using hn
   rw[←p1 hn]
   simp only[iI,fH,ca,cb,hsa,hsb,cc,f1,f5,yK,zV,WI,aK,bH,kY,kU,nK,cK,aZ,aY,aS,fT,Nat.reduceLeDiff,Nat.reduceLT,Nat.reduceSub,VX,Nat.reduceEqDiff,Nat.reduceAdd]
   exact uI _
  ·have WI:(decide (a.num<0) == decide (b.num<0))=false:=by simpa using hn
   by_cases hx:(0:Int)≤fW a.num.natAbs b.num.natAbs
   ·have hle:b.num.natAbs≤a.num.natAbs:=by have := @Ay a.num.natAbs b.num.natAbs;omega
    have c3:=f3 hle
    rw[←p2 hn hle]
    simp only[iI,fH,ca,cb,hsa,hsb,cc,f2,c3,f6,hx,yK,zV,WI,aK,bH,kY,kU,nK,cK,aZ,aY,aS,fT,Nat.reduceLeDiff,Nat.reduceLT,Nat.reduceSub,VX,Nat.reduceEqDiff,Nat.reduceAdd]
    exact uI _
   ·have hle:a.num.natAbs≤b.num.natAbs:=by have := @Ay a.num.natAbs b.num.natAbs;omega
    have c3:=f4 hle
    rw[←p3 hn hle]
    simp only[iI,fH,ca,cb,hsa,hsb,cc,f2,c3,f7,hx,yK,zV,WI,aK,bH,kY,kU,nK,cK,aZ,aY,aS,fT,Nat.reduceLeDiff,Nat.reduceLT,Nat.reduceSub,VX,Nat.reduceEqDiff,Nat.reduceAdd]
    exact uI _
 ·have hBn:=aM5 a.den_nz b.den_nz
  have cc:=lK a.den b.den (gI (by omega)) (gI (by omega))
  have Sp:¬fW a.den b.den=0:=fun h=>hd (AJ.1 h)
  have m1:=jM a.num.natAbs b.den (gI (by omega)) (gI (by omega))
  have m2:=jM b.num.natAbs a.den (gI (by omega)) (gI (by omega))
  have m3:=jM a.den b.den (gI (by omega)) (gI (by omega))
  have ea:mkRat (mF (decide (a.num<0)) (a.num.natAbs*b.den)) (a.den*b.den)=a:=GO a b.den_nz
  have eb:mkRat (mF (decide (b.num<0)) (b.num.natAbs*a.den)) (a.den*b.den)=b:=by rw[aLN a.den];exact GO b a.den_nz
  have k1:=nW a.num.natAbs b.den
  have k2:=nW b.num.natAbs a.den
  have k3:=nW a.den b.den
  obtain⟨f1,f2,f3,f4,f5,f6,f7⟩:=fin _ _ _ (by omega) (by omega) (by omega) hBn ea eb
  obtain⟨p1,p2,p3⟩:=Kn hBn ea eb
  by_cases hn:decide (a.num<0)=decide (b.num<0)
  ·have WI:(decide (a.num<0) == decide (b.num<0))=true:=by simpa using hn
   rw[←p1 hn]
   simp only[iI,fH,ca,cb,hsa,hsb,cc,Sp,m1,m2,m3,f1,f5,yK,zV,WI,aK,bH,kY,kU,nK,cK,aZ,aY,aS,fT,Nat.reduceLeDiff,Nat.reduceLT,Nat.reduceSub,VX,Nat.reduceEqDiff,Nat.reduceAdd]
   exact uI _
  ·have WI:(decide (a.num<0) == decide (b.num<0))=false:=by simpa using hn
   by_cases hx:(0:Int)≤fW (a.num.natAbs*b.den) (b.num.natAbs*a.den)
   ·have hle:b.num.natAbs*a.den≤a.num.natAbs*b.den:=by have := @Ay (a.num.natAbs*b.den) (b.num.natAbs*a.den);omega
    have c3:=f3 hle
    rw[←p2 hn hle]
    simp only[iI,fH,ca,cb,hsa,hsb,cc,Sp,m1,m2,m3,f2,c3,f6,hx,yK,zV,WI,aK,bH,kY,kU,nK,cK,aZ,aY,aS,fT,Nat.reduceLeDiff,Nat.reduceLT,Nat.reduceSub,VX,Nat.reduceEqDiff,Nat.reduceAdd]
    exact uI _
   ·have hle:a.num.natAbs*b.den≤b.num.natAbs*a.den:=by have := @Ay (a.num.natAbs*b.den) (b.num.natAbs*a.den);omega
    have c3:=f4 hle
    rw[←p3 hn hle]
    simp only[iI,fH,ca,cb,hsa,hsb,cc,Sp,m1,m2,m3,f2,c3,f7,hx,yK,zV,WI,aK,bH,kY,kU,nK,cK,aZ,aY,aS,fT,Nat.reduceLeDiff,Nat.reduceLT,Nat.reduceSub,VX,Nat.reduceEqDiff,Nat.reduceAdd]
    exact uI _
theorem BE (a b:Rat) (Mh:aM a≤1099511627776) (IL:aM b≤1099511627776):TC 128 [aF a,aF b] (aF (a-b)):=by
 refine TC.walk ⟨true,false⟩ Ko rfl (aL9 rfl) (by simp[aO,dW]) (rS _) ?_
 have c1:=C7 b
 have c2:=oB a (-b) Mh (by rw[Gc];exact IL)
 rw[←Rat.sub_eq_add_neg] at c2
 simp only[FU,CH,c1,c2,aK,bH,cK,aZ,aY,aS,fT,Nat.reduceLeDiff,Nat.reduceLT,Nat.reduceSub,VX,Nat.reduceEqDiff,Nat.reduceAdd]
 exact uI _
theorem rW (a b:Rat) (Mh:aM a≤1099511627776) (IL:aM b≤1099511627776):TC 132 [aF a,aF b] (aF (a*b)):=by
 refine TC.walk ⟨true,false⟩ Lr rfl (aL9 rfl) (by simp[aO,dW]) (rS _) ?_
 have ca:=dD a
 have cb:=dD b
 have c0:TC 64 [VI 0] (aF 0):=wA 0 (by decide) (by decide)
 by_cases ha0:a.num=0
 ·have:a=0:=aNe.1 ha0
  rw[kX ha0] at ca
  rw[show a*b=0 by rw[this,Rat.zero_mul]]
  simp only[vK,sJ,ca,cb,c0,aK,bH,cK,aZ,aY,aS,fT,Nat.reduceLeDiff,Nat.reduceLT,Nat.reduceSub,VX,Nat.reduceEqDiff,Nat.reduceAdd]
  exact uI _
 have hsa:¬iY a=0:=fun h=>ha0 (aNe.2 (DY.1 h))
 by_cases Qw:b.num=0
 ·have:b=0:=aNe.1 Qw
  rw[kX Qw] at cb
  rw[show a*b=0 by rw[this,Rat.mul_zero]]
  simp only[vK,sJ,ca,cb,hsa,c0,aK,bH,cK,aZ,aY,aS,fT,Nat.reduceLeDiff,Nat.reduceLT,Nat.reduceSub,VX,Nat.reduceEqDiff,Nat.reduceAdd]
  exact uI _
 have hsb:¬iY b=0:=fun h=>Qw (aNe.2 (DY.1 h))
 have la:=uQ Mh
 have lb:=uQ IL
 have lda:=uY Mh
 have ldb:=uY IL
 have l1:=tO false a.num.natAbs b.den b.den_nz (by omega) (by omega)
 have l2:=tO false b.num.natAbs a.den a.den_nz (by omega) (by omega)
 obtain⟨d1,d2⟩:=DP a.num.natAbs b.den_nz
 obtain⟨d3,d4⟩:=DP b.num.natAbs a.den_nz
 have b1:=mA (aM2 (by omega) d1)
 have b2:=mA (aM2 (Nat.pos_of_ne_zero b.den_nz) d2)
 have b3:=mA (aM2 (by omega) d3)
 have b4:=mA (aM2 (Nat.pos_of_ne_zero a.den_nz) d4)
 obtain⟨e1,e2⟩:=adU a b
 have e3:=UU ha0 Qw
 generalize mkRat (mF false a.num.natAbs) b.den=u at *
 generalize mkRat (mF false b.num.natAbs) a.den=v at *
 have m1:=jM u.num.natAbs v.num.natAbs (gI (by omega)) (gI (by omega))
 have m2:=jM u.den v.den (gI (by omega)) (gI (by omega))
 rw[DB e3 e1 e2]
 simp only[vK,sJ,ca,cb,hsa,hsb,l1,l2,m1,m2,yK,zV,aK,bH,kY,kU,nK,cK,aZ,aY,aS,fT,Nat.reduceLeDiff,Nat.reduceLT,Nat.reduceSub,VX,Nat.reduceEqDiff,Nat.reduceAdd]
 exact zD
theorem agW {b:Rat} (h:b≠0):aF b⁻¹ = .agg [VB (decide (b.num<0)),bN b.den,bN b.num.natAbs]:=by
 have hn:b.num≠0:=fun hn=>h (aNe.1 hn)
 have hd:(0:Int)<b.den:=by have:=b.den_nz;omega
 refine DB ?_ ?_ ?_
 ·rw[Rat.num_inv,decide_eq_true_eq]
  rcases aM9 hn with h1 | h1
  ·rw[aNr h1];omega
  ·rw[aNs h1];omega
 ·rw[Rat.num_inv,aMX,Int.natAbs_natCast]
  rcases aM9 hn with h1 | h1
  ·rw[aNr h1];simp
  ·rw[aNs h1];simp
 ·rw[Rat.den_inv,if_neg hn]
theorem Ej (a b:Rat) (hb:b≠0) (Mh:aM a≤1099511627776) (IL:aM b≤1099511627776):TC 129 [aF a,aF b] (aF (a / b)):=by
 refine TC.walk ⟨true,false⟩ JJ rfl (aL9 rfl) (by simp[aO,dW]) (rS _) ?_
 have c1:=rW a b⁻¹ Mh (aKm (QV b) IL)
 rw[←Rat.div_def,agW hb] at c1
 simp only[Ek,Ce,c1,aK,bH,kY,kU,nK,cK,aZ,aY,aS,fT,Nat.reduceLeDiff,Nat.reduceLT,Nat.reduceSub,VX,Nat.reduceEqDiff,Nat.reduceAdd]
 exact uI _
theorem L9 (q:Rat) : -1≤iY q∧iY q≤1:=by
 rcases aNc q.num 0 with h | h | h
 ·rw[oY h];omega
 ·rw[kX h];omega
 ·rw[oX h];omega
theorem WW (m n:Nat) : -1≤fW m n∧fW m n≤1:=by
 rcases Nat.lt_trichotomy m n with h | h | h
 ·rw[fW,if_pos h];omega
 ·subst h;rw[fW,if_neg (by omega),if_pos rfl];omega
 ·rw[fW,if_neg (by omega),if_neg (by omega)];omega
theorem Oq (a b:Rat) (Mh:aM a≤1099511627776) (IL:aM b≤1099511627776):TC 148 [aF a,aF b] (VI (P6 a b)):=by
 refine TC.walk ⟨true,false⟩ KT rfl (aL9 rfl) (by simp[aO,dW]) rfl ?_
 have ca:=dD a
 have cb:=dD b
 have la:=uQ Mh
 have lb:=uQ IL
 have lda:=uY Mh
 have ldb:=uY IL
 have k1:=nW a.num.natAbs b.den
 have k2:=nW b.num.natAbs a.den
 have m1:=jM a.num.natAbs b.den (gI (by omega)) (gI (by omega))
 have m2:=jM b.num.natAbs a.den (gI (by omega)) (gI (by omega))
 have c1:=lK (a.num.natAbs*b.den) (b.num.natAbs*a.den) (gI (by omega)) (gI (by omega))
 have ra:=L9 a
 have rb:=L9 b
 have rc:=WW (a.num.natAbs*b.den) (b.num.natAbs*a.den)
 unfold P6
 by_cases hs:iY a=iY b
 ·rw[if_pos hs]
  have w:IntKind.i64.wrap (0-fW (a.num.natAbs*b.den) (b.num.natAbs*a.den)) = -fW (a.num.natAbs*b.den) (b.num.natAbs*a.den):=by rw[wrap64 (by omega) (by omega)];omega
  by_cases hn:a.num<0
  ·rw[if_pos hn]
   simp only[wH,sX,ca,cb,hs,m1,m2,c1,hn,w,aK,bH,kY,kU,nK,cK,aZ,aY,aS,fT,Nat.reduceLeDiff,Nat.reduceLT,Nat.reduceSub,VX,Nat.reduceEqDiff,Nat.reduceAdd]
   exact aH rfl
  ·rw[if_neg hn]
   simp only[wH,sX,ca,cb,hs,m1,m2,c1,hn,aK,bH,kY,kU,nK,cK,aZ,aY,aS,fT,Nat.reduceLeDiff,Nat.reduceLT,Nat.reduceSub,VX,Nat.reduceEqDiff,Nat.reduceAdd]
   exact aH rfl
 ·rw[if_neg hs]
  have w:IntKind.i64.wrap (iY a-iY b)=iY a-iY b:=wrap64 (by omega) (by omega)
  simp only[wH,sX,ca,cb,hs,w,aK,bH,kY,kU,nK,cK,aZ,aY,aS,fT,Nat.reduceLeDiff,Nat.reduceLT,Nat.reduceSub,VX,Nat.reduceEqDiff,Nat.reduceAdd]
  exact aH rfl
theorem Ky (a:Rat) (Mh:aM a≤1099511627776):TC 161 [aF a] (VB (decide (a=1))):=by
 refine TC.walk ⟨true,false⟩ Il rfl (aL9 rfl) (by simp[aO,dW]) rfl ?_
 have c1:=Oq a 1 Mh (by rw[Kw];decide)
 have c2:TC 64 [VI 1] (aF 1):=wA 1 (by decide) (by decide)
 by_cases h:P6 a 1=0
 ·rw[decide_eq_true (QO.1 h)]
  simp only[xJ,uR,c1,c2,h,aK,bH,cK,aZ,aY,aS,fT,Nat.reduceLeDiff,Nat.reduceLT,Nat.reduceSub,VX,Nat.reduceEqDiff,Nat.reduceAdd]
  exact aH rfl
 ·rw[decide_eq_false (mt QO.2 h)]
  simp only[xJ,uR,c1,c2,h,aK,bH,cK,aZ,aY,aS,fT,Nat.reduceLeDiff,Nat.reduceLT,Nat.reduceSub,VX,Nat.reduceEqDiff,Nat.reduceAdd]
  exact aH rfl
end Go.PM
namespace Go.PM
theorem tZ {n:Nat}:(0:Int)<((aD 1000000000 n).length:Int)↔n≠0:=by
 constructor
 ·intro h h0
  subst h0
  rw[cD] at h
  simp at h
 ·intro h
  have:=(oF (b:=1000000000) (by decide) (n:=n))
  have h2:aD 1000000000 n≠[]:=fun hx=>h (this.1 hx)
  have:=aNi.2 h2
  omega
theorem oR {n:Nat} (h:bl n≤4398046511104):(aD 1000000000 n).length<17592186044416:=by
 have:=atY n
 omega
theorem Ht (a b:Nat) (ha:(aD 1000000000 a).length<17592186044416) (hb:(aD 1000000000 b).length<17592186044416):TC 170 [bW a,bW b] (bW (aM1 a b)):=by
 refine TC.walk ⟨true,false⟩ P3 rfl (aL9 rfl) (by simp[aO,cG]) (pR _) ?_
 simp only[Ly,Hv,VX,Nat.reduceEqDiff,Nat.reduceAdd]
 refine aR (fun(t:Nat×Nat) ρ H=>H=[]∧aM1 t.1 t.2=aM1 a b∧(aD 1000000000 t.1).length<17592186044416∧(aD 1000000000 t.2).length<17592186044416∧ρ 0=bW t.1∧ρ 1=bW t.2) (fun t=>t.2) (a,b) ⟨rfl,rfl,ha,hb,rfl,rfl⟩ ?_
 rintro⟨x,y⟩ ρ H ⟨rfl,hg,hx,hy,g0,g1⟩
 simp only at hg hx hy g0 g1
 by_cases hy0:y=0
 ·subst hy0
  have hl:¬(0:Int)<((aD 1000000000 0).length:Int):=by rw[tZ];omega
  rw[aNj] at hg
  simp only[Bf,g0,g1,cL,hl,VX,Nat.reduceEqDiff,Nat.reduceAdd]
  rw[hg]
  exact aH (cG _)
 ·have hl:(0:Int)<((aD 1000000000 y).length:Int):=tZ.2 hy0
  have c3:=yA x y hy0 hx hy
  have hm:=aKN x (show 0<y by omega)
  simp only[Bf,g0,g1,cL,hl,c3,VX,Nat.reduceEqDiff,Nat.reduceAdd]
  refine⟨(y,x % y),hm,?_,hy,?_,rfl,rfl⟩
  ·simp only
   rw[←hg,aNk x y,Nat.gcd_rec y x,aNk]
  ·simp only
   have:=eU (b:=1000000000) (by decide) (aK2 hm)
   omega
def aN (q:Rat):VV := .agg [VB (decide (q.num<0)),bW q.num.natAbs,bW q.den]
theorem nZ (q:Rat):aX (aN q)=true:=by simp[aN,aX,aO,cG,qD]
theorem vX (q:Rat):gW (aN q)=true:=by simp[aN,gW,sO,pR,qD]
theorem Nv {q:Rat} {neg:Bool} {t b:Nat} (h0:q.num<0↔neg=true) (h1:q.num.natAbs=t) (h2:q.den=b):aN q = .agg [VB neg,bW t,bW b]:=by
 subst h1 h2
 unfold aN
 congr 4
 cases neg<;>simp_all
theorem aQ (n:Nat):bL (bW n)=true:=rfl
theorem bB (n:Nat):isAny (bW n)=false:=rfl
theorem aW (n:Nat):aB (bW n)=[bW n]:=rfl
theorem gM (q:Rat):isAny (aN q)=false:=rfl
theorem bQ (q:Rat):aB (aN q)=[VB (decide (q.num<0)),bW q.num.natAbs,bW q.den]:=rfl
theorem cJ (q:Rat):dP true 3 (aN q) 0=some (aN q):=rfl
theorem gU (q:Rat):dP false 1 (aN q) 0=some (VB (decide (q.num<0))):=rfl
theorem jP (q:Rat):dP false 1 (aN q) 1=some (bW q.num.natAbs):=rfl
theorem jR (q:Rat):dP false 1 (aN q) 2=some (bW q.den):=rfl
theorem sF {H:aA} {neg:Bool} {t b:Nat}:fz depth H (.agg [VB neg,bW t,bW b])=some (.agg [VB neg,bW t,bW b]):=aH (by simp[aX,aO,cG,qD])
theorem Ca {H:aA} (q:Rat):fz depth H (aN q)=some (aN q):=aH (nZ q)
theorem alC (n:Int):aN (n:Rat) = .agg [VB (decide (n<0)),bW n.natAbs,bW 1]:=Nv (by simp) (by simp) (by simp)
theorem Ng {n lo:Nat} {H:aA} {K:VV→aA→Prop} (h:(aD 1000000000 n).length≤17592186044416):dH 155 [bW n,.tree [VI 1] (.cl 1)] lo H K=K (VI (fW n 1)) H:=by
 have c:=yX n 1 h (by rw[F7 (by decide) (by decide) (by decide)];simp)
 have e:bW 1 = .tree [VI 1] .op:=by rw[bW,F7 (by decide) (by decide) (by decide)];rfl
 rw[e] at c
 exact TC.args c rfl (by simp only[aO,cG];rfl) (fz2 (aH (cG n)) (avF rfl)) (by simp only[List.flatMap_cons,List.flatMap_nil,D2 (cG n),akB (es:=[VI 1]) rfl,List.append_nil]) lo K
theorem eQ {d:Int} {H:aA}:oD false [.int .i64 0] 1 [(0,VI d)] H=some (.tree [VI d] (.cl 1),H):=wL
theorem gT {e:Nat} {es:List VV}:bL (.tree es (.cl e))=true:=rfl
theorem eO {k:TK} {es:List VV}:aB (.tree es k)=[.tree es k]:=rfl
theorem gQ {k:TK} {es:List VV}:isAny (.tree es k)=false:=rfl
theorem St {d:Nat} {H:aA}:fz (d+2) H (.tree [VI 1] (.cl 1))=some (bW 1):=by
 rw[ajE]
 unfold fz
 have:aX (.tree [VI 1] (.cl 1))=false:=by simp[aX]
 simp only[this,aKX,if_false]
 rfl
theorem qY (neg:Bool) (t b:Nat) (hb:b≠0) (ht:bl t≤4398046511104) (yW:bl b≤4398046511104):TC 153 [VB neg,bW t,bW b] (aN (mkRat (mF neg t) b)):=by
 refine TC.walk ⟨true,false⟩ ON rfl (aL9 rfl) (by simp[aO,cG,aX,qD]) (vX _) ?_
 have hg0:aM1 t b≠0:=aNp hb
 have hgl:bl (aM1 t b)≤4398046511104:=aKm (mA (Nat.gcd_le_right t (by omega))) yW
 have c1:=Ht t b (oR ht) (oR yW)
 have c2:=yA t _ hg0 (oR ht) (oR hgl)
 have c3:=yA b _ hg0 (oR yW) (oR hgl)
 have c4:∀lo H K,_:=fun lo H K=>Ng (n:=aM1 t b) (lo:=lo) (H:=H) (K:=K) (aK2 (oR hgl))
 have XV:aN (mkRat (mF neg t) b) = .agg [VB (neg&&decide (t / aM1 t b≠0)),bW (t / aM1 t b),bW (b / aM1 t b)]:=by
  refine Nv ?_ (by rw[Iz hb,qJ]) (Tm hb)
  rw[Iz hb,Tl,Bool.and_eq_true,decide_eq_true_eq]
 rw[XV]
 by_cases h1:fW (aM1 t b) 1=0
 ·have hg1:=AJ.1 h1
  have e1:t / aM1 t b=t:=by rw[hg1,aM8]
  have e2:b / aM1 t b=b:=by rw[hg1,aM8]
  rw[e1,e2]
  cases neg with
  |
   false =>
   simp only[pA,lY,c1,c4,h1,eQ,aQ,bB,aW,fT,Nat.reduceLeDiff,Nat.reduceLT,Nat.reduceSub,VX,Nat.reduceEqDiff,Nat.reduceAdd]
   exact sF
  |
   true =>
   by_cases h0:t=0
   ·have hl:¬(0:Int)<((aD 1000000000 t).length:Int):=by rw[tZ];omega
    simp only[pA,lY,c1,c4,h1,hl,cL,eQ,aQ,bB,aW,fT,Nat.reduceLeDiff,Nat.reduceLT,Nat.reduceSub,VX,Nat.reduceEqDiff,Nat.reduceAdd]
    rw[h0]
    exact sF
   ·have hl:(0:Int)<((aD 1000000000 t).length:Int):=tZ.2 h0
    simp only[pA,lY,c1,c4,h1,hl,cL,eQ,aQ,bB,aW,fT,Nat.reduceLeDiff,Nat.reduceLT,Nat.reduceSub,VX,Nat.reduceEqDiff,Nat.reduceAdd]
    rw[decide_eq_true h0]
    exact sF
 ·cases neg with
  |
   false =>
   simp only[pA,lY,c1,c2,c3,c4,h1,eQ,aQ,bB,aW,fT,Nat.reduceLeDiff,Nat.reduceLT,Nat.reduceSub,VX,Nat.reduceEqDiff,Nat.reduceAdd]
   exact sF
  |
   true =>
   generalize t / aM1 t b=t' at *
   by_cases h0:t'=0
   ·have hl:¬(0:Int)<((aD 1000000000 t').length:Int):=by rw[tZ];omega
    simp only[pA,lY,c1,c2,c3,c4,h1,hl,cL,eQ,aQ,bB,aW,fT,Nat.reduceLeDiff,Nat.reduceLT,Nat.reduceSub,VX,Nat.reduceEqDiff,Nat.reduceAdd]
    rw[h0]
    exact sF
   ·have hl:(0:Int)<((aD 1000000000 t').length:Int):=tZ.2 h0
    simp only[pA,lY,c1,c2,c3,c4,h1,hl,cL,eQ,aQ,bB,aW,fT,Nat.reduceLeDiff,Nat.reduceLT,Nat.reduceSub,VX,Nat.reduceEqDiff,Nat.reduceAdd]
    rw[decide_eq_true h0]
    exact sF
theorem HI (n:Int) (h0 : -9223372036854775808<n) (h1:n≤9223372036854775807):TC 130 [VI n] (aN (n:Rat)):=by
 refine TC.walk ⟨true,false⟩ Qf rfl (aL9 rfl) rfl (vX _) ?_
 rw[alC]
 by_cases h:n<0
 ·have w:IntKind.i64.wrap (0-n)=(n.natAbs:Int):=wrapN _ (by omega) (by omega)
  have c1:TC 178 [VI (n.natAbs:Int)] (bW n.natAbs):=tY (n.natAbs:Int) (by omega)
  rw[decide_eq_true h]
  simp only[FO,Ct,h,w,c1,eQ,aQ,bB,aW,gT,eO,gQ,fT,Nat.reduceLeDiff,Nat.reduceLT,Nat.reduceSub,VX,Nat.reduceEqDiff,Nat.reduceAdd]
  exact uB (d:=6) (anD rfl) (aL (cG _)) (St (d:=5))
 ·have c1:TC 178 [VI n] (bW n.natAbs):=by
   have:=tY n h1
   rwa [show n.toNat=n.natAbs by omega] at this
  rw[decide_eq_false h]
  simp only[FO,Ct,h,c1,eQ,aQ,bB,aW,gT,eO,gQ,fT,Nat.reduceLeDiff,Nat.reduceLT,Nat.reduceSub,VX,Nat.reduceEqDiff,Nat.reduceAdd]
  exact uB (d:=6) (anD rfl) (aL (cG _)) (St (d:=5))
theorem P9:TC 83 [] (aN 1):=by
 refine TC.walk ⟨true,false⟩ P5 rfl (aL9 rfl) rfl (vX _) ?_
 have c1:TC 130 [VI 1] (aN 1):=HI 1 (by decide) (by decide)
 simp only[L4,Hx,c1,bQ,cJ,gM,aQ,fT,Nat.reduceLeDiff,Nat.reduceLT,Nat.reduceSub,VX,Nat.reduceEqDiff,Nat.reduceAdd]
 exact Ca _
theorem FW:TC 77 [] (aN 0):=by
 refine TC.walk ⟨true,false⟩ N1 rfl (aL9 rfl) rfl (vX _) ?_
 have c1:TC 130 [VI 0] (aN 0):=HI 0 (by decide) (by decide)
 simp only[IS,F8,c1,bQ,cJ,gM,aQ,fT,Nat.reduceLeDiff,Nat.reduceLT,Nat.reduceSub,VX,Nat.reduceEqDiff,Nat.reduceAdd]
 exact Ca _
theorem BD (q:Rat):TC 157 [aN q] (aN (-q)):=by
 refine TC.walk ⟨true,false⟩ HV rfl (aL9 rfl) (by simp[aO,nZ]) (vX _) ?_
 have hq:aN (-q) = .agg [VB (decide (0<q.num)),bW q.num.natAbs,bW q.den]:=Nv (by simp) (by simp) (by simp)
 rw[hq]
 by_cases h1:q.num<0
 ·have h2:¬0<q.num:=by omega
  simp only[sT,pM,cL,h1,h2,bQ,gU,jP,jR,aQ,bB,aW,fT,Nat.reduceLeDiff,Nat.reduceLT,Nat.reduceSub,VX,Nat.reduceEqDiff,Nat.reduceAdd]
  exact sF
 ·by_cases h0:q.num=0
  ·have hl:¬(0:Int)<((aD 1000000000 q.num.natAbs).length:Int):=by rw[tZ];omega
   have h2:¬0<q.num:=by omega
   simp only[sT,pM,cL,hl,h1,h2,bQ,gU,jP,jR,aQ,bB,aW,fT,Nat.reduceLeDiff,Nat.reduceLT,Nat.reduceSub,VX,Nat.reduceEqDiff,Nat.reduceAdd]
   exact sF
  ·have hl:(0:Int)<((aD 1000000000 q.num.natAbs).length:Int):=by rw[tZ];omega
   have h2:0<q.num:=by omega
   simp only[sT,pM,cL,hl,h1,h2,bQ,gU,jP,jR,aQ,bB,aW,fT,Nat.reduceLeDiff,Nat.reduceLT,Nat.reduceSub,VX,Nat.reduceEqDiff,Nat.reduceAdd]
   exact sF
theorem tK (a b:Rat) (Mh:aM a≤1099511627776) (IL:aM b≤1099511627776):TC 79 [aN a,aN b] (aN (a+b)):=by
 refine TC.walk ⟨true,false⟩ Qh rfl (aL9 rfl) (by simp[aO,nZ]) (vX _) ?_
 have la:=uQ Mh
 have lb:=uQ IL
 have lda:=uY Mh
 have ldb:=uY IL
 have hBn:=aM5 a.den_nz b.den_nz
 have m1:=fE a.num.natAbs b.den (aK2 (oR (by omega))) (aK2 (oR (by omega)))
 have m2:=fE b.num.natAbs a.den (aK2 (oR (by omega))) (aK2 (oR (by omega)))
 have m3:=fE a.den b.den (aK2 (oR (by omega))) (aK2 (oR (by omega)))
 have ea:mkRat (mF (decide (a.num<0)) (a.num.natAbs*b.den)) (a.den*b.den)=a:=GO a b.den_nz
 have eb:mkRat (mF (decide (b.num<0)) (b.num.natAbs*a.den)) (a.den*b.den)=b:=by rw[aLN a.den];exact GO b a.den_nz
 have k1:=nW a.num.natAbs b.den
 have k2:=nW b.num.natAbs a.den
 have k3:=nW a.den b.den
 obtain⟨p1,p2,p3⟩:=Kn hBn ea eb
 have hX:bl (a.num.natAbs*b.den)≤2199023255552:=by omega
 have hY:bl (b.num.natAbs*a.den)≤2199023255552:=by omega
 have hB:bl (a.den*b.den)≤4398046511104:=by omega
 generalize a.num.natAbs*b.den=X at *
 generalize b.num.natAbs*a.den=Y at *
 generalize a.den*b.den=B at *
 have f1:=KB X Y (oR (by omega)) (oR (by omega))
 have f2:=yX X Y (aK2 (oR (by omega))) (aK2 (oR (by omega)))
 have hS:bl (X+Y)≤4398046511104:=aKm (X8 hX hY) (by decide)
 have hD1:bl (X-Y)≤4398046511104:=aKm (mA (aNq _ _)) (by omega)
 have hD2:bl (Y-X)≤4398046511104:=aKm (mA (aNq _ _)) (by omega)
 have f5:=fun neg=>qY neg (X+Y) B hBn hS hB
 have f6:=fun neg=>qY neg (X-Y) B hBn hD1 hB
 have f7:=fun neg=>qY neg (Y-X) B hBn hD2 hB
 by_cases hn:decide (a.num<0)=decide (b.num<0)
 ·have WI:(decide (a.num<0) == decide (b.num<0))=true:=by simpa using hn
  rw[←p1 hn]
  simp only[BV,yS,m1,m2,m3,f1,f5,yK,zV,WI,bQ,cJ,gU,jP,jR,gM,aQ,bB,aW,fT,Nat.reduceLeDiff,Nat.reduceLT,Nat.reduceSub,VX,Nat.reduceEqDiff,Nat.reduceAdd]
  exact Ca _
 ·have WI:(decide (a.num<0) == decide (b.num<0))=false:=by simpa using hn
  by_cases hx:(0:Int)≤fW X Y
  ·have hle:Y≤X:=by have := @Ay X Y;omega
   have c3:=BW X Y hle (aK2 (oR (by omega)))
   rw[←p2 hn hle]
   simp only[BV,yS,m1,m2,m3,f2,c3,f6,hx,yK,zV,WI,bQ,cJ,gU,jP,jR,gM,aQ,bB,aW,fT,Nat.reduceLeDiff,Nat.reduceLT,Nat.reduceSub,VX,Nat.reduceEqDiff,Nat.reduceAdd]
   exact Ca _
  ·have hle:X≤Y:=by have := @Ay X Y;omega
   have c3:=BW Y X hle (aK2 (oR (by omega)))
   rw[←p3 hn hle]
   simp only[BV,yS,m1,m2,m3,f2,c3,f7,hx,yK,zV,WI,bQ,cJ,gU,jP,jR,gM,aQ,bB,aW,fT,Nat.reduceLeDiff,Nat.reduceLT,Nat.reduceSub,VX,Nat.reduceEqDiff,Nat.reduceAdd]
   exact Ca _
theorem Nd (a b:Rat) (Mh:aM a≤1099511627776) (IL:aM b≤1099511627776):TC 82 [aN a,aN b] (aN (a-b)):=by
 refine TC.walk ⟨true,false⟩ Nb rfl (aL9 rfl) (by simp[aO,nZ]) (vX _) ?_
 have c1:=BD b
 have c2:=tK a (-b) Mh (by rw[Gc];exact IL)
 rw[←Rat.sub_eq_add_neg] at c2
 simp only[Hp,EC,c1,c2,bQ,cJ,gM,aQ,bB,aW,fT,Nat.reduceLeDiff,Nat.reduceLT,Nat.reduceSub,VX,Nat.reduceEqDiff,Nat.reduceAdd]
 exact Ca _
theorem ZV (a b:Int):mF (decide (a<0) != decide (b<0)) (a.natAbs*b.natAbs)=a*b:=by
 rcases aNc a 0 with h1 | h1 | h1<;>rcases aNc b 0 with h2 | h2 | h2
 ·rw[decide_eq_true h1,decide_eq_true h2]
  simp only[mF,bne_self_eq_false,aKX,if_false,aMJ]
  rw[show (a.natAbs:Int) = -a by omega,show (b.natAbs:Int) = -b by omega,Int.neg_mul_neg]
 ·subst h2;simp[Be]
 ·rw[decide_eq_true h1,decide_eq_false (show ¬b<0 by omega)]
  simp only[mF,Bool.true_bne,Bool.not_false,if_true,aMJ]
  rw[show (a.natAbs:Int) = -a by omega,show (b.natAbs:Int)=b by omega,aM0,Int.neg_neg]
 ·subst h1;simp[Be]
 ·subst h1;simp[Be]
 ·subst h1;simp[Be]
 ·rw[decide_eq_false (show ¬a<0 by omega),decide_eq_true h2]
  simp only[mF,Bool.false_bne,if_true,aMJ]
  rw[show (a.natAbs:Int)=a by omega,show (b.natAbs:Int) = -b by omega,Int.mul_neg,Int.neg_neg]
 ·subst h2;simp[Be]
 ·rw[decide_eq_false (show ¬a<0 by omega),decide_eq_false (show ¬b<0 by omega)]
  simp only[mF,bne_self_eq_false,aKX,if_false,aMJ]
  rw[show (a.natAbs:Int)=a by omega,show (b.natAbs:Int)=b by omega]
theorem EH (a b:Rat) (Mh:aM a≤1099511627776) (IL:aM b≤1099511627776):TC 125 [aN a,aN b] (aN (a*b)):=by
 refine TC.walk ⟨true,false⟩ MZ rfl (aL9 rfl) (by simp[aO,nZ]) (vX _) ?_
 have la:=uQ Mh
 have lb:=uQ IL
 have lda:=uY Mh
 have ldb:=uY IL
 have k1:=nW a.num.natAbs b.num.natAbs
 have k3:=nW a.den b.den
 have m1:=fE a.num.natAbs b.num.natAbs (aK2 (oR (by omega))) (aK2 (oR (by omega)))
 have m3:=fE a.den b.den (aK2 (oR (by omega))) (aK2 (oR (by omega)))
 have c1:=qY (decide (a.num<0) != decide (b.num<0)) (a.num.natAbs*b.num.natAbs) (a.den*b.den) (aM5 a.den_nz b.den_nz) (by omega) (by omega)
 rw[ZV,←aM6] at c1
 simp only[HB,Ei,m1,m3,c1,zV,bQ,cJ,gU,jP,jR,gM,aQ,bB,aW,fT,Nat.reduceLeDiff,Nat.reduceLT,Nat.reduceSub,VX,Nat.reduceEqDiff,Nat.reduceAdd]
 exact Ca _
theorem Yc {a b:Rat} (hb:b≠0):mkRat (mF (decide (a.num<0) != decide (b.num<0)) (a.num.natAbs*b.den)) (a.den*b.num.natAbs)=a / b:=by
 have hn:b.num≠0:=fun h=>hb (aNe.1 h)
 have i1:b⁻¹.num=b.num.sign*b.den:=Rat.num_inv b
 have i2:b⁻¹.den=b.num.natAbs:=by rw[Rat.den_inv,if_neg hn]
 have hd:(0:Int)<b.den:=by have:=b.den_nz;omega
 have i3:b⁻¹.num.natAbs=b.den:=by
  rw[i1,aMX,Int.natAbs_natCast]
  rcases aM9 hn with h1 | h1
  ·rw[aNr h1];simp
  ·rw[aNs h1];simp
 have i4:decide (b⁻¹.num<0)=decide (b.num<0):=by
  rw[i1]
  rcases aM9 hn with h1 | h1
  ·rw[aNr h1,decide_eq_true h1];simp;omega
  ·rw[aNs h1,decide_eq_false (show ¬b.num<0 by omega)];simp
 rw[Rat.div_def,aM6,←ZV,i2,i3,i4]
theorem Fg (a b:Rat) (hb:b≠0) (Mh:aM a≤1099511627776) (IL:aM b≤1099511627776):TC 81 [aN a,aN b] (aN (a / b)):=by
 refine TC.walk ⟨true,false⟩ Po rfl (aL9 rfl) (by simp[aO,nZ]) (vX _) ?_
 have hn:b.num≠0:=fun h=>hb (aNe.1 h)
 have la:=uQ Mh
 have lb:=uQ IL
 have lda:=uY Mh
 have ldb:=uY IL
 have k1:=nW a.num.natAbs b.den
 have k3:=nW a.den b.num.natAbs
 have m1:=fE a.num.natAbs b.den (aK2 (oR (by omega))) (aK2 (oR (by omega)))
 have m3:=fE a.den b.num.natAbs (aK2 (oR (by omega))) (aK2 (oR (by omega)))
 have c1:=qY (decide (a.num<0) != decide (b.num<0)) (a.num.natAbs*b.den) (a.den*b.num.natAbs) (aM5 a.den_nz (by omega)) (by omega) (by omega)
 rw[Yc hb] at c1
 simp only[Jm,FE,m1,m3,c1,zV,bQ,cJ,gU,jP,jR,gM,aQ,bB,aW,fT,Nat.reduceLeDiff,Nat.reduceLT,Nat.reduceSub,VX,Nat.reduceEqDiff,Nat.reduceAdd]
 exact Ca _
theorem rA (q:Rat):TC 59 [aN q] (VB (decide (q=0))):=by
 refine TC.walk ⟨true,false⟩ NK rfl (aL9 rfl) (by simp[aO,nZ]) rfl ?_
 by_cases h0:q=0
 ·have hl:(((aD 1000000000 q.num.natAbs).length:Nat):Int)=0:=by rw[h0];simp[cD]
  simp only[D9,AV,cL,hl,bQ,gU,jP,jR,aQ,bB,aW,fT,Nat.reduceLeDiff,Nat.reduceLT,Nat.reduceSub,VX,Nat.reduceEqDiff,Nat.reduceAdd]
  rw[decide_eq_true h0]
  exact aH rfl
 ·have hn:q.num≠0:=fun h=>h0 (aNe.1 h)
  have hl:¬(((aD 1000000000 q.num.natAbs).length:Nat):Int)=0:=by have := @tZ q.num.natAbs;omega
  simp only[D9,AV,cL,hl,bQ,gU,jP,jR,aQ,bB,aW,fT,Nat.reduceLeDiff,Nat.reduceLT,Nat.reduceSub,VX,Nat.reduceEqDiff,Nat.reduceAdd]
  rw[decide_eq_false h0]
  exact aH rfl
theorem PY (q:Rat):TC 111 [aN q] (VB (decide (q.num<0))):=by
 refine TC.walk ⟨true,false⟩ Qb rfl (aL9 rfl) (by simp[aO,nZ]) rfl ?_
 simp only[My,Hu,bQ,gU,aQ,fT,Nat.reduceLeDiff,Nat.reduceLT,Nat.reduceSub,VX,Nat.reduceEqDiff,Nat.reduceAdd]
 exact aH rfl
end Go.PM
namespace Go.PM
open Go.Lib
theorem asN {m n:Nat} (h:decDigits m=decDigits n):m=n:=by
 have key:∀k m n:Nat,m<10^(k+1)→decDigits m=decDigits n→m=n:=by
  intro k
  induction k with
  |
   zero =>
   intro m n hm h
   rw[kH (by omega)] at h
   by_cases hn:n<10
   ·rw[kH hn] at h
    have h1:=aNt.1 h
    unfold d10 at h1
    have:=congrArg UInt8.toNat h1
    simp at this
    omega
   ·rw[BU hn] at h
    have:=congrArg aNu h
    have h2:=aNi.2 (Sb (n / 10))
    simp only[aKw,aKv,aLY] at this
    omega
  |
   succ k ih =>
   intro m n hm h
   by_cases h1:m<10
   ·rw[kH h1] at h
    by_cases hn:n<10
    ·rw[kH hn] at h
     have h1:=aNt.1 h
     unfold d10 at h1
     have:=congrArg UInt8.toNat h1
     simp at this
     omega
    ·rw[BU hn] at h
     have:=congrArg aNu h
     have h2:=aNi.2 (Sb (n / 10))
     simp only[aKw,aKv,aLY] at this
     omega
   ·rw[BU h1] at h
    by_cases hn:n<10
    ·rw[kH hn] at h
     have:=congrArg aNu h
     have h2:=aNi.2 (Sb (m / 10))
     simp only[aKw,aKv,aLY] at this
     omega
    ·rw[BU hn] at h
     obtain⟨h2,h3⟩:=List.append_inj' h rfl
     have h4:=ih (m / 10) (n / 10) (by rw[Nat.pow_succ] at hm;omega) h2
     have h5:=aNt.1 h3
     unfold d10 at h5
     have:=congrArg UInt8.toNat h5
     simp at this
     omega
 exact key m m n (Nat.lt_trans (Nat.lt_pow_self (by decide)) (Nat.pow_lt_pow_right (by decide) (Nat.lt_succ_self m))) h
def OW (q:Rat):List UInt8:=(if q.num<0 then [45] else [])++decDigits q.num.natAbs++(if q.den=1 then [] else 47::decDigits q.den)
def C2 (q:Rat):Bool:=decide ((decDigits q.num.natAbs).length≤200)&&decide ((decDigits q.den).length≤200)
theorem Dj (n:Nat):(decDigits n).length≤bl n+1:=by
 by_cases h:n=0
 ·subst h;rw[kH (by decide)];simp
 ·have h1:=amU h
  obtain⟨k,hk⟩:∃k,bl n=k+1:=⟨bl n-1,by omega⟩
  have h2:=HC n
  rw[hk] at h2 ⊢
  have h3:2^(k+1)≤10^(k+1):=Nat.pow_le_pow_left (by decide) _
  have:=D6 n k (by omega)
  omega
end Go.PM
namespace Go.PM
open Go.Lib
theorem Ti (a b:List UInt8):dK .neq (.string ⟨a.toArray⟩) (.string ⟨b.toArray⟩)=some (.bool (!decide (a=b))):=by
 have h:∀l:List UInt8,(ByteArray.toList ⟨l.toArray⟩)=l:=fun l=>by rw[ByteArray.toList_eq]
 show some (Value.bool (!(ByteArray.toList ⟨a.toArray⟩ == ByteArray.toList ⟨b.toArray⟩)))=_
 rw[h,h]
 congr 3
 cases h2:a == b
 ·rw[decide_eq_false (by simpa using h2)]
 ·rw[decide_eq_true (by simpa using h2)]
theorem aaP (a b:List UInt8):dK .eql (.string ⟨a.toArray⟩) (.string ⟨b.toArray⟩)=some (.bool (decide (a=b))):=by
 have h:∀l:List UInt8,(ByteArray.toList ⟨l.toArray⟩)=l:=fun l=>by rw[ByteArray.toList_eq]
 show some (Value.bool (ByteArray.toList ⟨a.toArray⟩ == ByteArray.toList ⟨b.toArray⟩))=_
 rw[h,h]
 congr 2
 cases h2:a == b
 ·rw[decide_eq_false (by simpa using h2)]
 ·rw[decide_eq_true (by simpa using h2)]
theorem Ok {n:Nat}:(decDigits n=[49])↔n=1:=by
 have e:decDigits 1=[49]:=by rw[kH (by decide)];rfl
 rw[←e]
 exact⟨asN,fun h=>by rw[h]⟩
theorem M6 (q:Rat) (hk:aM q≤1099511627776):TC 180 [aF q] (.dU [bD (OW q),VB (C2 q)]):=by
 refine TC.walk ⟨true,false⟩ Jc rfl (aL9 rfl) (by simp[aO,dW]) rfl ?_
 have la:=uQ hk
 have lb:=uY hk
 have t1:=EA q.num.natAbs (aAw (by omega))
 have t2:=EA q.den (aAw (by omega))
 have d1:=Dj q.num.natAbs
 have d2:=Dj q.den
 have a1:dK .add (.string ⟨#[45]⟩) (.string ⟨(decDigits q.num.natAbs).toArray⟩)=some (.string ⟨(45::decDigits q.num.natAbs).toArray⟩):=yV [45] _ (by simp only[aKv,aLY];omega)
 have a2:dK .add (.string ⟨#[47]⟩) (.string ⟨(decDigits q.den).toArray⟩)=some (.string ⟨(47::decDigits q.den).toArray⟩):=yV [47] (decDigits q.den) (by simp only[aKv,aLY];omega)
 have a3:=yV (45::decDigits q.num.natAbs) (47::decDigits q.den) (by simp only[aKv];omega)
 have a4:=yV (decDigits q.num.natAbs) (47::decDigits q.den) (by simp only[aKv];omega)
 have ne:dK .neq (.string ⟨(decDigits q.den).toArray⟩) (.string ⟨#[49]⟩)=_:=Ti (decDigits q.den) [49]
 have hf:C2 q=(decide (((decDigits q.num.natAbs).length:Int)≤200)&&decide (((decDigits q.den).length:Int)≤200)):=by
  unfold C2
  congr 1<;>exact decide_eq_decide.2 (by omega)
 rw[hf]
 have hs:OW q=(if q.num<0 then (45::decDigits q.num.natAbs) else decDigits q.num.natAbs)++(if q.den=1 then [] else 47::decDigits q.den):=by
  unfold OW
  by_cases hn:q.num<0
  ·rw[if_pos hn,if_pos hn];rfl
  ·rw[if_neg hn,if_neg hn];rfl
 rw[hs]
 by_cases hd:q.den=1
 ·rw[decide_eq_true (Ok.2 hd)] at ne
  rw[if_pos hd,List.append_nil]
  by_cases hn:q.num<0<;>by_cases hl:((decDigits q.num.natAbs).length:Int)≤200
  all_goals
   simp only[zX,wK,t1,t2,a1,a2,a3,a4,ne,hn,hl,bP,aK,bH,kY,kU,nK,cK,aZ,aY,aS,fT,Nat.reduceLeDiff,Nat.reduceLT,Nat.reduceSub,VX,Nat.reduceEqDiff,Nat.reduceAdd]
   exact aH rfl
 ·rw[decide_eq_false (mt Ok.1 hd)] at ne
  rw[if_neg hd]
  by_cases hn:q.num<0<;>by_cases hl:((decDigits q.num.natAbs).length:Int)≤200
  all_goals
   simp only[zX,wK,t1,t2,a1,a2,a3,a4,ne,hn,hl,bP,aK,bH,kY,kU,nK,cK,aZ,aY,aS,fT,Nat.reduceLeDiff,Nat.reduceLT,Nat.reduceSub,VX,Nat.reduceEqDiff,Nat.reduceAdd]
   exact aH rfl
def Am (q:Rat):VV:=if C2 q=true then .dU [bD (OW q),VB true] else .dU [bD [],VB false]
theorem Gy (q:Rat):gW (Am q)=true:=by unfold Am;split<;>rfl
theorem Vw (q:Rat) (hk:aM q≤1099511627776):TC 137 [aF q] (Am q):=by
 refine TC.walk ⟨true,false⟩ Wz rfl (aL9 rfl) (by simp[aO,dW]) (Gy q) ?_
 have t1:=M6 q hk
 unfold Am
 by_cases h:C2 q=true
 ·rw[h] at t1
  rw[if_pos h]
  simp only[Kv,FM,t1,aK,bH,cK,aZ,aY,aS,fT,Nat.reduceLeDiff,Nat.reduceLT,Nat.reduceSub,VX,Nat.reduceEqDiff,Nat.reduceAdd]
  exact aH rfl
 ·have h':C2 q=false:=by simpa using h
  rw[h'] at t1
  rw[if_neg h]
  simp only[Kv,FM,t1,aK,bH,cK,aZ,aY,aS,fT,Nat.reduceLeDiff,Nat.reduceLT,Nat.reduceSub,VX,Nat.reduceEqDiff,Nat.reduceAdd]
  exact aH rfl
end Go.PM