/- Texts of a claim, in one: part 9. -/
import Derived.Lib.Bytealg
import Derived.Lib.ParseIntB
import Derived.Test.YtjmflicajplclaaGreatDoorKEh
open Bool renaming and_eq_true → aLM,and_self → aMC,false_eq_true → aLQ
open Int renaming lt_or_gt_of_ne → aN0,lt_trichotomy → aN3,mul_neg_of_neg_of_pos → aN1,mul_pos → aN2,natAbs_mul → aNj,sign_eq_neg_one_of_neg → aN6,sign_eq_one_of_pos → aN7,toNat_natCast → aMA,zero_mul → aN4
open List renaming all_append → aOa,all_cons → aL6,append_assoc → aM0,getElem?_eq_getElem → aLl,length → aN9,length_append → aLp,length_cons → aLo,length_nil → aMR,length_pos_iff → aNM,length_set → aNt,mapM_cons → aMB,mem_cons → aMs,mem_of_getElem? → aL8,replicate → aL4,set_cons_zero → aMS,singleton_inj → aN8,take_append_drop → aMn,take_of_length_le → aL7
open Nat renaming Coprime → aNY,div_one → aNZ,gcd → aNN,gcd_dvd_left → aNU,gcd_pos_of_pos_left → aNV,le_add_right → aM6,le_of_ble_eq_true → aM2,le_of_dvd → aNT,le_refl → aLe,le_trans → aLf,lt_of_lt_of_le → aLg,mul_comm → aMG,mul_ne_zero → aNW,pow_le_pow_right → aNh,pow_succ → aMF,zero_add → aMM,zero_le → aLI
open Option renaming getD_some → aOc,isSome_none → aLT,isSome_some → aOb
open Rat renaming mul_def' → aNX,num_eq_zero → aN5
set_option linter.unusedSimpArgs false
set_option linter.unusedVariables false
namespace Go.PM
theorem asT (neg:Bool) (t d:Nat):mF neg (t*d)=mF neg t*(d:Int):=by cases neg<;>simp[mF,Int.neg_mul]
theorem Gz (q:Rat) {d:Nat} (hd:d≠0):mkRat (mF (decide (q.num<0)) (q.num.natAbs*d)) (q.den*d)=q:=by
 rw[asT,Rat.mkRat_mul_right hd,NC]
theorem Fk (X Y:Int) {B:Nat} (hB:B≠0):mkRat X B+mkRat Y B=mkRat (X+Y) B:=by
 rw[Rat.mkRat_add_mkRat _ _ hB hB,←Int.add_mul,Rat.mkRat_mul_right hB]
theorem SS (n:Bool) (x y:Nat):mF n x+mF n y=mF n (x+y):=by cases n<;>simp[mF]<;>omega
theorem YU {m n:Bool} (h:m≠n) {x y:Nat} (hx:y≤x):mF m x+mF n y=mF m (x-y):=by
 cases m<;>cases n<;>simp_all [mF]<;>omega
theorem XG {m n:Bool} (h:m≠n) {x y:Nat} (hx:x≤y):mF m x+mF n y=mF n (y-x):=by
 cases m<;>cases n<;>simp_all [mF]<;>omega
theorem Sj (n:Int) {d:Nat} (hd:d≠0):(mkRat n d).num.natAbs=n.natAbs / aNN n.natAbs d:=by
 have:=HY (neg:=decide (n<0)) (t:=n.natAbs) (b:=d) hd
 rw[J3] at this
 rw[this,qX]
theorem Nx (n:Int) {d:Nat} (hd:d≠0):(mkRat n d).den=d / aNN n.natAbs d:=by
 have:=SV (neg:=decide (n<0)) (t:=n.natAbs) (b:=d) hd
 rwa [J3] at this
theorem ayS (n:Int) {d:Nat} (hd:d≠0):(mkRat n d).num<0↔n<0:=by
 have:=HY (neg:=decide (n<0)) (t:=n.natAbs) (b:=d) hd
 rw[J3] at this
 rw[this,Te]
 have h:n<0→n.natAbs / aNN n.natAbs d≠0:=fun h=>by
  have:=Nat.div_pos (aNT (by omega) (aNU n.natAbs d)) (aNV d (show 0<n.natAbs by omega))
  omega
 constructor
 ·rintro⟨h1,_⟩;simpa using h1
 ·intro h1;exact⟨by simpa using h1,h h1⟩
theorem DV (t:Nat) {d:Nat} (hd:d≠0):(mkRat (mF false t) d).num.natAbs ∣ t∧(mkRat (mF false t) d).den ∣ d:=by
 rw[Sj _ hd,Nx _ hd,qX]
 exact⟨Nat.div_dvd_of_dvd (aNU _ _),Nat.div_dvd_of_dvd (Nat.gcd_dvd_right _ _)⟩
theorem afB (a b:Rat):(a*b).num.natAbs=(mkRat (mF false a.num.natAbs) b.den).num.natAbs*(mkRat (mF false b.num.natAbs) a.den).num.natAbs ∧
  (a*b).den=(mkRat (mF false a.num.natAbs) b.den).den*(mkRat (mF false b.num.natAbs) a.den).den:=by
 have ha:=a.den_nz
 have hb:=b.den_nz
 have IV:a.den*b.den≠0:=aNW ha hb
 obtain⟨u1,u2⟩:=DV a.num.natAbs hb
 obtain⟨v1,v2⟩:=DV b.num.natAbs ha
 have e:(mkRat (mF false a.num.natAbs) b.den)*(mkRat (mF false b.num.natAbs) a.den)=mkRat (mF false a.num.natAbs*mF false b.num.natAbs) (b.den*a.den):=Rat.mkRat_mul_mkRat _ _ _ _
 have en:((mkRat (mF false a.num.natAbs) b.den)*(mkRat (mF false b.num.natAbs) a.den)).num.natAbs=(a*b).num.natAbs:=by
  rw[e,aNX,Sj _ IV,Sj _ (aNW hb ha),aNj,aNj,qX,qX,aMG b.den]
 have ed:((mkRat (mF false a.num.natAbs) b.den)*(mkRat (mF false b.num.natAbs) a.den)).den=(a*b).den:=by
  rw[e,aNX,Nx _ IV,Nx _ (aNW hb ha),aNj,aNj,qX,qX,aMG b.den]
 rw[←en,←ed]
 generalize hu:mkRat (mF false a.num.natAbs) b.den=u at *
 generalize hv:mkRat (mF false b.num.natAbs) a.den=v at *
 have c1:aNY u.num.natAbs u.den:=u.reduced
 have c2:aNY v.num.natAbs v.den:=v.reduced
 have c3:aNY u.num.natAbs v.den:=Nat.Coprime.coprime_dvd_left u1 (Nat.Coprime.coprime_dvd_right v2 a.reduced)
 have c4:aNY v.num.natAbs u.den:=Nat.Coprime.coprime_dvd_left v1 (Nat.Coprime.coprime_dvd_right u2 b.reduced)
 have c:aNN (u.num*v.num).natAbs (u.den*v.den)=1:=by
  rw[aNj]
  exact Nat.Coprime.mul_left (Nat.Coprime.mul_right c1 c3) (Nat.Coprime.mul_right c4 c2)
 rw[aNX,Sj _ (aNW u.den_nz v.den_nz),Nx _ (aNW u.den_nz v.den_nz),c,aNZ,aNZ,aNj]
 exact⟨rfl,rfl⟩
theorem T5 {a b:Rat} (ha:a.num≠0) (hb:b.num≠0):(a*b).num<0↔(decide (a.num<0) != decide (b.num<0))=true:=by
 rw[aNX,ayS _ (aNW a.den_nz b.den_nz)]
 rcases aN0 ha with h1 | h1<;>rcases aN0 hb with h2 | h2
 ·have:=Int.mul_pos_of_neg_of_neg h1 h2
  rw[decide_eq_true h1,decide_eq_true h2]
  simp;omega
 ·have:=aN1 h1 h2
  rw[decide_eq_true h1,decide_eq_false (show ¬b.num<0 by omega)]
  simp[this]
 ·have:=Int.mul_neg_of_pos_of_neg h1 h2
  rw[decide_eq_false (show ¬a.num<0 by omega),decide_eq_true h2]
  simp[this]
 ·have:=aN2 h1 h2
  rw[decide_eq_false (show ¬a.num<0 by omega),decide_eq_false (show ¬b.num<0 by omega)]
  simp;omega
def jH (q:Rat):Int:=if q.num=0 then 0 else if q.num<0 then -1 else 1
def Qj (a b:Rat):Int:=if jH a=jH b then (if a.num<0 then -gA (a.num.natAbs*b.den) (b.num.natAbs*a.den) else gA (a.num.natAbs*b.den) (b.num.natAbs*a.den)) else jH a-jH b
theorem AL {m n:Nat}:gA m n<0↔m<n:=by
 unfold gA
 split
 ·omega
 ·split<;>omega
theorem asW {m n:Nat}:0<gA m n↔n<m:=by
 unfold gA
 split
 ·omega
 ·split<;>omega
theorem AP {m n:Nat}:gA m n=0↔m=n:=by
 unfold gA
 split
 ·omega
 ·split<;>omega
theorem pL {q:Rat} (h:q.num<0):jH q = -1:=by unfold jH;rw[if_neg (by omega),if_pos h]
theorem kW {q:Rat} (h:q.num=0):jH q=0:=by unfold jH;rw[if_pos h]
theorem pK {q:Rat} (h:0<q.num):jH q=1:=by unfold jH;rw[if_neg (by omega),if_neg (by omega)]
theorem Zd {a b:Rat}:Qj a b<0↔a<b:=by
 rw[Rat.lt_iff]
 have hA:(0:Int)<a.den:=by have:=a.den_nz;omega
 have hB:(0:Int)<b.den:=by have:=b.den_nz;omega
 have eA:((a.num.natAbs*b.den:Nat):Int)=(a.num.natAbs:Int)*b.den:=by simp
 have eB:((b.num.natAbs*a.den:Nat):Int)=(b.num.natAbs:Int)*a.den:=by simp
 unfold Qj
 rcases aN3 a.num 0 with h1 | h1 | h1<;>rcases aN3 b.num 0 with h2 | h2 | h2
 ·rw[pL h1,pL h2,if_pos rfl,if_pos h1]
  have f1:(a.num.natAbs:Int) = -a.num:=by omega
  have f2:(b.num.natAbs:Int) = -b.num:=by omega
  rw[f1,Int.neg_mul] at eA
  rw[f2,Int.neg_mul] at eB
  have := @asW (a.num.natAbs*b.den) (b.num.natAbs*a.den)
  omega
 ·rw[pL h1,kW h2,if_neg (by decide),h2,aN4]
  have:=aN1 h1 hB
  omega
 ·rw[pL h1,pK h2,if_neg (by decide)]
  have:=aN1 h1 hB
  have:=aN2 h2 hA
  omega
 ·rw[kW h1,pL h2,if_neg (by decide),h1,aN4]
  have:=aN1 h2 hA
  omega
 ·rw[kW h1,kW h2,if_pos rfl,h1,h2];simp[gA]
 ·rw[kW h1,pK h2,if_neg (by decide),h1,aN4]
  have:=aN2 h2 hA
  omega
 ·rw[pK h1,pL h2,if_neg (by decide)]
  have:=aN1 h2 hA
  have:=aN2 h1 hB
  omega
 ·rw[pK h1,kW h2,if_neg (by decide),h2,aN4]
  have:=aN2 h1 hB
  omega
 ·rw[pK h1,pK h2,if_pos rfl,if_neg (by omega)]
  have f1:(a.num.natAbs:Int)=a.num:=by omega
  have f2:(b.num.natAbs:Int)=b.num:=by omega
  rw[f1] at eA
  rw[f2] at eB
  have := @AL (a.num.natAbs*b.den) (b.num.natAbs*a.den)
  omega
theorem aoQ (m n:Nat):gA n m = -gA m n:=by
 rcases Nat.lt_trichotomy m n with h | h | h
 ·rw[gA,gA,if_neg (by omega),if_neg (by omega),if_pos h];rfl
 ·subst h;rw[gA,if_neg (by omega),if_pos rfl];rfl
 ·rw[gA,gA,if_pos h,if_neg (by omega),if_neg (by omega)]
theorem Uu (a b:Rat):Qj b a = -Qj a b:=by
 unfold Qj
 by_cases h:jH a=jH b
 ·have h2:b.num<0↔a.num<0:=by
   rcases aN3 a.num 0 with h1 | h1 | h1<;>rcases aN3 b.num 0 with h2 | h2 | h2
   ·simp[h1,h2]
   ·rw[pL h1,kW h2] at h;omega
   ·rw[pL h1,pK h2] at h;omega
   ·rw[kW h1,pL h2] at h;omega
   ·omega
   ·rw[kW h1,pK h2] at h;omega
   ·rw[pK h1,pL h2] at h;omega
   ·rw[pK h1,kW h2] at h;omega
   ·omega
  rw[if_pos h,if_pos h.symm,aoQ]
  by_cases h3:a.num<0
  ·rw[if_pos h3,if_pos (h2.2 h3)]
  ·rw[if_neg h3,if_neg (mt h2.1 h3)]
 ·rw[if_neg h,if_neg (fun h'=>h h'.symm)];omega
theorem auB {a b:Rat}:0<Qj a b↔b<a:=by
 rw[←Zd,Uu a b];omega
theorem QY {a b:Rat}:Qj a b=0↔a=b:=by
 constructor
 ·intro h
  refine Rat.le_antisymm ?_ ?_
  ·rw[←Rat.not_lt,←auB];omega
  ·rw[←Rat.not_lt,←Zd];omega
 ·rintro rfl
  have:=Uu a a
  omega
theorem axP {q:Rat}:q.num<0↔q<0:=by
 have := @Rat.num_nonneg q
 rw[←Rat.not_le,←this]
 omega
theorem atF {q:Rat}:0<q.num↔0<q:=by
 have h1 := @axP (-q)
 rw[Rat.neg_num] at h1
 have h2 : -q<0↔0<q:=by
  rw[Rat.neg_lt_iff];simp
 rw[←h2,←h1]
 omega
theorem Et {q:Rat}:jH q=0↔q=0:=by
 rw[←aN5]
 rcases aN3 q.num 0 with h | h | h
 ·rw[pL h];omega
 ·rw[kW h];omega
 ·rw[pK h];omega
theorem GC {q:Rat}:0<jH q↔0<q:=by
 rw[←atF]
 rcases aN3 q.num 0 with h | h | h
 ·rw[pL h];omega
 ·rw[kW h];omega
 ·rw[pK h];omega
end Go.PM
namespace Go.PM
open Go.Lib
def aG (q:Rat):VV := .agg [VB (decide (q.num<0)),bO q.num.natAbs,bO q.den]
theorem iM (q:Rat):aY (aG q)=true:=by simp[aG,aY,aO,bT,qM]
theorem tY (q:Rat):gV (aG q)=true:=by simp[aG,gV,rE,tZ,qM]
theorem D2 {q:Rat} {neg:Bool} {t b:Nat} (h0:q.num<0↔neg=true) (h1:q.num.natAbs=t) (h2:q.den=b):aG q = .agg [VB neg,bO t,bO b]:=by
 subst h1 h2
 unfold aG
 congr 4
 cases neg<;>simp_all
theorem asL {neg:Bool} {t b:Nat} (hb:b≠0) (ht:t≠0):aG (mkRat (mF neg t) b) = .agg [VB neg,bO (t / aNN t b),bO (b / aNN t b)]:=by
 refine D2 ?_ ?_ (SV hb)
 ·rw[HY hb,Te]
  have h1:t / aNN t b≠0:=by
   have:=Nat.div_pos (aNT (by omega) (aNU t b)) (aNV b (by omega))
   omega
  simp[h1]
 ·rw[HY hb,qX]
theorem adS:aG 0 = .agg [VB false,.tree [] .op,bO 1]:=by
 rw[D2 (q:=0) (neg:=false) (t:=0) (b:=1) (by simp) rfl rfl,Gj]
theorem bB (n:Nat):bP (bO n)=true:=rfl
theorem bA (n:Nat):isAny (bO n)=false:=rfl
theorem aU (n:Nat):aB (bO n)=[bO n]:=rfl
theorem cI (q:Rat):isAny (aG q)=false:=rfl
theorem aI (q:Rat):aB (aG q)=[VB (decide (q.num<0)),bO q.num.natAbs,bO q.den]:=rfl
theorem bK (q:Rat):dJ true 3 (aG q) 0=some (aG q):=rfl
theorem kX (q:Rat):dJ false 1 (aG q) 0=some (VB (decide (q.num<0))):=rfl
theorem kT (q:Rat):dJ false 1 (aG q) 1=some (bO q.num.natAbs):=rfl
theorem nJ (q:Rat):dJ false 1 (aG q) 2=some (bO q.den):=rfl
theorem uT {d:Nat} {H:aA} {u u' v v' w w':VV} (h1:fz (d+1) H u=some u') (h2:fz (d+1) H v=some v') (h3:fz (d+1) H w=some w'):fz (d+2) H (.agg [u,v,w])=some (.agg [u',v',w']):=by
 have e:fz (d+2) H (.agg [u,v,w])=if aY (.agg [u,v,w])=true then some (.agg [u,v,w]) else ([u,v,w].mapM (fz (d+1) H)).map .agg:=rfl
 rw[e]
 by_cases hp:aY (.agg [u,v,w])=true
 ·rw[if_pos hp]
  simp only[aY,aO,aLM,and_true] at hp
  rw[aM hp.1] at h1
  rw[aM hp.2.1] at h2
  rw[aM hp.2.2] at h3
  cases h1
  cases h2
  cases h3
  rfl
 ·rw[if_neg hp,aMB,h1,aMB,h2,aMB,h3]
  rfl
theorem ajN {d:Nat} {H:aA} {v:Value} (h:qM v=true):fz (d+1) H (.sc v)=some (.sc v):=aM h
theorem zR {H:aA} {neg:Bool} {t b:Nat}:fz depth H (.agg [VB neg,bO t,bO b])=some (.agg [VB neg,bO t,bO b]):=aK (by simp[aY,aO,bT,qM])
theorem uL {H:aA} (q:Rat):fz depth H (aG q)=some (aG q):=aK (iM q)
theorem aBf {n:Nat} (h:bl n≤2199023255552):(aD 4294967296 n).length≤68719476736:=by
 have:=auM n
 omega
theorem gI {n:Nat} (h:bl n≤4398046511104):(aD 4294967296 n).length≤17592186044416:=by
 have:=auM n
 omega
theorem uB (neg:Bool) (t b:Nat) (hb:b≠0) (ht:bl t≤4398046511104) (yW:bl b≤4398046511104):TC 144 [VB neg,bO t,bO b] (aG (mkRat (mF neg t) b)):=by
 refine TC.walk ⟨true,false⟩ Qp rfl (aM2 rfl) (by simp[aO,bT,aY,qM]) (tY _) ?_
 by_cases h0:t=0
 ·subst h0
  have hl:(((aD 4294967296 0).length:Nat):Int)=0:=by rw[cC];rfl
  have c1:TC 139 [.sc (.int .u64 1)] (bO 1):=pJ 1 (by decide)
  rw[Bu,Rat.zero_mkRat,adS,←Gj]
  simp only[zJ,uA,dR,hl,c1,bB,bA,aU,gC,Nat.reduceLeDiff,Nat.reduceLT,Nat.reduceSub,VX,Nat.reduceEqDiff,Nat.reduceAdd]
  exact uT (ajN rfl) AB (aM (bT _))
 ·have hl:¬(((aD 4294967296 t).length:Nat):Int)=0:=by have:=AI.2 h0;omega
  have c1:=FT t b (gI ht) (gI yW)
  have hg0:aNN t b≠0:=Nat.gcd_ne_zero_right hb
  have hgl:bl (aNN t b)≤4398046511104:=aLf (lY (Nat.gcd_le_right t (by omega))) yW
  have c2:=BC t _ hg0 (gI ht) (gI hgl)
  have c3:=BC b _ hg0 (gI yW) (gI hgl)
  rw[asL hb h0]
  by_cases h1:((aD 4294967296 (aNN t b)).length:Int)=1
  ·obtain⟨d,hd⟩:∃d,aD 4294967296 (aNN t b)=[d]:=List.length_eq_one_iff.1 (by omega)
   obtain⟨hgd,_,_⟩:=T4 hd
   have e1:bI 1 (bO (aNN t b)) (.sc (.int .i64 0)) [.row 0 [.agg [VB false,.tree [] .nil,.tree [] .nil]] 3 true]=some (.cS (uV d) 0):=aF (f:=uV) (xs:=aD 4294967296 (aNN t b)) (i:=0) (k := .i64) (by rw[hd];rfl) rfl
   by_cases h2:(d:Int)=1
   ·have Xm:aNN t b=1:=by omega
    simp only[zJ,uA,dR,hl,c1,h1,h2,e1,bB,bA,aU,gC,Nat.reduceLeDiff,Nat.reduceLT,Nat.reduceSub,VX,Nat.reduceEqDiff,Nat.reduceAdd]
    rw[Xm,aNZ,aNZ]
    exact zR
   ·simp only[zJ,uA,dR,hl,c1,c2,c3,h1,h2,e1,bB,bA,aU,gC,Nat.reduceLeDiff,Nat.reduceLT,Nat.reduceSub,VX,Nat.reduceEqDiff,Nat.reduceAdd]
    exact zR
  ·simp only[zJ,uA,dR,hl,c1,c2,c3,h1,bB,bA,aU,gC,Nat.reduceLeDiff,Nat.reduceLT,Nat.reduceSub,VX,Nat.reduceEqDiff,Nat.reduceAdd]
   exact zR
theorem adV {n:Int} (h0 : -9223372036854775808≤n) (h:n<0):IntKind.u64.wrap (0-IntKind.u64.wrap n)=(n.natAbs:Int):=by
 rw[wrap_u64,wrap_u64]
 omega
theorem Lg (n:Int) (h0 : -9223372036854775808≤n) (h1:n≤9223372036854775807):TC 140 [VI n] (VK .u64 (n.natAbs:Int)):=by
 refine TC.walk ⟨true,false⟩ KK rfl (aM2 rfl) rfl rfl ?_
 by_cases h:n<0
 ·simp only[Bd,yT,h,adV h0 h,VX,Nat.reduceEqDiff,Nat.reduceAdd]
  exact aK rfl
 ·have w:IntKind.u64.wrap n=(n.natAbs:Int):=by rw[wrap_u64];omega
  simp only[Bd,yT,h,w,VX,Nat.reduceEqDiff,Nat.reduceAdd]
  exact aK rfl
theorem ajG (n:Int):aG (n:Rat) = .agg [VB (decide (n<0)),bO n.natAbs,bO 1]:=D2 (by simp) (by simp) (by simp)
theorem vY (n:Int) (h0 : -9223372036854775808≤n) (h1:n≤9223372036854775807):TC 64 [VI n] (aG (n:Rat)):=by
 refine TC.walk ⟨true,false⟩ S6 rfl (aM2 rfl) rfl (tY _) ?_
 have c1:=Lg n h0 h1
 have c2:=pJ n.natAbs (by omega)
 have c3:TC 139 [.sc (.int .u64 1)] (bO 1):=pJ 1 (by decide)
 rw[ajG]
 simp only[PA,Jj,c1,c2,c3,bB,bA,aU,gC,Nat.reduceLeDiff,Nat.reduceLT,Nat.reduceSub,VX,Nat.reduceEqDiff,Nat.reduceAdd]
 exact zR
theorem NH {q:Rat}:(((aD 4294967296 q.num.natAbs).length:Nat):Int)=0↔q.num=0:=by
 have:=AI (n:=q.num.natAbs)
 omega
theorem dL (q:Rat):TC 68 [aG q] (VI (jH q)):=by
 refine TC.walk ⟨true,false⟩ Kf rfl (aM2 rfl) (by simp[aO,iM]) rfl ?_
 unfold jH
 by_cases h0:q.num=0
 ·have hl:=NH.2 h0
  rw[if_pos h0]
  simp only[uS,qS,dR,hl,aI,kX,kT,bB,bA,aU,gC,Nat.reduceLeDiff,Nat.reduceLT,Nat.reduceSub,VX,Nat.reduceEqDiff,Nat.reduceAdd]
  exact aK rfl
 ·have hl:¬(((aD 4294967296 q.num.natAbs).length:Nat):Int)=0:=fun h=>h0 (NH.1 h)
  rw[if_neg h0]
  by_cases h1:q.num<0
  ·simp only[uS,qS,dR,hl,h1,aI,kX,kT,bB,bA,aU,gC,Nat.reduceLeDiff,Nat.reduceLT,Nat.reduceSub,VX,Nat.reduceEqDiff,Nat.reduceAdd]
   exact aK rfl
  ·simp only[uS,qS,dR,hl,h1,aI,kX,kT,bB,bA,aU,gC,Nat.reduceLeDiff,Nat.reduceLT,Nat.reduceSub,VX,Nat.reduceEqDiff,Nat.reduceAdd]
   exact aK rfl
theorem Lc (q:Rat):TC 177 [aG q] (aG (-q)):=by
 refine TC.walk ⟨true,false⟩ IE rfl (aM2 rfl) (by simp[aO,iM]) (tY _) ?_
 have hq:aG (-q) = .agg [VB (decide (0<q.num)),bO q.num.natAbs,bO q.den]:=D2 (by simp) (by simp) (by simp)
 rw[hq]
 by_cases h1:q.num<0
 ·have h2:¬0<q.num:=by omega
  simp only[sT,oZ,dR,h1,h2,aI,kX,kT,nJ,bB,bA,aU,gC,Nat.reduceLeDiff,Nat.reduceLT,Nat.reduceSub,VX,Nat.reduceEqDiff,Nat.reduceAdd]
  exact zR
 ·by_cases h0:q.num=0
  ·have hl:¬(0:Int)<((aD 4294967296 q.num.natAbs).length:Int):=by have:=NH.2 h0;omega
   have h2:¬0<q.num:=by omega
   simp only[sT,oZ,dR,hl,h1,h2,aI,kX,kT,nJ,bB,bA,aU,gC,Nat.reduceLeDiff,Nat.reduceLT,Nat.reduceSub,VX,Nat.reduceEqDiff,Nat.reduceAdd]
   exact zR
  ·have hl:(0:Int)<((aD 4294967296 q.num.natAbs).length:Int):=by have:=mt NH.1 h0;omega
   have h2:0<q.num:=by omega
   simp only[sT,oZ,dR,hl,h1,h2,aI,kX,kT,nJ,bB,bA,aU,gC,Nat.reduceLeDiff,Nat.reduceLT,Nat.reduceSub,VX,Nat.reduceEqDiff,Nat.reduceAdd]
   exact zR
end Go.PM
namespace Go.PM
open Go.Lib
theorem yO (a b:Bool):NZ false (.bool a) (.bool b)=some (.bool (a == b)):=by
 show some (Value.bool ((a == b) != false))=_
 rw[Bool.bne_false]
theorem Aa (a b:Bool):NZ true (.bool a) (.bool b)=some (.bool (a != b)):=by
 show some (Value.bool ((a == b) != true))=_
 cases a<;>cases b<;>rfl
theorem uW {q:Rat} {k:Nat} (h:aL q≤k):bl q.num.natAbs≤k:=aLf qJ h
theorem uZ {q:Rat} {k:Nat} (h:aL q≤k):bl q.den≤k:=aLf nR h
theorem Kt {X Y B:Nat} {a b:Rat} (hB:B≠0) (ha:mkRat (mF (decide (a.num<0)) X) B=a) (hb:mkRat (mF (decide (b.num<0)) Y) B=b) :
  ((decide (a.num<0))=(decide (b.num<0))→mkRat (mF (decide (a.num<0)) (X+Y)) B=a+b) ∧
  ((decide (a.num<0))≠(decide (b.num<0))→Y≤X→mkRat (mF (decide (a.num<0)) (X-Y)) B=a+b) ∧
  ((decide (a.num<0))≠(decide (b.num<0))→X≤Y→mkRat (mF (decide (b.num<0)) (Y-X)) B=a+b):=by
 refine⟨fun h => ?_,fun h hx => ?_,fun h hx => ?_⟩
 ·conv=>rhs;rw[←ha,←hb,Fk _ _ hB,←h,SS]
 ·conv=>rhs;rw[←ha,←hb,Fk _ _ hB,YU h hx]
 ·conv=>rhs;rw[←ha,←hb,Fk _ _ hB,XG h hx]
theorem oE (a b:Rat) (Gp:aL a≤1099511627776) (Fm:aL b≤1099511627776):TC 69 [aG a,aG b] (aG (a+b)):=by
 refine TC.walk ⟨true,false⟩ L4 rfl (aM2 rfl) (by simp[aO,iM]) (tY _) ?_
 have ca:=dL a
 have cb:=dL b
 by_cases ha0:a.num=0
 ·have:a=0:=aN5.1 ha0
  rw[kW ha0] at ca
  rw[this,Rat.zero_add,←this]
  simp only[iE,fH,ca,cb,aI,bK,cI,bB,bA,aU,gC,Nat.reduceLeDiff,Nat.reduceLT,Nat.reduceSub,VX,Nat.reduceEqDiff,Nat.reduceAdd]
  exact uL _
 have hsa:¬jH a=0:=fun h=>ha0 (aN5.2 (Et.1 h))
 by_cases QB:b.num=0
 ·have:b=0:=aN5.1 QB
  rw[kW QB] at cb
  rw[this,Rat.add_zero,←this]
  simp only[iE,fH,ca,cb,hsa,aI,bK,cI,bB,bA,aU,gC,Nat.reduceLeDiff,Nat.reduceLT,Nat.reduceSub,VX,Nat.reduceEqDiff,Nat.reduceAdd]
  exact uL _
 have hsb:¬jH b=0:=fun h=>QB (aN5.2 (Et.1 h))
 have la:=uW Gp
 have lb:=uW Fm
 have lda:=uZ Gp
 have ldb:=uZ Fm
 have fin:∀(X Y B:Nat),bl X≤2199023255552→bl Y≤2199023255552→bl B≤2199023255552→B≠0→mkRat (mF (decide (a.num<0)) X) B=a→mkRat (mF (decide (b.num<0)) Y) B=b →
   TC 145 [bO X,bO Y] (bO (X+Y))∧TC 142 [bO X,bO Y] (VI (gA X Y)) ∧
   (Y≤X→TC 146 [bO X,bO Y] (bO (X-Y)))∧(X≤Y→TC 146 [bO Y,bO X] (bO (Y-X))) ∧
   (∀neg,TC 144 [VB neg,bO (X+Y),bO B] (aG (mkRat (mF neg (X+Y)) B))) ∧
   (∀neg,TC 144 [VB neg,bO (X-Y),bO B] (aG (mkRat (mF neg (X-Y)) B))) ∧
   (∀neg,TC 144 [VB neg,bO (Y-X),bO B] (aG (mkRat (mF neg (Y-X)) B))):=by
  intro X Y B hX hY hB hB0 _ _
  refine⟨FE X Y (gI (by omega)) (gI (by omega)),lI X Y (gI (by omega)) (gI (by omega)),fun h=>FX X Y h (gI (by omega)),fun h=>FX Y X h (gI (by omega)),fun neg=>uB neg _ _ hB0 ?_ (by omega),fun neg=>uB neg _ _ hB0 ?_ (by omega),fun neg=>uB neg _ _ hB0 ?_ (by omega)⟩
  ·exact aLf (YI hX hY) (by omega)
  ·exact aLf (lY (Nat.sub_le _ _)) (by omega)
  ·exact aLf (lY (Nat.sub_le _ _)) (by omega)
 by_cases hd:a.den=b.den
 ·have hBn:=a.den_nz
  have cc:=lI a.den b.den (gI (by omega)) (gI (by omega))
  rw[show gA a.den b.den=0 from AP.2 hd] at cc
  have eb:mkRat (mF (decide (b.num<0)) b.num.natAbs) a.den=b:=by rw[hd,NC]
  obtain⟨f1,f2,f3,f4,f5,f6,f7⟩:=fin a.num.natAbs b.num.natAbs a.den (by omega) (by omega) (by omega) hBn (NC a) eb
  obtain⟨p1,p2,p3⟩:=Kt hBn (NC a) eb
  by_cases hn:decide (a.num<0)=decide (b.num<0)
  ·have Xa:(decide (a.num<0) == decide (b.num<0))=true:=by simpa using hn
   rw[←p1 hn]
   simp only[iE,fH,ca,cb,hsa,hsb,cc,f1,f5,yO,Aa,Xa,aI,bK,kX,kT,nJ,cI,bB,bA,aU,gC,Nat.reduceLeDiff,Nat.reduceLT,Nat.reduceSub,VX,Nat.reduceEqDiff,Nat.reduceAdd]
   exact uL _
  ·have Xa:(decide (a.num<0) == decide (b.num<0))=false:=by simpa using hn
   by_cases hx:(0:Int)≤gA a.num.natAbs b.num.natAbs
   ·have hle:b.num.natAbs≤a.num.natAbs:=by have := @AL a.num.natAbs b.num.natAbs;omega
    have c3:=f3 hle
    rw[←p2 hn hle]
    simp only[iE,fH,ca,cb,hsa,hsb,cc,f2,c3,f6,hx,yO,Aa,Xa,aI,bK,kX,kT,nJ,cI,bB,bA,aU,gC,Nat.reduceLeDiff,Nat.reduceLT,Nat.reduceSub,VX,Nat.reduceEqDiff,Nat.reduceAdd]
    exact uL _
   ·have hle:a.num.natAbs≤b.num.natAbs:=by have := @AL a.num.natAbs b.num.natAbs;omega
    have c3:=f4 hle
    rw[←p3 hn hle]
    simp only[iE,fH,ca,cb,hsa,hsb,cc,f2,c3,f7,hx,yO,Aa,Xa,aI,bK,kX,kT,nJ,cI,bB,bA,aU,gC,Nat.reduceLeDiff,Nat.reduceLT,Nat.reduceSub,VX,Nat.reduceEqDiff,Nat.reduceAdd]
    exact uL _
 ·have hBn:=aNW a.den_nz b.den_nz
  have cc:=lI a.den b.den (gI (by omega)) (gI (by omega))
  have TZ:¬gA a.den b.den=0:=fun h=>hd (AP.1 h)
  have m1:=jO a.num.natAbs b.den (gI (by omega)) (gI (by omega))
  have m2:=jO b.num.natAbs a.den (gI (by omega)) (gI (by omega))
  have m3:=jO a.den b.den (gI (by omega)) (gI (by omega))
  have ea:mkRat (mF (decide (a.num<0)) (a.num.natAbs*b.den)) (a.den*b.den)=a:=Gz a b.den_nz
  have eb:mkRat (mF (decide (b.num<0)) (b.num.natAbs*a.den)) (a.den*b.den)=b:=by rw[aMG a.den];exact Gz b a.den_nz
  have k1:=nW a.num.natAbs b.den
  have k2:=nW b.num.natAbs a.den
  have k3:=nW a.den b.den
  obtain⟨f1,f2,f3,f4,f5,f6,f7⟩:=fin _ _ _ (by omega) (by omega) (by omega) hBn ea eb
  obtain⟨p1,p2,p3⟩:=Kt hBn ea eb
  by_cases hn:decide (a.num<0)=decide (b.num<0)
  ·have Xa:(decide (a.num<0) == decide (b.num<0))=true:=by simpa using hn
   rw[←p1 hn]
   simp only[iE,fH,ca,cb,hsa,hsb,cc,TZ,m1,m2,m3,f1,f5,yO,Aa,Xa,aI,bK,kX,kT,nJ,cI,bB,bA,aU,gC,Nat.reduceLeDiff,Nat.reduceLT,Nat.reduceSub,VX,Nat.reduceEqDiff,Nat.reduceAdd]
   exact uL _
  ·have Xa:(decide (a.num<0) == decide (b.num<0))=false:=by simpa using hn
   by_cases hx:(0:Int)≤gA (a.num.natAbs*b.den) (b.num.natAbs*a.den)
   ·have hle:b.num.natAbs*a.den≤a.num.natAbs*b.den:=by have := @AL (a.num.natAbs*b.den) (b.num.natAbs*a.den);omega
    have c3:=f3 hle
    rw[←p2 hn hle]
    simp only[iE,fH,ca,cb,hsa,hsb,cc,TZ,m1,m2,m3,f2,c3,f6,hx,yO,Aa,Xa,aI,bK,kX,kT,nJ,cI,bB,bA,aU,gC,Nat.reduceLeDiff,Nat.reduceLT,Nat.reduceSub,VX,Nat.reduceEqDiff,Nat.reduceAdd]
    exact uL _
   ·have hle:a.num.natAbs*b.den≤b.num.natAbs*a.den:=by have := @AL (a.num.natAbs*b.den) (b.num.natAbs*a.den);omega
    have c3:=f4 hle
    rw[←p3 hn hle]
    simp only[iE,fH,ca,cb,hsa,hsb,cc,TZ,m1,m2,m3,f2,c3,f7,hx,yO,Aa,Xa,aI,bK,kX,kT,nJ,cI,bB,bA,aU,gC,Nat.reduceLeDiff,Nat.reduceLT,Nat.reduceSub,VX,Nat.reduceEqDiff,Nat.reduceAdd]
    exact uL _
theorem rP (a b:Rat) (Gp:aL a≤1099511627776) (Fm:aL b≤1099511627776):TC 128 [aG a,aG b] (aG (a-b)):=by
 refine TC.walk ⟨true,false⟩ Ku rfl (aM2 rfl) (by simp[aO,iM]) (tY _) ?_
 have c1:=Lc b
 have c2:=oE a (-b) Gp (by rw[Lu];exact Fm)
 rw[←Rat.sub_eq_add_neg] at c2
 simp only[F3,DJ,c1,c2,aI,bK,cI,bB,bA,aU,gC,Nat.reduceLeDiff,Nat.reduceLT,Nat.reduceSub,VX,Nat.reduceEqDiff,Nat.reduceAdd]
 exact uL _
theorem nZ (a b:Rat) (Gp:aL a≤1099511627776) (Fm:aL b≤1099511627776):TC 132 [aG a,aG b] (aG (a*b)):=by
 refine TC.walk ⟨true,false⟩ Kx rfl (aM2 rfl) (by simp[aO,iM]) (tY _) ?_
 have ca:=dL a
 have cb:=dL b
 have c0:TC 64 [VI 0] (aG 0):=vY 0 (by decide) (by decide)
 by_cases ha0:a.num=0
 ·have:a=0:=aN5.1 ha0
  rw[kW ha0] at ca
  rw[show a*b=0 by rw[this,Rat.zero_mul]]
  simp only[wL,sY,ca,cb,c0,aI,bK,cI,bB,bA,aU,gC,Nat.reduceLeDiff,Nat.reduceLT,Nat.reduceSub,VX,Nat.reduceEqDiff,Nat.reduceAdd]
  exact uL _
 have hsa:¬jH a=0:=fun h=>ha0 (aN5.2 (Et.1 h))
 by_cases QB:b.num=0
 ·have:b=0:=aN5.1 QB
  rw[kW QB] at cb
  rw[show a*b=0 by rw[this,Rat.mul_zero]]
  simp only[wL,sY,ca,cb,hsa,c0,aI,bK,cI,bB,bA,aU,gC,Nat.reduceLeDiff,Nat.reduceLT,Nat.reduceSub,VX,Nat.reduceEqDiff,Nat.reduceAdd]
  exact uL _
 have hsb:¬jH b=0:=fun h=>QB (aN5.2 (Et.1 h))
 have la:=uW Gp
 have lb:=uW Fm
 have lda:=uZ Gp
 have ldb:=uZ Fm
 have l1:=uB false a.num.natAbs b.den b.den_nz (by omega) (by omega)
 have l2:=uB false b.num.natAbs a.den a.den_nz (by omega) (by omega)
 obtain⟨d1,d2⟩:=DV a.num.natAbs b.den_nz
 obtain⟨d3,d4⟩:=DV b.num.natAbs a.den_nz
 have b1:=lY (aNT (by omega) d1)
 have b2:=lY (aNT (Nat.pos_of_ne_zero b.den_nz) d2)
 have b3:=lY (aNT (by omega) d3)
 have b4:=lY (aNT (Nat.pos_of_ne_zero a.den_nz) d4)
 obtain⟨e1,e2⟩:=afB a b
 have e3:=T5 ha0 QB
 generalize mkRat (mF false a.num.natAbs) b.den=u at *
 generalize mkRat (mF false b.num.natAbs) a.den=v at *
 have m1:=jO u.num.natAbs v.num.natAbs (gI (by omega)) (gI (by omega))
 have m2:=jO u.den v.den (gI (by omega)) (gI (by omega))
 rw[D2 e3 e1 e2]
 simp only[wL,sY,ca,cb,hsa,hsb,l1,l2,m1,m2,yO,Aa,aI,bK,kX,kT,nJ,cI,bB,bA,aU,gC,Nat.reduceLeDiff,Nat.reduceLT,Nat.reduceSub,VX,Nat.reduceEqDiff,Nat.reduceAdd]
 exact zR
theorem alA {b:Rat} (h:b≠0):aG b⁻¹ = .agg [VB (decide (b.num<0)),bO b.den,bO b.num.natAbs]:=by
 have hn:b.num≠0:=fun hn=>h (aN5.1 hn)
 have hd:(0:Int)<b.den:=by have:=b.den_nz;omega
 refine D2 ?_ ?_ ?_
 ·rw[Rat.num_inv,decide_eq_true_eq]
  rcases aN0 hn with h1 | h1
  ·rw[aN6 h1];omega
  ·rw[aN7 h1];omega
 ·rw[Rat.num_inv,aNj,Int.natAbs_natCast]
  rcases aN0 hn with h1 | h1
  ·rw[aN6 h1];simp
  ·rw[aN7 h1];simp
 ·rw[Rat.den_inv,if_neg hn]
theorem EL (a b:Rat) (hb:b≠0) (Gp:aL a≤1099511627776) (Fm:aL b≤1099511627776):TC 129 [aG a,aG b] (aG (a / b)):=by
 refine TC.walk ⟨true,false⟩ Jg rfl (aM2 rfl) (by simp[aO,iM]) (tY _) ?_
 have c1:=nZ a b⁻¹ Gp (aLf (Sd b) Fm)
 rw[←Rat.div_def,alA hb] at c1
 simp only[EO,Cp,c1,aI,bK,kX,kT,nJ,cI,bB,bA,aU,gC,Nat.reduceLeDiff,Nat.reduceLT,Nat.reduceSub,VX,Nat.reduceEqDiff,Nat.reduceAdd]
 exact uL _
theorem ML (q:Rat) : -1≤jH q∧jH q≤1:=by
 rcases aN3 q.num 0 with h | h | h
 ·rw[pL h];omega
 ·rw[kW h];omega
 ·rw[pK h];omega
theorem XH (m n:Nat) : -1≤gA m n∧gA m n≤1:=by
 rcases Nat.lt_trichotomy m n with h | h | h
 ·rw[gA,if_pos h];omega
 ·subst h;rw[gA,if_neg (by omega),if_pos rfl];omega
 ·rw[gA,if_neg (by omega),if_neg (by omega)];omega
theorem O4 (a b:Rat) (Gp:aL a≤1099511627776) (Fm:aL b≤1099511627776):TC 148 [aG a,aG b] (VI (Qj a b)):=by
 refine TC.walk ⟨true,false⟩ KS rfl (aM2 rfl) (by simp[aO,iM]) rfl ?_
 have ca:=dL a
 have cb:=dL b
 have la:=uW Gp
 have lb:=uW Fm
 have lda:=uZ Gp
 have ldb:=uZ Fm
 have k1:=nW a.num.natAbs b.den
 have k2:=nW b.num.natAbs a.den
 have m1:=jO a.num.natAbs b.den (gI (by omega)) (gI (by omega))
 have m2:=jO b.num.natAbs a.den (gI (by omega)) (gI (by omega))
 have c1:=lI (a.num.natAbs*b.den) (b.num.natAbs*a.den) (gI (by omega)) (gI (by omega))
 have ra:=ML a
 have rb:=ML b
 have rc:=XH (a.num.natAbs*b.den) (b.num.natAbs*a.den)
 unfold Qj
 by_cases hs:jH a=jH b
 ·rw[if_pos hs]
  have w:IntKind.i64.wrap (0-gA (a.num.natAbs*b.den) (b.num.natAbs*a.den)) = -gA (a.num.natAbs*b.den) (b.num.natAbs*a.den):=by rw[wrap64 (by omega) (by omega)];omega
  by_cases hn:a.num<0
  ·rw[if_pos hn]
   simp only[wR,sO,ca,cb,hs,m1,m2,c1,hn,w,aI,bK,kX,kT,nJ,cI,bB,bA,aU,gC,Nat.reduceLeDiff,Nat.reduceLT,Nat.reduceSub,VX,Nat.reduceEqDiff,Nat.reduceAdd]
   exact aK rfl
  ·rw[if_neg hn]
   simp only[wR,sO,ca,cb,hs,m1,m2,c1,hn,aI,bK,kX,kT,nJ,cI,bB,bA,aU,gC,Nat.reduceLeDiff,Nat.reduceLT,Nat.reduceSub,VX,Nat.reduceEqDiff,Nat.reduceAdd]
   exact aK rfl
 ·rw[if_neg hs]
  have w:IntKind.i64.wrap (jH a-jH b)=jH a-jH b:=wrap64 (by omega) (by omega)
  simp only[wR,sO,ca,cb,hs,w,aI,bK,kX,kT,nJ,cI,bB,bA,aU,gC,Nat.reduceLeDiff,Nat.reduceLT,Nat.reduceSub,VX,Nat.reduceEqDiff,Nat.reduceAdd]
  exact aK rfl
theorem KY (a:Rat) (Gp:aL a≤1099511627776):TC 161 [aG a] (VB (decide (a=1))):=by
 refine TC.walk ⟨true,false⟩ Ix rfl (aM2 rfl) (by simp[aO,iM]) rfl ?_
 have c1:=O4 a 1 Gp (by rw[KZ];decide)
 have c2:TC 64 [VI 1] (aG 1):=vY 1 (by decide) (by decide)
 by_cases h:Qj a 1=0
 ·rw[decide_eq_true (QY.1 h)]
  simp only[yL,uU,c1,c2,h,aI,bK,cI,bB,bA,aU,gC,Nat.reduceLeDiff,Nat.reduceLT,Nat.reduceSub,VX,Nat.reduceEqDiff,Nat.reduceAdd]
  exact aK rfl
 ·rw[decide_eq_false (mt QY.2 h)]
  simp only[yL,uU,c1,c2,h,aI,bK,cI,bB,bA,aU,gC,Nat.reduceLeDiff,Nat.reduceLT,Nat.reduceSub,VX,Nat.reduceEqDiff,Nat.reduceAdd]
  exact aK rfl
end Go.PM
namespace Go.PM
open Go.Lib
theorem aqO {m n:Nat} (h:decDigits m=decDigits n):m=n:=by
 have key:∀k m n:Nat,m<10^(k+1)→decDigits m=decDigits n→m=n:=by
  intro k
  induction k with
  |
   zero =>
   intro m n hm h
   rw[jZ (by omega)] at h
   by_cases hn:n<10
   ·rw[jZ hn] at h
    have h1:=aN8.1 h
    unfold d10 at h1
    have:=congrArg UInt8.toNat h1
    simp at this
    omega
   ·rw[Cf hn] at h
    have:=congrArg aN9 h
    have h2:=aNM.2 (TO (n / 10))
    simp only[aLp,aLo,aMR] at this
    omega
  |
   succ k ih =>
   intro m n hm h
   by_cases h1:m<10
   ·rw[jZ h1] at h
    by_cases hn:n<10
    ·rw[jZ hn] at h
     have h1:=aN8.1 h
     unfold d10 at h1
     have:=congrArg UInt8.toNat h1
     simp at this
     omega
    ·rw[Cf hn] at h
     have:=congrArg aN9 h
     have h2:=aNM.2 (TO (n / 10))
     simp only[aLp,aLo,aMR] at this
     omega
   ·rw[Cf h1] at h
    by_cases hn:n<10
    ·rw[jZ hn] at h
     have:=congrArg aN9 h
     have h2:=aNM.2 (TO (m / 10))
     simp only[aLp,aLo,aMR] at this
     omega
    ·rw[Cf hn] at h
     obtain⟨h2,h3⟩:=List.append_inj' h rfl
     have h4:=ih (m / 10) (n / 10) (by rw[aMF] at hm;omega) h2
     have h5:=aN8.1 h3
     unfold d10 at h5
     have:=congrArg UInt8.toNat h5
     simp at this
     omega
 exact key m m n (Nat.lt_trans (Nat.lt_pow_self (by decide)) (Nat.pow_lt_pow_right (by decide) (Nat.lt_succ_self m))) h
def Ps (q:Rat):List UInt8:=(if q.num<0 then [45] else [])++decDigits q.num.natAbs++(if q.den=1 then [] else 47::decDigits q.den)
def ED (q:Rat):Bool:=decide ((decDigits q.num.natAbs).length≤200)&&decide ((decDigits q.den).length≤200)
theorem C1 (n:Nat):(decDigits n).length≤bl n+1:=by
 by_cases h:n=0
 ·subst h;rw[jZ (by decide)];simp
 ·have h1:=ahX h
  obtain⟨k,hk⟩:∃k,bl n=k+1:=⟨bl n-1,by omega⟩
  have h2:=Hq n
  rw[hk] at h2 ⊢
  have h3:2^(k+1)≤10^(k+1):=Nat.pow_le_pow_left (by decide) _
  have:=D3 n k (by omega)
  omega
end Go.PM
namespace Go.PM
open Go.Lib
theorem SJ (a b:List UInt8):dO .neq (.string ⟨a.toArray⟩) (.string ⟨b.toArray⟩)=some (.bool (!decide (a=b))):=by
 have h:∀l:List UInt8,(ByteArray.toList ⟨l.toArray⟩)=l:=fun l=>by rw[ByteArray.toList_eq]
 show some (Value.bool (!(ByteArray.toList ⟨a.toArray⟩ == ByteArray.toList ⟨b.toArray⟩)))=_
 rw[h,h]
 congr 3
 cases h2:a == b
 ·rw[decide_eq_false (by simpa using h2)]
 ·rw[decide_eq_true (by simpa using h2)]
theorem abM (a b:List UInt8):dO .eql (.string ⟨a.toArray⟩) (.string ⟨b.toArray⟩)=some (.bool (decide (a=b))):=by
 have h:∀l:List UInt8,(ByteArray.toList ⟨l.toArray⟩)=l:=fun l=>by rw[ByteArray.toList_eq]
 show some (Value.bool (ByteArray.toList ⟨a.toArray⟩ == ByteArray.toList ⟨b.toArray⟩))=_
 rw[h,h]
 congr 2
 cases h2:a == b
 ·rw[decide_eq_false (by simpa using h2)]
 ·rw[decide_eq_true (by simpa using h2)]
theorem ON {n:Nat}:(decDigits n=[49])↔n=1:=by
 have e:decDigits 1=[49]:=by rw[jZ (by decide)];rfl
 rw[←e]
 exact⟨aqO,fun h=>by rw[h]⟩
theorem MW (q:Rat) (hk:aL q≤1099511627776):TC 180 [aG q] (.eH [bE (Ps q),VB (ED q)]):=by
 refine TC.walk ⟨true,false⟩ I8 rfl (aM2 rfl) (by simp[aO,iM]) rfl ?_
 have la:=uW hk
 have lb:=uZ hk
 have t1:=EG q.num.natAbs (aBf (by omega))
 have t2:=EG q.den (aBf (by omega))
 have d1:=C1 q.num.natAbs
 have d2:=C1 q.den
 have a1:dO .add (.string ⟨#[45]⟩) (.string ⟨(decDigits q.num.natAbs).toArray⟩)=some (.string ⟨(45::decDigits q.num.natAbs).toArray⟩):=zC [45] _ (by simp only[aLo,aMR];omega)
 have a2:dO .add (.string ⟨#[47]⟩) (.string ⟨(decDigits q.den).toArray⟩)=some (.string ⟨(47::decDigits q.den).toArray⟩):=zC [47] (decDigits q.den) (by simp only[aLo,aMR];omega)
 have a3:=zC (45::decDigits q.num.natAbs) (47::decDigits q.den) (by simp only[aLo];omega)
 have a4:=zC (decDigits q.num.natAbs) (47::decDigits q.den) (by simp only[aLo];omega)
 have ne:dO .neq (.string ⟨(decDigits q.den).toArray⟩) (.string ⟨#[49]⟩)=_:=SJ (decDigits q.den) [49]
 have hf:ED q=(decide (((decDigits q.num.natAbs).length:Int)≤200)&&decide (((decDigits q.den).length:Int)≤200)):=by
  unfold ED
  congr 1<;>exact decide_eq_decide.2 (by omega)
 rw[hf]
 have hs:Ps q=(if q.num<0 then (45::decDigits q.num.natAbs) else decDigits q.num.natAbs)++(if q.den=1 then [] else 47::decDigits q.den):=by
  unfold Ps
  by_cases hn:q.num<0
  ·rw[if_pos hn,if_pos hn];rfl
  ·rw[if_neg hn,if_neg hn];rfl
 rw[hs]
 by_cases hd:q.den=1
 ·rw[decide_eq_true (ON.2 hd)] at ne
  rw[if_pos hd,List.append_nil]
  by_cases hn:q.num<0<;>by_cases hl:((decDigits q.num.natAbs).length:Int)≤200
  all_goals
   simp only[Aj,vV,t1,t2,a1,a2,a3,a4,ne,hn,hl,bQ,aI,bK,kX,kT,nJ,cI,bB,bA,aU,gC,Nat.reduceLeDiff,Nat.reduceLT,Nat.reduceSub,VX,Nat.reduceEqDiff,Nat.reduceAdd]
   exact aK rfl
 ·rw[decide_eq_false (mt ON.1 hd)] at ne
  rw[if_neg hd]
  by_cases hn:q.num<0<;>by_cases hl:((decDigits q.num.natAbs).length:Int)≤200
  all_goals
   simp only[Aj,vV,t1,t2,a1,a2,a3,a4,ne,hn,hl,bQ,aI,bK,kX,kT,nJ,cI,bB,bA,aU,gC,Nat.reduceLeDiff,Nat.reduceLT,Nat.reduceSub,VX,Nat.reduceEqDiff,Nat.reduceAdd]
   exact aK rfl
def Dq (q:Rat):VV:=if ED q=true then .eH [bE (Ps q),VB true] else .eH [bE [],VB false]
theorem Gh (q:Rat):gV (Dq q)=true:=by unfold Dq;split<;>rfl
theorem UZ (q:Rat) (hk:aL q≤1099511627776):TC 137 [aG q] (Dq q):=by
 refine TC.walk ⟨true,false⟩ Vx rfl (aM2 rfl) (by simp[aO,iM]) (Gh q) ?_
 have t1:=MW q hk
 unfold Dq
 by_cases h:ED q=true
 ·rw[h] at t1
  rw[if_pos h]
  simp only[LH,Fo,t1,aI,bK,cI,bB,bA,aU,gC,Nat.reduceLeDiff,Nat.reduceLT,Nat.reduceSub,VX,Nat.reduceEqDiff,Nat.reduceAdd]
  exact aK rfl
 ·have h':ED q=false:=by simpa using h
  rw[h'] at t1
  rw[if_neg h]
  simp only[LH,Fo,t1,aI,bK,cI,bB,bA,aU,gC,Nat.reduceLeDiff,Nat.reduceLT,Nat.reduceSub,VX,Nat.reduceEqDiff,Nat.reduceAdd]
  exact aK rfl
end Go.PM
namespace Go.PM
open Go.Lib
def jR (c:UInt8):Bool:=decide (48≤c.toNat)&&decide (c.toNat≤57)
def dv (c:UInt8):Nat:=c.toNat-48
def PJ (a:Nat) (l:List UInt8):Nat:=l.foldl (fun a c=>a*10+dv c) a
def bU (l:List UInt8):Nat:=PJ 0 l
theorem Zb (l:List UInt8):∀a,PJ a l=a*10^l.length+bU l:=by
 induction l with
 | nil=>intro a;simp[PJ,bU]
 |
  cons c l ih =>
  intro a
  have h1:PJ a (c::l)=PJ (a*10+dv c) l:=rfl
  have h2:bU (c::l)=PJ (0*10+dv c) l:=rfl
  rw[h1,h2,ih,ih (0*10+dv c),aLo,aMF]
  grind
theorem Oo (a b:List UInt8):bU (a++b)=bU a*10^b.length+bU b:=by
 have:bU (a++b)=PJ (bU a) b:=by unfold bU PJ;rw[List.foldl_append]
 rw[this,Zb]
theorem NW:bU []=0:=rfl
theorem aeY (a:List UInt8) (c:UInt8):bU (a++[c])=bU a*10+dv c:=by
 rw[Oo]
 simp[bU,PJ]
theorem auS {c:UInt8} (h:jR c=true):dv c<10:=by
 simp only[jR,aLM,decide_eq_true_eq] at h
 unfold dv
 omega
theorem JE:∀ {l:List UInt8},l.all jR=true→bU l<10^l.length:=by
 intro l
 induction l with
 | nil=>intro _;decide
 |
  cons c l ih =>
  intro h
  rw[aL6,aLM] at h
  have h1:=auS h.1
  have h2:=ih h.2
  have h3:bU (c::l)=PJ (0*10+dv c) l:=rfl
  rw[h3,Zb,aLo,aMF]
  have h4:(0*10+dv c)*10^l.length≤9*10^l.length:=Nat.mul_le_mul_right _ (by omega)
  omega
theorem awZ {M:Nat} (hM:1000000000000000000≤M):∀(l:List UInt8) (k acc:Nat),l.all jR=true→acc<10^k→k+l.length≤18→parseUintM M acc l = .ok (PJ acc l):=by
 intro l
 induction l with
 | nil=>intro k acc _ _ _;rfl
 |
  cons c l ih =>
  intro k acc h hk hl
  rw[aL6,aLM] at h
  have h1:=auS h.1
  have h0:=h.1
  simp only[jR,aLM,decide_eq_true_eq] at h0
  rw[aLo] at hl
  have h18:acc<10^17:=aLg hk (aNh (by decide) (by omega))
  have e17:(10:Nat)^17=100000000000000000:=by decide
  rw[e17] at h18
  have hd:c.toNat-48=dv c:=rfl
  rw[parseUintM,if_pos h0,if_neg (by omega),hd,if_neg (by omega),ih (k+1) _ h.2 (by rw[aMF];omega) (by omega)]
  rfl
theorem axU {l:List UInt8} (h:l.all jR=true) (h0:l≠[]) (hl:l.length≤18):parseUintB 64 l = .ok (bU l):=by
 unfold parseUintB
 rw[if_neg h0]
 exact awZ (by decide) l 0 0 h (by decide) (by omega)
def jE (l:List UInt8):Bool:=l.all jR&&decide (1≤l.length)&&decide (l.length≤200)&&(decide (l.length=1) || !decide (l.getD 0 0=48))
theorem lC {l:List UInt8}:jE l=true↔l.all jR=true∧1≤l.length∧l.length≤200∧(l.length=1∨l.getD 0 0≠48):=by
 unfold jE
 simp only[aLM,Bool.or_eq_true,Bool.not_eq_true',decide_eq_true_eq,decide_eq_false_iff_not,ne_eq,and_assoc]
theorem AZ {l:List UInt8} (h:jE l=true):bl (bU l)≤665:=by
 obtain⟨h1,h2,h3,_⟩:=lC.1 h
 refine Dm (aLg (JE h1) ?_)
 exact aLf (aNh (by decide) h3) (by decide +kernel)
def oF (c:UInt8):List UInt8→List UInt8×Option (List UInt8)
 | []=>([],none)
 | x::r=>if x=c then ([],some r) else (x::(oF c r).1,(oF c r).2)
theorem Dc {c:UInt8}:∀ {l:List UInt8},(oF c l).2=none→indexByte l c = -1∧(oF c l).1=l∧c∉l:=by
 intro l
 induction l with
 | nil=>intro _;exact⟨rfl,rfl,by simp⟩
 |
  cons x l ih =>
  intro h
  unfold oF at h ⊢
  by_cases hx:x=c
  ·rw[if_pos hx] at h
   cases h
  ·rw[if_neg hx] at h ⊢
   obtain⟨h1,h2,h3⟩:=ih h
   refine⟨?_,by rw[h2],?_⟩
   ·rw[indexByte,if_neg (by simpa using hx),h1]
    rfl
   ·rw[aMs,not_or]
    exact⟨fun h=>hx h.symm,h3⟩
theorem K6 {c:UInt8}:∀ {l r:List UInt8},(oF c l).2=some r→indexByte l c=((oF c l).1.length:Int)∧l=(oF c l).1++c::r∧c∉(oF c l).1:=by
 intro l
 induction l with
 | nil=>intro r h;cases h
 |
  cons x l ih =>
  intro r h
  unfold oF at h ⊢
  by_cases hx:x=c
  ·rw[if_pos hx] at h ⊢
   cases h
   subst hx
   refine⟨?_,rfl,by simp⟩
   rw[indexByte,if_pos (by simp)]
   rfl
  ·rw[if_neg hx] at h ⊢
   obtain⟨h1,h2,h3⟩:=ih h
   refine⟨?_,?_,?_⟩
   ·rw[indexByte,if_neg (by simpa using hx),h1,if_neg]
    ·simp
    ·simp
   ·conv=>lhs;rw[h2]
    rfl
   ·rw[aMs,not_or]
    exact⟨fun h=>hx h.symm,h3⟩
def sF (neg:Bool) (d:List UInt8) (s:Option (List UInt8)):Option Rat :=
 if jE d=false∨(neg=true∧bU d=0) then none else
 match s with
 | none=>some (mkRat (mF neg (bU d)) 1)
 | some t=>if jE t=true∧1<bU t∧aNN (bU d) (bU t)=1 then some (mkRat (mF neg (bU d)) (bU t)) else none
def isNeg (l:List UInt8):Bool:=decide (1≤l.length)&&decide (l.getD 0 0=45)
def Bo (l:List UInt8):Option Rat:=sF (isNeg l) ((oF 47 (if isNeg l then l.drop 1 else l)).1) ((oF 47 (if isNeg l then l.drop 1 else l)).2)
theorem Xr {neg:Bool} {d:List UInt8} {s:Option (List UInt8)} {q:Rat} (h:sF neg d s=some q):jE d=true∧¬(neg=true∧bU d=0)∧((s=none∧q=mkRat (mF neg (bU d)) 1)∨∃t,s=some t∧jE t=true∧1<bU t∧aNN (bU d) (bU t)=1∧q=mkRat (mF neg (bU d)) (bU t)):=by
 unfold sF at h
 split at h
 ·cases h
 ·rename_i hc
  rw[not_or] at hc
  refine⟨by simpa using hc.1,hc.2,?_⟩
  split at h
  ·exact .inl ⟨rfl,(Option.some.inj h).symm⟩
  ·rename_i t
   split at h
   ·rename_i ht
    exact .inr ⟨t,rfl,ht.1,ht.2.1,ht.2.2,(Option.some.inj h).symm⟩
   ·cases h
theorem UL {neg:Bool} {d:List UInt8} {s:Option (List UInt8)} {q:Rat} (h:sF neg d s=some q):aL q≤665:=by
 obtain⟨h1,_,h3⟩:=Xr h
 have hb:=AZ h1
 rcases h3 with⟨_,rfl⟩ | ⟨t,_,h4,h5,_,rfl⟩
 ·exact DH (by rw[qX];exact hb) (Dm (by decide +kernel)) (by decide)
 ·exact DH (by rw[qX];exact hb) (AZ h4) (by omega)
theorem XC {l:List UInt8} {q:Rat} (h:Bo l=some q):aL q≤665:=UL h
theorem My {neg:Bool} {t b:Nat} (hb:b≠0) (hg:aNN t b=1):(mkRat (mF neg t) b).num=mF neg t∧(mkRat (mF neg t) b).den=b:=by
 rw[HY hb,SV hb,hg,aNZ,aNZ]
 exact⟨rfl,rfl⟩
theorem IG {c:UInt8} {l:List UInt8}:isNeg (c::l)=decide (c=45):=by simp[isNeg]
theorem alJ {l:List UInt8} (h:l.all jR=true):(47:UInt8)∉l:=by
 intro hm
 have:=List.all_eq_true.1 h _ hm
 exact absurd this (by decide)
end Go.PM
namespace Go.PM
open Go.Lib
theorem FM (l:List UInt8) {i:Nat} (h:i<l.length):I3 (.string ⟨l.toArray⟩) (.int .i64 (i:Int))=some (.int .u8 ((l.getD i 0).toNat:Int)):=by
 have hs:(⟨l.toArray⟩:ByteArray).size=l.length:=by simp[ByteArray.size]
 have e1:(0:Int)≤i∧(i:Int)<(l.length:Int):=by omega
 simp only[I3,hs,e1,and_self,if_true,aMA]
theorem KN (l:List UInt8) (h:0<l.length):I3 (.string ⟨l.toArray⟩) (.int .i64 0)=some (.int .u8 ((l.getD 0 0).toNat:Int)):=FM l h
theorem JZ (l:List UInt8) (a b:Nat):(⟨l.toArray⟩:ByteArray).extract a b=⟨((l.drop a).take (b-a)).toArray⟩:=by
 rw[ByteArray.ext_iff,ByteArray.data_extract]
 simp[List.extract_toArray,List.extract_eq_take_drop]
theorem IT (l:List UInt8) {a:Nat} (h:a≤l.length):zW (bE l) (some (VI (a:Int))) none=some (bE (l.drop a)):=by
 have hs:(⟨l.toArray⟩:ByteArray).size=l.length:=by simp[ByteArray.size]
 have e2:(0:Int)≤a∧(a:Int)≤(l.length:Int):=by omega
 simp only[zW,IC,Cl,hs,fM,e2,and_self,if_true,aMA,JZ]
 rw[aL7 (by simp)]
theorem OK (l:List UInt8) {b:Nat} (hb:b≤l.length):zW (bE l) none (some (VI (b:Int)))=some (bE (l.take b)):=by
 have hs:(⟨l.toArray⟩:ByteArray).size=l.length:=by simp[ByteArray.size]
 have e1:(0:Int)≤b∧(b:Int)≤(l.length:Int):=by omega
 simp only[zW,IC,Cl,hs,fM,e1,and_self,if_true,aMA,JZ]
 rw[List.drop_zero,Nat.sub_zero]
theorem Wi (l:List UInt8):dO .eql (.string ⟨l.toArray⟩) (.string ⟨#[]⟩)=some (.bool (decide (l=[]))):=abM l []
theorem Mk (l:List UInt8):dO .neq (.string ⟨l.toArray⟩) (.string ⟨#[]⟩)=some (.bool (!decide (l=[]))):=SJ l []
theorem Vp (l:List UInt8):TC 210 [bE l,bE [45]] (VB (isNeg l)):=by
 refine TC.walk ⟨true,false⟩ wD rfl (aM2 rfl) rfl rfl ?_
 have e1:Dw (.string ⟨#[45]⟩)=some (.int .i64 1):=rfl
 by_cases h:(1:Int)≤(l.length:Int)
 ·have e2:=OK l (b:=1) (by omega)
  have e2:zW (bE l) none (some (VI 1))=some (bE (l.take 1)):=e2
  have e3:dO .eql (.string ⟨(l.take 1).toArray⟩) (.string ⟨#[45]⟩)=some (.bool (decide (l.take 1=[45]))):=abM (l.take 1) [45]
  have e4:isNeg l=decide (l.take 1=[45]):=by
   cases l with
   | nil=>exact absurd h (by decide)
   | cons c l=>rw[IG];simp
  rw[e4]
  simp only[jA,iF,bQ,e1,ge_iff_le,h,e2,e3,VX,Nat.reduceEqDiff,Nat.reduceAdd]
  exact aK rfl
 ·have e4:isNeg l=false:=by unfold isNeg;rw[decide_eq_false (by omega)];rfl
  rw[e4]
  simp only[jA,iF,bQ,e1,ge_iff_le,h,VX,Nat.reduceEqDiff,Nat.reduceAdd]
  exact aK rfl
theorem Su (l:List UInt8):TC 191 [bE l,bE [45]] (.eH [bE (if isNeg l then l.drop 1 else l),VB (isNeg l)]):=by
 refine TC.walk ⟨true,false⟩ xA rfl (aM2 rfl) rfl rfl ?_
 have e0:=Vp l
 have e1:Dw (.string ⟨#[45]⟩)=some (.int .i64 1):=rfl
 cases h:isNeg l with
 |
  true =>
  rw[h] at e0
  have hl:1≤l.length:=by
   cases l with
   | nil=>cases h
   | cons c l=>simp
  have e2:zW (bE l) (some (VI 1)) none=some (bE (l.drop 1)):=IT l (a:=1) hl
  simp only[jD,iI,e0,e1,e2,VX,Nat.reduceEqDiff,Nat.reduceAdd]
  exact aK rfl
 |
  false =>
  rw[h] at e0
  simp only[jD,iI,e0,aLQ,if_false,VX,Nat.reduceEqDiff,Nat.reduceAdd]
  exact aK rfl
theorem W5 (l:List UInt8):TC 173 [bE l,bE [45]] (.eH [bE (if isNeg l then l.drop 1 else l),VB (isNeg l)]):=by
 refine TC.walk ⟨true,false⟩ Hi rfl (aM2 rfl) rfl rfl ?_
 have e0:=Su l
 simp only[B4,Ap,e0,VX,Nat.reduceEqDiff,Nat.reduceAdd]
 exact aK rfl
theorem axW (l:List UInt8) (hl:l.length≤1000000000000):TC 190 [bE l,bE [47]] (.eH [bE (oF 47 l).1,bE ((oF 47 l).2.getD []),VB (oF 47 l).2.isSome]):=by
 refine TC.walk ⟨true,false⟩ Bg rfl (aM2 rfl) rfl rfl ?_
 have e0:=atY l 47
 have e1:Dw (.string ⟨#[47]⟩)=some (.int .i64 1):=rfl
 cases h:(oF 47 l).2 with
 |
  none =>
  obtain⟨h1,h2,_⟩:=Dc h
  rw[h1] at e0
  rw[h2]
  simp only[nD,lL,e0,ge_iff_le,Int.reduceNeg,Int.reduceLE,VX,Nat.reduceEqDiff,Nat.reduceAdd]
  exact aK rfl
 |
  some r =>
  obtain⟨h1,h2,_⟩:=K6 h
  rw[h1] at e0
  generalize (oF 47 l).1=a at *
  subst h2
  rw[aLp,aLo] at hl
  have h0:(0:Int)≤(a.length:Int):=by omega
  have e2:=OK (a++47::r) (b:=a.length) (by simp)
  have e3:=IT (a++47::r) (a:=a.length+1) (by simp)
  rw[List.take_left] at e2
  have ed:(a++47::r).drop (a.length+1)=r:=by rw[List.drop_append];simp
  rw[ed] at e3
  have w:IntKind.i64.wrap ((a.length:Int)+1)=((a.length+1:Nat):Int):=wrapN _ (by omega) (by omega)
  simp only[nD,lL,e0,e1,ge_iff_le,h0,w,e2,e3,VX,Nat.reduceEqDiff,Nat.reduceAdd]
  exact aK rfl
theorem aBI (l:List UInt8) (hl:l.length≤1000000000000):TC 172 [bE l,bE [47]] (.eH [bE (oF 47 l).1,bE ((oF 47 l).2.getD []),VB (oF 47 l).2.isSome]):=by
 refine TC.walk ⟨true,false⟩ QF rfl (aM2 rfl) rfl rfl ?_
 have e0:=axW l hl
 simp only[MT,Hx,e0,VX,Nat.reduceEqDiff,Nat.reduceAdd]
 exact aK rfl
def DE (l:List UInt8):VV:=if jE l=true then .eH [bO (bU l),VB true] else .eH [bO 0,VB false]
theorem adW (l:List UInt8):gV (DE l)=true:=by
 unfold DE
 split<;>simp[gV,rE,tZ,qM]
theorem ayO {d:Nat}:fz (d+1) [.row 0 [] 1 true] (.ref 0 0 0 0 0)=some (bO 0):=by
 rw[Gj]
 cases d with
 | zero=>rfl
 | succ d=>rfl
theorem PW {n:Nat} (hn:n≤9) {lo:Nat} {H:aA} {ρ:cV} {Q:VQ} (h58:ρ 58=VI n) (h59:ρ 59=VI 0) (h9:ρ 9=VK .u64 1) (hQ:∀aP,(∀t,t<9→aP t=ρ t)→aP 9=VK .u64 ((10^n:Nat):Int)→Q .normal aP H):VW ⟨true,false⟩ lo (.loop uN) (tL 4 Q) ρ H:=by
 refine aN (fun(i:Nat) aP H'=>i≤n∧H'=H∧(∀t,t<9→aP t=ρ t)∧aP 58=VI n∧aP 59=VI i∧aP 9=VK .u64 ((10^i:Nat):Int)) (fun i=>n-i) 0 ⟨aLI _,rfl,fun _ _=>rfl,h58,h59,h9⟩ ?_
 rintro i aP H' ⟨hi,rfl,hk,g58,g59,g9⟩
 by_cases bX:(i:Int)<(n:Int)
 ·have wi:IntKind.i64.wrap ((i:Int)+1)=((i+1:Nat):Int):=wrapN (i+1) (by omega) (by omega)
  have hp:10^i≤10^8:=aNh (by decide) (by omega)
  have e8:(10:Nat)^8=100000000:=by decide
  have wp:IntKind.u64.wrap (((10^i:Nat):Int)*10)=((10^(i+1):Nat):Int):=by
   rw[aMF]
   generalize 10^i=p at *
   have:=eV (p*10) (by omega)
   rw[Int.natCast_mul] at this
   rw[Int.natCast_mul]
   exact this
  simp only[uN,g58,g59,g9,bX,wi,wp,VX,Nat.reduceEqDiff,Nat.reduceAdd]
  refine⟨i+1,by omega,by omega,fun t ht => ?_,rfl,rfl⟩
  try simp only[zT]
  repeat rw[if_neg (by omega)]
  exact hk t ht
 ·have mZ:i=n:=by omega
  subst mZ
  simp only[uN,g58,g59,bX,VX,Nat.reduceEqDiff,Nat.reduceAdd]
  refine hQ _ (fun t ht => ?_) ?_
  ·try simp only[zT]
   repeat rw[if_neg (by omega)]
   exact hk t ht
  ·simp only[g9,VX,Nat.reduceEqDiff,Nat.reduceAdd]
theorem ahF {l:List UInt8} {i:Nat} (h:i<l.length):(l.take (i+1)).all jR=((l.take i).all jR&&jR (l.getD i 0)):=by
 rw[List.take_add_one,aOa]
 have:l[i]? = some (l.getD i 0):=by rw[aLl h,List.getD_eq_getElem?_getD,aLl h];rfl
 rw[this]
 simp
theorem PU {l:List UInt8} (hl:l.length≤1000000000000) {lo:Nat} {H:aA} {ρ:cV} {Q:VQ} (h0:ρ 0=bE l) (h29:ρ 29=VI l.length) (h30:ρ 30=VI 0)
  (hR:l.all jR=false→∀aP:cV,aP 2 = .tree [] .nil→aP 3=VB false→Q .ret aP H) (hN:l.all jR=true→∀aP:cV,(∀t,t<5→aP t=ρ t)→Q .normal aP H):VW ⟨true,false⟩ lo (.loop mK) (tL 0 Q) ρ H:=by
 refine aN (fun(i:Nat) aP H'=>i≤l.length∧H'=H∧(l.take i).all jR=true∧(∀t,t<5→aP t=ρ t)∧aP 29=VI l.length∧aP 30=VI i) (fun i=>l.length-i) 0 ⟨aLI _,rfl,rfl,fun _ _=>rfl,h29,h30⟩ ?_
 rintro i aP H' ⟨hi,rfl,hd,hk,g29,g30⟩
 have g0:=(hk 0 (by decide)).trans h0
 by_cases bX:(i:Int)<(l.length:Int)
 ·have XB:i<l.length:=by omega
  have e1:=FM l XB
  have wi:IntKind.i64.wrap ((i:Int)+1)=((i+1:Nat):Int):=wrapN (i+1) (by omega) (by omega)
  have ht:=ahF XB
  rw[hd,Bool.true_and] at ht
  have Yn:jR (l.getD i 0)=(decide (48≤(l.getD i 0).toNat)&&decide ((l.getD i 0).toNat≤57)):=rfl
  have kV:jR (l.getD i 0)=false→l.all jR=false:=by
   intro h
   rw[h] at ht
   rw[←aMn (i+1) l,aOa,ht,Bool.false_and]
  generalize (l.getD i 0).toNat=c at *
  by_cases q1:(c:Int)<48
  ·have:=kV (by rw[Yn,decide_eq_false (by omega)];rfl)
   simp only[mK,g0,g29,g30,bX,e1,q1,VX,Nat.reduceEqDiff,Nat.reduceAdd]
   exact hR this _ (by simp only[VX,Nat.reduceEqDiff,Nat.reduceAdd]) (by simp only[VX,Nat.reduceEqDiff,Nat.reduceAdd])
  ·by_cases q2:(57:Int)<(c:Int)
   ·have:=kV (by rw[Yn,decide_eq_false (show ¬c≤57 by omega),Bool.and_false])
    simp only[mK,g0,g29,g30,bX,e1,q1,q2,VX,Nat.reduceEqDiff,Nat.reduceAdd]
    exact hR this _ (by simp only[VX,Nat.reduceEqDiff,Nat.reduceAdd]) (by simp only[VX,Nat.reduceEqDiff,Nat.reduceAdd])
   ·rw[Yn,decide_eq_true (by omega),decide_eq_true (by omega),aMC] at ht
    simp only[mK,g0,g29,g30,bX,e1,q1,q2,wi,VX,Nat.reduceEqDiff,Nat.reduceAdd]
    refine⟨i+1,by omega,by omega,ht,fun t ht => ?_,rfl⟩
    try simp only[zT]
    repeat rw[if_neg (by omega)]
    exact hk t ht
 ·have mZ:i=l.length:=by omega
  subst mZ
  rw[List.take_length] at hd
  simp only[mK,g29,g30,bX,VX,Nat.reduceEqDiff,Nat.reduceAdd]
  refine hN hd _ fun t ht => ?_
  try simp only[zT]
  repeat rw[if_neg (by omega)]
  exact hk t ht
set_option maxHeartbeats 2000000 in
theorem PE {l:List UInt8} (hd:l.all jR=true) (hl:l.length≤200) (fN:l≠[]) {ρ:cV} {Q:VQ} (h0:ρ 0=bE l) (h4:ρ 4 = .ref 0 0 0 0 0)
  (hQ:∀(aP:cV),aP 4=bO (bU l)→Q .normal aP [.row 0 [] 1 false]):VW ⟨true,false⟩ 0 (.loop qA) (tL 2 Q) ρ [.row 0 [] 1 true]:=by
 refine aN (fun(s:List UInt8×List UInt8) aP H'=>l=s.1++s.2∧aP 0=bE s.2∧((H'=[.row 0 [] 1 true]∧aP 4 = .ref 0 0 0 0 0∧s.1=[])∨(H'=[.row 0 [] 1 false]∧aP 4=bO (bU s.1)))) (fun s=>s.2.length) ([],l) ⟨rfl,h0,.inl ⟨rfl,h4,rfl⟩⟩ ?_
 rintro⟨pre,rest⟩ aP H' ⟨US,g0,hv⟩
 simp only at US g0 hv
 have e1:=Mk rest
 by_cases he:rest=[]
 ·subst he
  rw[List.append_nil] at US
  subst US
  rcases hv with⟨_,_,h⟩ | ⟨rfl,g4⟩
  ·exact absurd h fN
  have Rj:dO .neq (.string ⟨#[]⟩) (.string ⟨#[]⟩)=some (.bool false):=by
   have:=Mk []
   rw[decide_eq_true rfl] at this
   exact this
  simp only[qA,g0,Rj,VX,Nat.reduceEqDiff,Nat.reduceAdd]
  exact hQ _ (by simp only[g4,VX,Nat.reduceEqDiff,Nat.reduceAdd])
 ·rw[US,aOa,aLM] at hd
  obtain⟨hd1,hd2⟩:=hd
  rw[US,aLp] at hl
  have lQ:0<rest.length:=aNM.2 he
  have Rj:dO .neq (.string ⟨rest.toArray⟩) (.string ⟨#[]⟩)=some (.bool true):=by rw[e1,decide_eq_false he];rfl
  have wm:(rest.length:Int).tmod 9=((rest.length % 9:Nat):Int):=by rw[Int.tmod_eq_emod_of_nonneg (by omega)];simp
  have er:dO .rem (.int .i64 (rest.length:Int)) (.int .i64 9)=some (.int .i64 ((rest.length % 9:Nat):Int)):=by
   rw[←wm]
   rfl
  obtain⟨n,hn⟩:∃n,n=if rest.length % 9=0 then 9 else rest.length % 9:=⟨_,rfl⟩
  have hn1:1≤n∧n≤9∧n≤rest.length:=by
   rw[hn]
   split<;>omega
  obtain⟨n1,n9,nl⟩:=hn1
  have e2:=OK rest nl
  have e3:=IT rest nl
  have hch:(rest.take n).length=n:=by rw[List.length_take];omega
  have hcd:(rest.take n).all jR=true:=by
   rw[←aMn n rest,aOa,aLM] at hd2
   exact hd2.1
  have hp:=aqJ (rest.take n) (bU (rest.take n)) (by omega) (axU hcd (fun h=>by rw[h] at hch;simp at hch;omega) (by omega))
  have HG:=JE hcd
  rw[hch] at HG
  have hp9:10^n≤10^9:=aNh (by decide) n9
  have e9:(10:Nat)^9=1000000000:=by decide
  have aIA:bU (rest.take n)<1000000000:=by omega
  have c1:=pJ (10^n) (by omega)
  have c2:=pJ (bU (rest.take n)) (by omega)
  have hbp:bl (bU pre)≤665:=by
   refine Dm (aLg (JE hd1) ?_)
   exact aLf (aNh (by decide) (by omega:pre.length≤200)) (by decide +kernel)
  have hb9:bl (10^n)≤64:=Dm (by omega)
  have hbm:=nW (bU pre) (10^n)
  have hbc:bl (bU (rest.take n))≤64:=Dm (by omega)
  have tm:=jO (bU pre) (10^n) (gI (by omega)) (gI (by omega))
  have c4:=FE (bU pre*10^n) (bU (rest.take n)) (gI (by omega)) (gI (by omega))
  have qB:bU pre*10^n+bU (rest.take n)=bU (pre++rest.take n):=by rw[Oo,hch]
  rw[qB] at c4
  have fin:(rest.drop n).length<rest.length∧pre++rest=(pre++rest.take n)++rest.drop n:=⟨by rw[List.length_drop];omega,by rw[aM0,aMn]⟩
  obtain⟨v4,g4,c3⟩:∃v4,aP 4=v4∧∀lo K,dP 143 [v4,bO (10^n)] lo H' K=K (bO (bU pre*10^n)) [.row 0 [] 1 false]:=by
   rcases hv with⟨rfl,g4,hp0⟩ | ⟨rfl,g4⟩
   ·refine⟨_,g4,fun lo K => ?_⟩
    subst hp0
    have:=tm.DM (H:=[.row 0 [] 1 true]) (args:=[.ref 0 0 0 0 0,bO (10^n)]) (lo:=lo) (k:=K) rfl (by simp[aO,bT]) (fz2 ayO (aM (bT _))) rfl
    rw[this,show Jb (bO (bU []*10^n))=false from rfl,if_neg (by decide),List.flatMap_cons,List.flatMap_cons,List.flatMap_nil,Eh (bT _),Kw (n:=0) (c:=0) (es:=[]) (e:=1) (w:=true) aQ rfl rfl]
    rfl
   ·exact⟨_,g4,fun lo K=>tm lo [.row 0 [] 1 false] K⟩
  clear hv
  obtain⟨P,hP⟩:∃P,P=10^n:=⟨_,rfl⟩
  rw[←hP] at c1 c4 c3
  have hnI:(rest.length % 9:Nat)=0∨¬(rest.length % 9:Nat)=0:=by omega
  rcases hnI with h9 | h9
  ·rw[if_pos h9] at hn
   subst hn
   have q:((rest.length % 9:Nat):Int)=0:=by omega
   have e2':zW (bE rest) none (some (VI 9))=some (bE (rest.take 9)):=e2
   have e3':zW (bE rest) (some (VI 9)) none=some (bE (rest.drop 9)):=e3
   simp only[qA,g0,g4,Rj,bQ,er,q,e2',hp,VX,Nat.reduceEqDiff,Nat.reduceAdd]
   refine PW (n:=9) (by decide) ?_ ?_ ?_ fun AN k1 q9 => ?_
   ·simp only[VX,Nat.reduceEqDiff,Nat.reduceAdd];rfl
   ·simp only[VX,Nat.reduceEqDiff,Nat.reduceAdd]
   ·simp only[VX,Nat.reduceEqDiff,Nat.reduceAdd]
   rw[←hP] at q9
   have u0:AN 0=bE rest:=by rw[k1 0 (by decide)];simp only[g0,VX,Nat.reduceEqDiff,Nat.reduceAdd]
   have u4:AN 4=v4:=by rw[k1 4 (by decide)];simp only[g4,VX,Nat.reduceEqDiff,Nat.reduceAdd]
   have u6:AN 6=VI 9:=by rw[k1 6 (by decide)];simp only[VX,Nat.reduceEqDiff,Nat.reduceAdd]
   have u7:AN 7=VK .u64 (bU (rest.take 9)):=by rw[k1 7 (by decide)];simp only[VX,Nat.reduceEqDiff,Nat.reduceAdd]
   simp only[u0,u4,u6,u7,q9,c1,c2,c3,c4,e3',VX,Nat.reduceEqDiff,Nat.reduceAdd]
   exact⟨(pre++rest.take 9,rest.drop 9),fin.1,US.trans fin.2,rfl,.inr rfl⟩
  ·rw[if_neg h9] at hn
   rw[←hn] at er
   have q:¬(n:Int)=0:=by omega
   simp only[qA,g0,g4,Rj,bQ,er,q,e2,hp,VX,Nat.reduceEqDiff,Nat.reduceAdd]
   refine PW (n:=n) n9 ?_ ?_ ?_ fun AN k1 q9 => ?_
   ·simp only[VX,Nat.reduceEqDiff,Nat.reduceAdd]
   ·simp only[VX,Nat.reduceEqDiff,Nat.reduceAdd]
   ·simp only[VX,Nat.reduceEqDiff,Nat.reduceAdd]
   rw[←hP] at q9
   have u0:AN 0=bE rest:=by rw[k1 0 (by decide)];simp only[g0,VX,Nat.reduceEqDiff,Nat.reduceAdd]
   have u4:AN 4=v4:=by rw[k1 4 (by decide)];simp only[g4,VX,Nat.reduceEqDiff,Nat.reduceAdd]
   have u6:AN 6=VI n:=by rw[k1 6 (by decide)];simp only[VX,Nat.reduceEqDiff,Nat.reduceAdd]
   have u7:AN 7=VK .u64 (bU (rest.take n)):=by rw[k1 7 (by decide)];simp only[VX,Nat.reduceEqDiff,Nat.reduceAdd]
   simp only[u0,u4,u6,u7,q9,c1,c2,c3,c4,e3,VX,Nat.reduceEqDiff,Nat.reduceAdd]
   exact⟨(pre++rest.take n,rest.drop n),fin.1,US.trans fin.2,rfl,.inr rfl⟩
set_option maxHeartbeats 2000000 in
theorem F4 (l:List UInt8) (hl:l.length≤1000000000000):TC 174 [bE l] (DE l):=by
 refine TC.walk ⟨true,false⟩ OS rfl (aM2 rfl) rfl (adW l) ?_
 have e1:=Wi l
 by_cases he:l=[]
 ·have hk:jE l=false:=by rw[he];rfl
  have Rj:dO .eql (.string ⟨l.toArray⟩) (.string ⟨#[]⟩)=some (.bool true):=by rw[e1,decide_eq_true he]
  unfold DE
  rw[hk]
  simp only[sJ,nL,Rj,aLQ,if_false,VX,Nat.reduceEqDiff,Nat.reduceAdd]
  exact bN (d:=6) AB (aM (v:=VB false) rfl)
 have lQ:0<l.length:=aNM.2 he
 by_cases arT:(200:Int)<(l.length:Int)
 ·have hk:jE l=false:=by
   cases h:jE l with
   | false=>rfl
   | true=>have:=(lC.1 h).2.2.1;omega
  unfold DE
  rw[hk]
  simp only[sJ,nL,e1,he,decide_false,bQ,arT,aLQ,if_false,VX,Nat.reduceEqDiff,Nat.reduceAdd]
  exact bN (d:=6) AB (aM (v:=VB false) rfl)
 have e2:=KN l lQ
 by_cases hz:(((l.getD 0 0).toNat:Int)=48∧1<(l.length:Int))
 ·obtain⟨K0,Nt⟩:=hz
  have hk:jE l=false:=by
   cases h:jE l with
   | false=>rfl
   |
    true =>
    rcases(lC.1 h).2.2.2 with h1 | h1
    ·omega
    ·exact absurd (UInt8.toNat_inj.1 (by rw[show (48:UInt8).toNat=48 from rfl];omega)) h1
  unfold DE
  rw[hk]
  simp only[sJ,nL,e1,he,decide_false,bQ,arT,e2,K0,Nt,aLQ,if_false,VX,Nat.reduceEqDiff,Nat.reduceAdd]
  exact bN (d:=6) AB (aM (v:=VB false) rfl)
 have aCk:l.length=1∨l.getD 0 0≠48:=by
  by_cases h1:l.length=1
  ·exact .inl h1
  ·right
   intro h2
   apply hz
   rw[h2]
   exact⟨rfl,by omega⟩
 have e3:∀lr,nT lr [.int .u32 0] 0 [] []=some (.ref 0 0 0 0 0,[.row 0 [] 1 true]):=fun lr=>mQ (H:=[]) (lr:=lr) (z:=[.int .u32 0]) rfl
 have kN:l.all jR=true→jE l=true:=fun h=>lC.2 ⟨h,lQ,by omega,aCk⟩
 have kF:l.all jR=false→jE l=false:=fun h=>by unfold jE;rw[h];rfl
 have rF:jE l=false→DE l = .eH [bO 0,VB false]:=fun h=>by unfold DE;rw[h];rfl
 have rT:jE l=true→DE l = .eH [bO (bU l),VB true]:=fun h=>if_pos h
 by_cases hA:(((l.getD 0 0).toNat:Int)=48)
 ·have hB:¬1<(l.length:Int):=fun h=>hz ⟨hA,h⟩
  simp only[sJ,nL,e1,e3,he,decide_false,bQ,arT,e2,hA,hB,aLQ,if_false,VX,Nat.reduceEqDiff,Nat.reduceAdd]
  refine PU hl ?_ ?_ ?_ (fun hd AN g2 g3 => ?_) fun hd AN k1 => ?_
  ·simp only[VX,Nat.reduceEqDiff,Nat.reduceAdd]
  ·simp only[VX,Nat.reduceEqDiff,Nat.reduceAdd]
  ·simp only[VX,Nat.reduceEqDiff,Nat.reduceAdd]
  ·rw[rF (kF hd)]
   simp only[g2,g3,VX,Nat.reduceEqDiff,Nat.reduceAdd]
   exact bN (d:=6) AB (aM (v:=VB false) rfl)
  ·rw[rT (kN hd)]
   simp only[VX,Nat.reduceEqDiff,Nat.reduceAdd]
   refine PE hd (by omega) he ?_ ?_ fun tU g4 => ?_
   ·rw[k1 0 (by decide)];simp only[VX,Nat.reduceEqDiff,Nat.reduceAdd]
   ·rw[k1 4 (by decide)];simp only[VX,Nat.reduceEqDiff,Nat.reduceAdd]
   ·simp only[g4,VX,Nat.reduceEqDiff,Nat.reduceAdd]
    exact bN (d:=6) (aM (bT _)) (aM (v:=VB true) rfl)
 ·simp only[sJ,nL,e1,e3,he,decide_false,bQ,arT,e2,hA,aLQ,if_false,VX,Nat.reduceEqDiff,Nat.reduceAdd]
  refine PU hl ?_ ?_ ?_ (fun hd AN g2 g3 => ?_) fun hd AN k1 => ?_
  ·simp only[VX,Nat.reduceEqDiff,Nat.reduceAdd]
  ·simp only[VX,Nat.reduceEqDiff,Nat.reduceAdd]
  ·simp only[VX,Nat.reduceEqDiff,Nat.reduceAdd]
  ·rw[rF (kF hd)]
   simp only[g2,g3,VX,Nat.reduceEqDiff,Nat.reduceAdd]
   exact bN (d:=6) AB (aM (v:=VB false) rfl)
  ·rw[rT (kN hd)]
   simp only[VX,Nat.reduceEqDiff,Nat.reduceAdd]
   refine PE hd (by omega) he ?_ ?_ fun tU g4 => ?_
   ·rw[k1 0 (by decide)];simp only[VX,Nat.reduceEqDiff,Nat.reduceAdd]
   ·rw[k1 4 (by decide)];simp only[VX,Nat.reduceEqDiff,Nat.reduceAdd]
   ·simp only[g4,VX,Nat.reduceEqDiff,Nat.reduceAdd]
    exact bN (d:=6) (aM (bT _)) (aM (v:=VB true) rfl)
def Oe:VV := .agg [VB false,bO 0,bO 0]
def FQ (l:List UInt8):VV:=match Bo l with
 | some q => .eH [aG q,VB true]
 | none => .eH [Oe,VB false]
theorem UE:gV Oe=true:=by simp[Oe,gV,rE,tZ,qM]
theorem X3 (l:List UInt8):gV (FQ l)=true:=by
 unfold FQ
 split<;>simp[gV,rE,tY,UE,qM]
theorem iA {d:Nat} {H:aA}:fz (d+2) H (.agg [VB false,.tree [] .nil,.tree [] .nil])=some Oe:=uT (aM (v:=VB false) rfl) AB AB
theorem N0 {neg:Bool} {t b:Nat} (hb:b≠0) (hg:aNN t b=1) (hn:¬(neg=true∧t=0)):aG (mkRat (mF neg t) b) = .agg [VB neg,bO t,bO b]:=by
 obtain⟨e1,e2⟩:=My (neg:=neg) hb hg
 refine D2 ?_ (by rw[e1,qX]) e2
 rw[e1]
 cases neg with
 | false=>unfold mF;simp
 |
  true =>
  have:t≠0:=fun h=>hn ⟨rfl,h⟩
  unfold mF
  simp
  omega
theorem Y2 (l:List UInt8):Bo l=sF (isNeg (oF 47 l).1) (if isNeg (oF 47 l).1 then (oF 47 l).1.drop 1 else (oF 47 l).1) (oF 47 l).2:=by
 cases l with
 | nil=>rfl
 |
  cons c r =>
  unfold Bo
  by_cases h47:c=47
  ·subst h47
   rfl
  ·have e:oF 47 (c::r)=(c::(oF 47 r).1,(oF 47 r).2):=by rw[oF,if_neg h47]
   by_cases h45:c=45
   ·subst h45
    rw[e]
    rfl
   ·rw[e,IG,IG,decide_eq_false h45]
    simp only[aLQ,if_false,e]
theorem U6 {c:UInt8}:∀ {l:List UInt8},(oF c l).1.length≤l.length∧∀t,(oF c l).2=some t→t.length≤l.length:=by
 intro l
 cases h:(oF c l).2 with
 | none=>rw[(Dc h).2.1];exact⟨aLe _,fun t ht=>by cases ht⟩
 |
  some r =>
  have:=congrArg aN9 (K6 h).2.1
  rw[aLp,aLo] at this
  exact⟨by omega,fun t ht=>by cases ht;omega⟩
theorem RP {n:Nat}:(((aD 4294967296 n).length:Nat):Int)=0↔n=0:=by
 rw[←nQ (b:=4294967296) (n:=n) (by decide),←List.length_eq_zero_iff]
 omega
set_option maxRecDepth 100000 in
set_option maxHeartbeats 4000000 in
theorem PC (l:List UInt8) (hl:l.length≤1000000000000):TC 115 [bE l] (FQ l):=by
 refine TC.walk ⟨true,false⟩ PO rfl (aM2 rfl) rfl (X3 l) ?_
 have e1:=aBI l hl
 obtain⟨l1,l2⟩:=U6 (c:=47) (l:=l)
 have hq:=Y2 l
 unfold FQ
 rw[hq]
 clear hq
 generalize (oF 47 l).1=f at *
 generalize (oF 47 l).2=s2 at *
 have e2:=W5 f
 have ld:(if isNeg f=true then f.drop 1 else f).length≤f.length:=by split<;>simp
 generalize (if isNeg f=true then f.drop 1 else f)=d at *
 generalize isNeg f=neg at *
 have e3:=F4 d (by omega)
 have c1:TC 139 [.sc (.int .u64 1)] (bO 1):=pJ 1 (by decide)
 cases hd:jE d with
 |
  false =>
  have hp:sF neg d s2=none:=if_pos (.inl hd)
  rw[hp]
  unfold DE at e3
  rw[hd,if_neg (by decide)] at e3
  simp only[fG,dM,e1,e2,e3,aI,gC,Nat.reduceLeDiff,Nat.reduceLT,Nat.reduceSub,VX,Nat.reduceEqDiff,Nat.reduceAdd]
  exact bN (d:=6) iA (aM (v:=VB false) rfl)
 |
  true =>
  unfold DE at e3
  rw[hd,if_pos rfl] at e3
  by_cases hz:neg=true∧bU d=0
  ·have hp:sF neg d s2=none:=if_pos (.inr hz)
   rw[hp]
   obtain⟨rfl,Cz⟩:=hz
   rw[Cz] at e3
   have Ci:(((aD 4294967296 0).length:Nat):Int)=0:=RP.2 rfl
   simp only[fG,dM,e1,e2,e3,dR,Ci,aI,gC,Nat.reduceLeDiff,Nat.reduceLT,Nat.reduceSub,VX,Nat.reduceEqDiff,Nat.reduceAdd]
   exact bN (d:=6) iA (aM (v:=VB false) rfl)
  ·have hbt:=AZ hd
   have Ci:neg=true→¬(((aD 4294967296 (bU d)).length:Nat):Int)=0:=fun h h0=>hz ⟨h,RP.1 h0⟩
   cases s2 with
   |
    none =>
    have hp:sF neg d none=some (mkRat (mF neg (bU d)) 1):=if_neg (by rw[hd];rintro(h | h);exact absurd h (by decide);exact hz h)
    rw[hp]
    simp only[]
    rw[N0 (by decide) (Nat.gcd_one_right _) hz]
    cases neg with
    |
     false =>
     simp only[fG,dM,e1,e2,e3,c1,aLT,Option.getD_none,aI,bA,bB,aU,gC,Nat.reduceLeDiff,Nat.reduceLT,Nat.reduceSub,VX,Nat.reduceEqDiff,Nat.reduceAdd]
     exact bN (d:=6) (uT (aM (v:=VB false) rfl) (aM (bT _)) (aM (bT _))) (aM (v:=VB true) rfl)
    |
     true =>
     have Ci:=Ci rfl
     simp only[fG,dM,e1,e2,e3,c1,dR,Ci,aLT,Option.getD_none,aI,bA,bB,aU,gC,Nat.reduceLeDiff,Nat.reduceLT,Nat.reduceSub,VX,Nat.reduceEqDiff,Nat.reduceAdd]
     exact bN (d:=6) (uT (aM (v:=VB true) rfl) (aM (bT _)) (aM (bT _))) (aM (v:=VB true) rfl)
   |
    some t =>
    have e4:=F4 t (by have:=l2 t rfl;omega)
    have hp:sF neg d (some t)=if jE t=true∧1<bU t∧aNN (bU d) (bU t)=1 then some (mkRat (mF neg (bU d)) (bU t)) else none:=if_neg (by rw[hd];rintro(h | h);exact absurd h (by decide);exact hz h)
    rw[hp]
    cases ht:jE t with
    |
     false =>
     rw[if_neg (fun h=>absurd h.1 (by decide))]
     unfold DE at e4
     rw[ht,if_neg (by decide)] at e4
     cases neg with
     |
      false =>
      simp only[fG,dM,e1,e2,e3,e4,c1,aOb,aOc,aI,bA,bB,aU,gC,Nat.reduceLeDiff,Nat.reduceLT,Nat.reduceSub,VX,Nat.reduceEqDiff,Nat.reduceAdd]
      exact bN (d:=6) iA (aM (v:=VB false) rfl)
     |
      true =>
      have Ci:=Ci rfl
      simp only[fG,dM,e1,e2,e3,e4,c1,dR,Ci,aOb,aOc,aI,bA,bB,aU,gC,Nat.reduceLeDiff,Nat.reduceLT,Nat.reduceSub,VX,Nat.reduceEqDiff,Nat.reduceAdd]
      exact bN (d:=6) iA (aM (v:=VB false) rfl)
    |
     true =>
     have N7:=AZ ht
     unfold DE at e4
     rw[ht,if_pos rfl] at e4
     have c2:=lI (bU t) 1 (gI (by omega)) (gI (aLf (Dm (n:=1) (k:=1) (by decide)) (by decide)))
     have c3:=FT (bU d) (bU t) (gI (by omega)) (gI (by omega))
     by_cases h1:gA (bU t) 1≤0
     ·have hle:¬1<bU t:=fun h=>by unfold gA at h1;rw[if_neg (by omega),if_neg (by omega)] at h1;exact absurd h1 (by decide)
      rw[if_neg (fun h=>hle h.2.1)]
      cases neg with
      |
       false =>
       simp only[fG,dM,e1,e2,e3,e4,c1,c2,h1,aOb,aOc,aI,bA,bB,aU,gC,Nat.reduceLeDiff,Nat.reduceLT,Nat.reduceSub,VX,Nat.reduceEqDiff,Nat.reduceAdd]
       exact bN (d:=6) iA (aM (v:=VB false) rfl)
      |
       true =>
       have Ci:=Ci rfl
       simp only[fG,dM,e1,e2,e3,e4,c1,c2,h1,dR,Ci,aOb,aOc,aI,bA,bB,aU,gC,Nat.reduceLeDiff,Nat.reduceLT,Nat.reduceSub,VX,Nat.reduceEqDiff,Nat.reduceAdd]
       exact bN (d:=6) iA (aM (v:=VB false) rfl)
     ·have bH:1<bU t:=by
       rcases Nat.lt_or_ge 1 (bU t) with h | h
       ·exact h
       ·exfalso
        apply h1
        unfold gA
        split
        ·decide
        ·rw[if_pos (by omega)];decide
      have hgl:bl (aNN (bU d) (bU t))≤665:=aLf (lY (aNT (by omega) (Nat.gcd_dvd_right _ _))) N7
      have c4:=lI (aNN (bU d) (bU t)) 1 (gI (by omega)) (gI (aLf (Dm (n:=1) (k:=1) (by decide)) (by decide)))
      by_cases hg:aNN (bU d) (bU t)=1
      ·have h4:gA (aNN (bU d) (bU t)) 1=0:=by rw[hg];rfl
       rw[if_pos ⟨rfl,bH,hg⟩]
       simp only[]
       rw[N0 (by omega) hg hz]
       cases neg with
       |
        false =>
        simp only[fG,dM,e1,e2,e3,e4,c1,c2,c3,c4,h1,h4,aOb,aOc,aI,bA,bB,aU,gC,Nat.reduceLeDiff,Nat.reduceLT,Nat.reduceSub,VX,Nat.reduceEqDiff,Nat.reduceAdd]
        exact bN (d:=6) (uT (aM (v:=VB false) rfl) (aM (bT _)) (aM (bT _))) (aM (v:=VB true) rfl)
       |
        true =>
        have Ci:=Ci rfl
        simp only[fG,dM,e1,e2,e3,e4,c1,c2,c3,c4,h1,h4,dR,Ci,aOb,aOc,aI,bA,bB,aU,gC,Nat.reduceLeDiff,Nat.reduceLT,Nat.reduceSub,VX,Nat.reduceEqDiff,Nat.reduceAdd]
        exact bN (d:=6) (uT (aM (v:=VB true) rfl) (aM (bT _)) (aM (bT _))) (aM (v:=VB true) rfl)
      ·have h4:¬gA (aNN (bU d) (bU t)) 1=0:=by
        unfold gA
        split<;>(try split)<;>first | decide | omega
       rw[if_neg (fun h=>hg h.2.2)]
       cases neg with
       |
        false =>
        simp only[fG,dM,e1,e2,e3,e4,c1,c2,c3,c4,h1,h4,aOb,aOc,aI,bA,bB,aU,gC,Nat.reduceLeDiff,Nat.reduceLT,Nat.reduceSub,VX,Nat.reduceEqDiff,Nat.reduceAdd]
        exact bN (d:=6) iA (aM (v:=VB false) rfl)
       |
        true =>
        have Ci:=Ci rfl
        simp only[fG,dM,e1,e2,e3,e4,c1,c2,c3,c4,h1,h4,dR,Ci,aOb,aOc,aI,bA,bB,aU,gC,Nat.reduceLeDiff,Nat.reduceLT,Nat.reduceSub,VX,Nat.reduceEqDiff,Nat.reduceAdd]
        exact bN (d:=6) iA (aM (v:=VB false) rfl)
end Go.PM
namespace Go.PM
open Go.Lib
theorem W6 {l:List UInt8} {q:Rat} (h:Bo l=some q):FQ l = .eH [aG q,VB true]:=by unfold FQ;rw[h]
theorem WD {l:List UInt8} (h:Bo l=none):FQ l = .eH [Oe,VB false]:=by unfold FQ;rw[h]
theorem L6:aB Oe=[VB false,bO 0,bO 0]:=rfl
theorem NN:isAny Oe=false:=rfl
theorem WQ:dJ true 3 Oe 0=some Oe:=rfl
theorem Lw (q:Rat):∃s k,Dq q = .eH [bE s,VB k]:=by
 unfold Dq
 split<;>exact⟨_,_,rfl⟩
end Go.PM
namespace Go.PM
open Go.Lib
theorem zO {q:Rat}:jH q=0↔q=0:=by
 rw[←aN5]
 rcases aN3 q.num 0 with h | h | h
 ·rw[pL h];omega
 ·rw[kW h];simp[h]
 ·rw[pK h];omega
end Go.PM
namespace Go.PM
open Go.Lib
theorem Ub {α:Type} {f:α→VV} {d e b g c:Nat} {xs:List α} {H:aA} {w:Bool} (hp:∀x,aY (f x)=true) (h:aJ H b g=some (xs.map f,e,w)) (hc:xs.length≤c):fz (d+2) H (.ref b g 0 xs.length c)=some (aC f xs):=by
 have:aY (.ref b g 0 xs.length c)=false:=rfl
 unfold PM.fz
 simp only[this,h,aLQ,if_false]
 rw[if_pos ⟨by simp,hc⟩,List.drop_zero,aL7 (by simp),mapM_pure (fO hp)]
 rfl
theorem Ch {d:Nat} {H:aA}:fz (d+1) H (.tree [] .nil)=some (.tree [] .op):=by
 unfold PM.fz
 have:aY (.tree [] .nil)=false:=by simp[aY]
 simp[this]
theorem Il {H:aA}:fz depth H (.eH [.tree [] .nil,VB false])=some (.eH [.tree [] .op,VB false]):=bN (d:=6) Ch (aM (v:=VB false) rfl)
theorem zU {u v:VV} (hu:gV u=true) (hv:gV v=true):gV (.eH [u,v])=true:=by simp only[gV,rE,hu,hv,aMC]
theorem aeN {u v:VV} (hu:aY u=true) (hv:aY v=true):aY (.eH [u,v])=true:=by simp only[aY,aO,hu,hv,aMC]
theorem Lx {u:VV} (hu:aY u=true):aO [u]=true:=by simp only[aO,hu,aMC]
theorem CE {u v:VV} (hu:aY u=true) (hv:aY v=true):aO [u,v]=true:=by simp only[aO,hu,hv,aMC]
def pQ (s:ByteArray):Option Rat:=Bo s.data.toList
theorem anS (s:ByteArray):sV s=bE s.data.toList:=rfl
def tC (xs:List ByteArray):Option (List Rat):=if xs.length≤300 then xs.mapM pQ else none
def Q6 (o:Option (List Rat)):VV:=match o with
 | some qs => .eH [aC aG qs,VB true]
 | none => .eH [aC aG [],VB false]
theorem fD (q:Rat):(aB (aG q)).length=3:=rfl
theorem gN (qs:List Rat):aY (aC aG qs)=true:=mJ fD iM
theorem afG (q:Rat):CH (aG q)=true:=by simp[CH,aG,bO]
theorem GK (qs:List Rat):gV (aC aG qs)=true:=zX fD tY afG
theorem RB (o:Option (List Rat)):gV (Q6 o)=true:=by
 unfold Q6
 split
 ·exact zU (GK _) rfl
 ·exact zU (GK []) rfl
theorem RF {α β:Type} {f:α→Option β} {xs:List α} {ys:List β} {x:α} {y:β} (h:xs.mapM f=some ys) (hx:f x=some y):(xs++[x]).mapM f=some (ys++[y]):=by
 rw[List.mapM_append,h]
 simp[hx]
theorem mapM_none {α β:Type} {f:α→Option β} {x:α} (hx:f x=none):∀ {xs:List α},x∈xs→xs.mapM f=none
 | [],h=>by cases h
 |
  y::xs,h=>by
  rw[aMB]
  cases hy:f y with
  | none=>rfl
  |
   some z =>
   rcases aMs.1 h with rfl | h
   ·rw[hx] at hy;cases hy
   ·show ((xs.mapM f).bind fun zs=>some (z::zs))=none
    rw[mapM_none hx h];rfl
theorem mapM_mem {α β:Type} {f:α→Option β} {P:β→Prop} (hP:∀x y,f x=some y→P y):∀ {xs:List α} {ys:List β},xs.mapM f=some ys→∀y∈ys,P y
 | [],ys,h,y,hy=>by simp at h;subst h;cases hy
 |
  x::xs,ys,h,y,hy=>by
  rw[aMB] at h
  cases hx:f x with
  | none=>rw[hx] at h;cases h
  |
   some z =>
   rw[hx] at h
   cases hs:xs.mapM f with
   | none=>rw[hs] at h;cases h
   |
    some zs =>
    rw[hs] at h
    cases h
    rcases aMs.1 hy with rfl | hy
    ·exact hP _ _ hx
    ·exact mapM_mem hP hs _ hy
theorem sZ {α:Type} {xs:List α} {i:Nat} {x:α} (h:xs[i]? = some x):xs.take (i+1)=xs.take i++[x]:=by rw[List.take_add_one,h];rfl
theorem mY {xs:List ByteArray} {qs:List Rat} (h:tC xs=some qs):(∀q∈qs,aL q≤665)∧qs.length≤300∧qs.length=xs.length:=by
 unfold tC at h
 split at h
 ·rename_i hl
  have:=Bc h
  exact⟨mapM_mem (fun _ _ h=>XC h) h,by omega,this⟩
 ·cases h
set_option maxHeartbeats 1000000 in
theorem Fq (xs:List ByteArray) (hn:xs.length≤1000000000) (hs:∀s∈xs,s.size≤1000000000):TC 65 [gJ xs] (Q6 (tC xs)):=by
 refine TC.walk ⟨true,false⟩ Wh rfl (aM2 rfl) (by simp[aO,kG]) (RB _) ?_
 unfold tC
 by_cases Xn:(300:Int)<(xs.length:Int)
 ·rw[if_neg (by omega)]
  simp only[KC,E7,Xn,VX,Nat.reduceEqDiff,Nat.reduceAdd]
  exact Il
 rw[if_pos (by omega)]
 have e0:=fun H=>mQ (H:=H) (lr:=false) (z:=[.bool false,.slice none 0 0,.slice none 0 0]) rfl
 simp only[KC,E7,Xn,e0,VX,Nat.reduceEqDiff,Nat.reduceAdd]
 refine Pw (fun(s:Nat×List Rat) ρ H=>s.1≤xs.length∧(xs.take s.1).mapM pQ=some s.2∧H=[.row s.1 (s.2.map aG) 3 true]∧ρ 4 = .ref 0 s.1 0 s.1 s.1∧ρ 13=gJ xs∧ρ 14=VI xs.length∧ρ 15=VI s.1) (fun s=>xs.length-s.1) (0,[]) ⟨aLI _,rfl,rfl,rfl,rfl,rfl,rfl⟩ ?_
 rintro⟨i,out⟩ ρ H ⟨hi,wZ,rfl,g4,g13,g14,g15⟩
 simp only at hi wZ g4 g15
 have hJ:out.length=i:=by rw[Bc wZ,List.length_take];omega
 by_cases bX:(i:Int)<(xs.length:Int)
 ·obtain⟨x,hx⟩:∃x,xs[i]? = some x:=⟨_,aLl (by omega)⟩
  have hxm:=aL8 hx
  have e1:=fun H=>aF (f:=sV) (t := .op) (H:=H) (size:=1) (k := .i64) hx rfl
  have wi:IntKind.i64.wrap ((i:Int)+1)=((i+1:Nat):Int):=wrapN (i+1) (by omega) (by omega)
  have e2:=PC x.data.toList (by have:=hs x hxm;rw[Array.length_toList];show x.size≤_;omega)
  rw[←anS] at e2
  cases hp:pQ x with
  |
   none =>
   rw[WD hp] at e2
   rw[mapM_none hp hxm]
   simp only[AD,g4,g13,g14,g15,bX,e1,e2,L6,NN,WQ,bB,bA,aU,gC,Nat.reduceLeDiff,Nat.reduceLT,Nat.reduceSub,mX,cA,cM,gB,lB,pT,bne_iff_ne,ne_eq,not_false_eq_true,not_true_eq_false,VX,Nat.reduceEqDiff,Nat.reduceAdd]
   exact Il
  |
   some q =>
   rw[W6 hp] at e2
   have eL:∀H,nT false [.bool false,.slice none 0 0,.slice none 0 0] 1 [(0,aG q)] H=some (.tree [aG q] (.cl 3),H):=fun H=>lO rfl rfl rfl
   have eS:∀H,dG 3 (.tree [aG q] (.cl 3)) H=some [aG q]:=fun H=>gR rfl rfl
   have eP:dK 0 3 56 (.ref 0 i 0 i i) [aG q] [.row i (out.map aG) 3 true,.row 0 [aG q] 3 true]=some (.ref 0 (i+1) 0 (i+1) (i+1),[.row (i+1) ((out++[q]).map aG) 3 true,.row 0 [aG q] 3 true]):=by
    rw[jK (f:=aG) (xs:=out) (by rw[aQ]) hJ.symm (aLe _) (by decide) (by decide) (by omega),aMS]
   simp only[AD,g4,g13,g14,g15,bX,e1,e2,eL,eS,eP,wi,aI,cI,bK,bB,bA,aU,gC,Nat.reduceLeDiff,Nat.reduceLT,Nat.reduceSub,mX,cA,cM,gB,lB,pT,bne_iff_ne,ne_eq,not_false_eq_true,not_true_eq_false,VX,Nat.reduceEqDiff,Nat.reduceAdd]
   refine⟨(i+1,out++[q]),by simp only;omega,?_,by simp only;omega,by simp only[sZ hx];exact RF wZ hp,rfl,?_⟩
   ·rw[Db (oJ _ (fO iM)),KR]
   ·simp only[BF,g13,g14,Df (kG _),KM (Nat.lt_succ_self 0),VX,Nat.reduceEqDiff,Nat.reduceAdd,List.take_zero,nO,List.all_nil,aMR,BF,OF,Df]
 ·have mZ:i=xs.length:=by omega
  subst mZ
  rw[List.take_length] at wZ
  rw[wZ]
  simp only[AD,g4,g13,g14,g15,bX,VX,Nat.reduceEqDiff,Nat.reduceAdd]
  refine bN (d:=6) ?_ (aM (v:=VB true) rfl)
  have:=Ub (d:=5) (w:=true) (f:=aG) (e:=3) (b:=0) (g:=xs.length) (c:=xs.length) (xs:=out) (H:=[.row xs.length (out.map aG) 3 true]) iM (by rw[aQ]) (by omega)
  rw[hJ] at this
  exact this
end Go.PM
namespace Go.PM
theorem Ob {lo b:Nat} {H:aA} {c x y z:VV} (k:Nat) (h:aJ H b 0=some ([.agg [x,y,z]],3,true)) (eT:lo≤b) (hc:aB c=[c]) (hs:bP c=true) (hk:k<3) :
  bM lo 1 (.ptr b 0 0 k) c H=some (H.set b (.row 0 [.agg ([x,y,z].set k c)] 3 true)):=by
 rw[E4,h]
 simp only[List.getElem?_cons_zero,hc,aLo,aMR,aL6,List.all_nil,hs,aMS]
 rw[if_pos ⟨by decide,eT,by decide⟩,if_neg (by omega),if_pos ⟨by decide,by omega⟩]
 match k,hk with
 | 0,_=>rfl
 | 1,_=>rfl
 | 2,_=>rfl
set_option maxHeartbeats 1000000 in
theorem KF (s:rV) (bare:Bool) (hb:s.b.length≤1000000000) (hg:s.g.length≤1000000000∧∀x∈s.g,x.length≤1000000000) (he:s.e.length≤1000000000):FC 46 [tX s,.sc (.bool bare)] fun n r L=>vO n (aL4 n .dead++L) bare s r:=by
 refine FC.aCb ⟨true,false⟩ KQ (aM2 rfl) fun n => ?_
 simp only[Fa,Dx,tX,VX,Nat.reduceEqDiff,Nat.reduceAdd,gC,Nat.reduceLeDiff,Nat.reduceLT,Nat.reduceSub,NM,ZR,anE,awG,aCY,aM0,aM6,aqF,arY,List.length_replicate]
 refine aAV (n:=n) (m:=n+1) hb (by simp) (by simp) ?_ fun c0 H1 p1 O1 s0 w0 => ?_
 ·intro b g es e w hb hr
  rw[List.getElem?_eq_none (by simp;omega)] at hr
  cases hr
 have Gy:n+2≤H1.length:=by have:=p1.length_le;simpa using this
 have a1:aJ H1 (n+1) 0=some ([.agg [.tree [] .nil,.tree [] .nil,.tree [] .nil]],3,true):=cE p1 (by rw[ZR];rfl)
 have b1:aJ H1 n 0=some ([.agg [.tree [] .nil,.tree [] .nil,.tree [] .nil]],3,true):=cE p1 (by rw[NM];rfl)
 have e1:=Ob (lo:=n) 0 a1 (Nat.le_succ n) s0.cell.1 s0.cell.2.1 (by decide)
 simp only[a1,e1,zQ,Nat.add_zero,VX,Nat.reduceEqDiff,Nat.reduceAdd]
 refine aCi (n:=n) (m:=n+1) hg.1 hg.2 (by rw[aNt];omega) (by rw[aNt];omega) (O1.set (by omega)) fun c1 H2 p2 O2 s1 w1 => ?_
 have Kn:n+2≤H2.length:=by have:=p2.length_le;rw[aNt] at this;omega
 have a2:aJ H2 (n+1) 0=some ([.agg [c0,.tree [] .nil,.tree [] .nil]],3,true):=cE p2 (cP a1)
 have b2:aJ H2 n 0=some ([.agg [.tree [] .nil,.tree [] .nil,.tree [] .nil]],3,true):=cE p2 (aW (by omega) b1)
 have s0':=s0.cW (H':=H2) fun b g x hb h=>cE p2 (aW (by omega) h)
 have e2:=Ob (lo:=n) 1 a2 (Nat.le_succ n) s1.cell.1 s1.cell.2 (by decide)
 simp only[a2,e2,zQ,aMM,VX,Nat.reduceEqDiff,Nat.reduceAdd]
 refine aAV (n:=n) (m:=n+1) he (by rw[aNt];omega) (by rw[aNt];omega) (O2.set (by omega)) fun c2 H3 p3 O3 s2 w2 => ?_
 have hl3:n+2≤H3.length:=by have:=p3.length_le;rw[aNt] at this;omega
 have a3:aJ H3 (n+1) 0=some ([.agg [c0,c1,.tree [] .nil]],3,true):=cE p3 (cP a2)
 have b3:aJ H3 n 0=some ([.agg [.tree [] .nil,.tree [] .nil,.tree [] .nil]],3,true):=cE p3 (aW (by omega) b2)
 have aFV:=s0'.cW (H':=H3) fun b g x hb h=>cE p3 (aW (by omega) h)
 have aEJ:=s1.cW (H':=H3) fun b g x hb h=>cE p3 (aW (by omega) h)
 have e3:=Ob (lo:=n) 2 a3 (Nat.le_succ n) s2.cell.1 s2.cell.2.1 (by decide)
 have e4:bG true 3 (.ptr (n+1) 0 0 0) (H3.set (n+1) (.row 0 [.agg [c0,c1,c2]] 3 true))=some (.agg [c0,c1,c2]):=by
  rw[bJ,cP a3]
  rfl
 have hv:aB c0=[c0]∧aB c1=[c1]∧aB c2=[c2]:=⟨s0.cell.1,s1.cell.1,s2.cell.1⟩
 have e5:=bS (lo:=n) (v := .agg [c0,c1,c2]) (j:=0) (aW (x := .row 0 [.agg [c0,c1,c2]] 3 true) (b':=n+1) (by omega) b3) (by decide) (aLe _) (by rfl) (by simp[aB,s0.cell.2.1,s1.cell.2,s2.cell.2.1])
 have e6:bG true 3 (.ptr n 0 0 0) ((H3.set (n+1) (.row 0 [.agg [c0,c1,c2]] 3 true)).set n (.row 0 [.agg [c0,c1,c2]] 3 true))=some (.agg [c0,c1,c2]):=by
  rw[bJ,cP (aW (x := .row 0 [.agg [c0,c1,c2]] 3 true) (b':=n+1) (by omega) b3)]
  rfl
 simp only[a3,e3,e4,e5,e6,zQ,aMM,aMS,List.set_cons_succ,oO,sU,FK,VX,Nat.reduceEqDiff,Nat.reduceAdd]
 obtain⟨L,k1,k2,k3⟩:=aiX (n:=n) (k:=n+2) (H:=(H3.set (n+1) (.row 0 [.agg [c0,c1,c2]] 3 true)).set n (.row 0 [.agg [c0,c1,c2]] 3 true)) (by omega) (by rw[aNt,aNt];exact hl3) ((O3.set (by omega)).set (by omega))
 have Dl:∀b g x,n+1<b→aJ H3 b g=some x→aJ (aL4 n .dead++L) b g=some x:=fun b g x hb h=>k3 b g x hb (aW (by omega) (aW (by omega) h))
 have up:∀ {H c x},uF (n+1) H bare x c→uF n H bare x c:=fun h=>by
  rcases h with h | ⟨b,h1,h2,h3⟩
  ·exact .inl h
  ·exact .inr ⟨b,by omega,h2,h3⟩
 have up2:∀ {H c x},wB (n+1) H bare x c→wB n H bare x c:=fun h=>by
  rcases h with h | ⟨b,h1,h2,h3⟩
  ·exact .inl h
  ·exact .inr ⟨b,by omega,h2,h3⟩
 refine⟨L,k1,by simp[jL,Aw,w0,w1,w2],k2,c0,c1,c2,rfl,up (aFV.cW Dl),up2 (aEJ.cW Dl),up (s2.cW Dl)⟩
theorem Dk (s:rV) (left:Int) (hx:ahP s) (hl:0≤left∧left≤1000000):TC 44 [tX s,VI left] (VI (if Hr s.b left<0 then -1 else if Fi s.g (Hr s.b left)<0 then -1 else if Hr s.e (Fi s.g (Hr s.b left))<0 then -1 else Hr s.e (Fi s.g (Hr s.b left)))):=by
 refine TC.walk ⟨true,false⟩ K3 rfl (aM2 rfl) (by simp[aO,jN];rfl) rfl ?_
 have e0:=yN s.b left hx.1 hl
 by_cases h0:Hr s.b left<0
 ·simp only[rI,nN,tX,e0,h0,if_true,VX,Nat.reduceEqDiff,Nat.reduceAdd,gC,Nat.reduceLeDiff,Nat.reduceLT,Nat.reduceSub]
  exact aK rfl
 have b0:=Ig (xs:=s.b) (l:=left) (by omega)
 have e1:=Ki s.g _ hx.2.1 ⟨Int.not_lt.1 h0,by omega⟩
 by_cases h1:Fi s.g (Hr s.b left)<0
 ·simp only[rI,nN,tX,e0,e1,h0,h1,if_true,if_false,VX,Nat.reduceEqDiff,Nat.reduceAdd,gC,Nat.reduceLeDiff,Nat.reduceLT,Nat.reduceSub]
  exact aK rfl
 have b1:=Sw (xs:=s.g) (l:=Hr s.b left) (by omega)
 have e2:=yN s.e _ hx.2.2 ⟨Int.not_lt.1 h1,by omega⟩
 by_cases h2:Hr s.e (Fi s.g (Hr s.b left))<0
 ·simp only[rI,nN,tX,e0,e1,e2,h0,h1,h2,if_true,if_false,VX,Nat.reduceEqDiff,Nat.reduceAdd,gC,Nat.reduceLeDiff,Nat.reduceLT,Nat.reduceSub]
  exact aK rfl
 ·simp only[rI,nN,tX,e0,e1,e2,h0,h1,h2,if_false,VX,Nat.reduceEqDiff,Nat.reduceAdd,gC,Nat.reduceLeDiff,Nat.reduceLT,Nat.reduceSub]
  exact aK rfl
end Go.PM
namespace Go.PM
theorem Ws {b d:Nat} {H:aA}:∀ {iV:List VV},(∀c∈iV,Ho b H c)→iV.mapM (PM.fz (d+2) H)=some ((aL4 iV.length [kP]).map gJ)
 | [],_=>rfl
 |
  c::iV,h=>by
  rw[aMB,(h c List.mem_cons_self).fz,Ws fun c hc=>h c (List.mem_cons_of_mem _ hc)]
  rfl
theorem xQ.aaC {b:Nat} {H:aA} {bare:Bool} {xs:List (List ByteArray)} (h:xQ H bare xs b):PM.fz depth H (.ref b 0 xs.length (room xs.length) (room xs.length))=some (lM (aL4 (room xs.length) [kP])):=by
 obtain⟨cells,iV,h1,h2,h3,h4,h5⟩:=h
 show PM.fz (7+1) H _=_
 unfold PM.fz
 have:aY (.ref b 0 xs.length (room xs.length) (room xs.length))=false:=rfl
 simp only[this,h1,aLQ,if_false]
 rw[if_pos ⟨by simp;omega,aLe _⟩,List.drop_left' h2,aL7 (by omega),Ws (d:=5) h5,h3]
 rfl
theorem xQ.get {b i:Nat} {H:aA} {xs:List (List ByteArray)} {x:List ByteArray} (h:xQ H false xs b) (hx:xs[i]? = some x) :
  ∃b',bG false 1 (.ptr b 0 i 0) H=some (.ref b' 0 0 x.length (x.length+room x.length))∧aJ H b' 0=some ((lX kP x).map sV,1,true):=by
 obtain⟨cells,iV,h1,h2,h3,h4,h5⟩:=h
 obtain⟨c,k1,k2⟩:=h4 i x hx
 rcases k2 with⟨k,_⟩ | ⟨b',_,rfl,k3⟩
 ·cases k
 ·refine⟨b',?_,k3⟩
  rw[bJ,h1]
  simp only[List.getElem?_append_left (List.getElem?_eq_some_iff.1 k1).1,k1]
  rfl
theorem EU {lo b b':Nat} {H:aA} (xs:List (List ByteArray)) (hn:xs.length≤400000000) (hx:∀x∈xs,x.length≤400000000) (hX:xQ H false xs b) (hY:xQ H false xs b') {K:VV→aA→Prop} (hk:K (.sc (.bool true)) H) :
  dP 20 [.ref b 0 0 xs.length (xs.length+room xs.length),.ref b' 0 0 xs.length (xs.length+room xs.length)] lo H K:=by
 refine iN rfl (mB.walk ⟨true,false⟩ E0 (aM2 rfl) ?_)
 have hr:=room_le xs.length
 have w1:IntKind.i64.wrap ((xs.length:Int)+(room xs.length:Int))=((xs.length+room xs.length:Nat):Int):=wrapN _ (by omega) (by omega)
 have gX:=fun i x h=>hX.get (i:=i) (x:=x) h
 have gY:=fun i x h=>hY.get (i:=i) (x:=x) h
 have fX:=hX.aaC
 have fY:=hY.aaC
 obtain⟨cX,eX,rX,_⟩:=hX
 obtain⟨cY,eY,rY,_⟩:=hY
 have l1:=eI (o:=0) (n:=xs.length) (c:=xs.length+room xs.length) rX
 have l2:=eI (o:=0) (n:=xs.length) (c:=xs.length+room xs.length) rY
 have e1:=Og (o:=0) (n:=xs.length) (c:=xs.length+room xs.length) (l:=xs.length) (h:=xs.length+room xs.length) (k1 := .i64) (k2 := .i64) rX (aM6 _ _) (aLe _)
 have e2:=Og (o:=0) (n:=xs.length) (c:=xs.length+room xs.length) (l:=xs.length) (h:=xs.length+room xs.length) (k1 := .i64) (k2 := .i64) rY (aM6 _ _) (aLe _)
 rw[Nat.add_sub_cancel_left,aMM] at e1 e2
 have e3:=(Ji (aL4 (room xs.length) [kP]) (aL4 (room xs.length) [kP]) (by simp;omega) (fun x hx=>by rw[List.eq_of_mem_replicate hx];decide)).flat (H:=H) rfl (by simp[aO,BL]) (fz2 fX fY) rfl
 simp only[Au,xO,kC,l1,l2,w1,eq_self,VX,Nat.reduceEqDiff,Nat.reduceAdd]
 refine aN (fun(i:Nat) ρ H1=>i≤xs.length∧H1=H∧ρ 0 = .ref b 0 0 xs.length (xs.length+room xs.length)∧ρ 1 = .ref b' 0 0 xs.length (xs.length+room xs.length)∧ρ 5=VI (xs.length+room xs.length:Nat)∧ρ 6=VI i) (fun i=>xs.length-i) 0 ⟨aLI _,rfl,rfl,rfl,rfl,rfl⟩ ?_
 rintro i ρ H1 ⟨hi,rfl,h0,h1,h5,h6⟩
 by_cases bX:(i:Int)<(xs.length:Int)
 ·obtain⟨x,FH⟩:∃x,xs[i]? = some x:=⟨_,aLl (by omega)⟩
  obtain⟨bx,vx,ux⟩:=gX i x FH
  obtain⟨bY,vy,uy⟩:=gY i x FH
  have a1:=bC (o:=0) (n:=xs.length) (c:=xs.length+room xs.length) (i:=i) (k := .i64) rX (by omega)
  have a2:=bC (o:=0) (n:=xs.length) (c:=xs.length+room xs.length) (i:=i) (k := .i64) rY (by omega)
  have wi:IntKind.i64.wrap ((i:Int)+1)=((i+1:Nat):Int):=wrapN (i+1) (by omega) (by omega)
  simp only[oT,h0,h1,h6,bX,l2,a1,a2,vx,vy,aMM,VX,Nat.reduceEqDiff,Nat.reduceAdd]
  refine sA x (hx x (aL8 FH)) ux uy ?_
  simp only[h6,wi,VX,Nat.reduceEqDiff,Nat.reduceAdd]
  exact⟨i+1,by omega,by omega,by (repeat' apply And.intro)<;>first | rfl | trivial | assumption⟩
 ·have mZ:i=xs.length:=by omega
  subst mZ
  simp only[oT,h0,h1,h5,h6,bX,l2,e1,e2,e3,VX,Nat.reduceEqDiff,Nat.reduceAdd]
  exact hk
theorem uF.ref {n:Nat} {H:aA} {x:List ByteArray} {c:VV} (h:uF n H false x c):∃b,c = .ref b 0 0 x.length (x.length+room x.length)∧aJ H b 0=some ((lX kP x).map sV,1,true):=by
 rcases h with⟨k,_⟩ | ⟨b',_,rfl,k3⟩
 ·cases k
 ·exact⟨b',rfl,k3⟩
theorem wB.ref {n:Nat} {H:aA} {x:List (List ByteArray)} {c:VV} (h:wB n H false x c):∃b,c = .ref b 0 0 x.length (x.length+room x.length)∧xQ H false x b:=by
 rcases h with⟨k,_⟩ | ⟨b',_,rfl,k3⟩
 ·cases k
 ·exact⟨b',rfl,k3⟩
theorem zV {lo n n':Nat} {H:aA} {c c':VV} (s:rV) (hb:s.b.length≤400000000) (hg:s.g.length≤400000000∧∀x∈s.g,x.length≤400000000) (he:s.e.length≤400000000) (hX:vO n H false s c) (hY:vO n' H false s c') {K:VV→aA→Prop} (hk:K (.sc (.bool true)) H) :
  dP 48 [c,c'] lo H K:=by
 refine iN rfl (mB.walk ⟨true,false⟩ FZ (aM2 rfl) ?_)
 obtain⟨x0,x1,x2,rfl,Rc,hx1,hx2⟩:=hX
 obtain⟨y0,y1,y2,rfl,hy0,hy1,hy2⟩:=hY
 obtain⟨b0,rfl,r0⟩:=Rc.ref
 obtain⟨b1,rfl,r1⟩:=hx1.ref
 obtain⟨b2,rfl,r2⟩:=hx2.ref
 obtain⟨d0,rfl,q0⟩:=hy0.ref
 obtain⟨d1,rfl,q1⟩:=hy1.ref
 obtain⟨d2,rfl,q2⟩:=hy2.ref
 simp only[AW,zK,VX,Nat.reduceEqDiff,Nat.reduceAdd,gC,Nat.reduceLeDiff,Nat.reduceLT,Nat.reduceSub,Cu,Nw,S5,awU,aM0,List.cons_append,List.nil_append,aLp,aLo,aMR,aMM,Nat.reduceAdd]
 refine sA s.b hb r0 q0 ?_
 simp only[VX,Nat.reduceEqDiff,Nat.reduceAdd,gC,Nat.reduceLeDiff,Nat.reduceLT,Nat.reduceSub]
 refine EU s.g hg.1 hg.2 r1 q1 ?_
 simp only[VX,Nat.reduceEqDiff,Nat.reduceAdd,gC,Nat.reduceLeDiff,Nat.reduceLT,Nat.reduceSub]
 refine sA s.e he r2 q2 ?_
 simp only[VX,Nat.reduceEqDiff,Nat.reduceAdd,gC,Nat.reduceLeDiff,Nat.reduceLT,Nat.reduceSub]
 exact hk
end Go.PM