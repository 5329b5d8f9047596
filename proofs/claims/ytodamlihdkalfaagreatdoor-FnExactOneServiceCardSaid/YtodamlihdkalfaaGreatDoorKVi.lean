/- Texts of a claim, in one: part 9. -/
import Derived.Lib.Bytealg
import Derived.Lib.ParseIntB
import Derived.Test.YtodamlihdkalfaaGreatDoorKVh
set_option linter.unusedSimpArgs false
set_option linter.unusedVariables false
namespace Go.PM
theorem fQ (n:Nat) {H:aA}:nP (bX n) H=some (VI (aC 4294967296 n).length):=fI
theorem wI {n:Nat}:(0:Int)<((aC 4294967296 n).length:Int)↔n≠0:=by
 constructor
 ·intro h h0
  subst h0
  rw[bQ] at h
  simp at h
 ·intro h
  have:=(kD (b:=4294967296) (by decide) (n:=n))
  have h2:aC 4294967296 n≠[]:=fun hx=>h (this.1 hx)
  have:=List.length_pos_iff.2 h2
  omega
theorem NU {n:Nat} (h:(aC 4294967296 n).length≤2):n<18446744073709551616:=by
 have h1:=iE (b:=4294967296) (by decide) n
 have h2:4294967296^(aC 4294967296 n).length≤4294967296^2:=Nat.pow_le_pow_right (by decide) h
 omega
theorem II (a b:Nat) (ha:(aC 4294967296 a).length≤17592186044416) (hb:(aC 4294967296 b).length≤17592186044416):TC 171 [bX a,bX b] (bX (Nat.gcd a b)):=by
 refine TC.walk ⟨true,false⟩ F2 rfl (Nat.le_of_ble_eq_true rfl) (by simp[aP,bO]) (pX _) ?_
 simp only[Bu,yQ,VX,Nat.reduceEqDiff,Nat.reduceAdd]
 refine aR (fun(t:Nat×Nat) ρ H=>H=[]∧Nat.gcd t.1 t.2=Nat.gcd a b∧(aC 4294967296 t.1).length≤17592186044416∧(aC 4294967296 t.2).length≤17592186044416∧ρ 0=bX t.1∧ρ 1=bX t.2) (fun t=>t.2) (a,b) ⟨rfl,rfl,ha,hb,rfl,rfl⟩ ?_
 rintro⟨x,y⟩ ρ H ⟨rfl,hg,hx,hy,g0,g1⟩
 simp only at hg hx hy g0 g1
 have c1:=xY x hx
 have c2:=xY y hy
 by_cases ZQ:y=0
 ·subst ZQ
  have hl:¬(0:Int)<((aC 4294967296 0).length:Int):=by rw[wI];omega
  rw[Nat.gcd_zero_right] at hg
  simp only[gO,g0,g1,fQ,hl,VX,Nat.reduceEqDiff,Nat.reduceAdd]
  rw[hg]
  exact aI (bO _)
 have hl:(0:Int)<((aC 4294967296 y).length:Int):=wI.2 ZQ
 by_cases h1:(aC 4294967296 x).length≤2∧(aC 4294967296 y).length≤2
 ·rw[if_pos h1.1] at c1
  rw[if_pos h1.2] at c2
  simp only[gO,g0,g1,fQ,hl,c1,c2,VX,Nat.reduceEqDiff,Nat.reduceAdd]
  refine aR (fun(t:Nat×Nat) ρ H=>H=[]∧Nat.gcd t.1 t.2=Nat.gcd a b∧t.1<18446744073709551616∧t.2<18446744073709551616∧ρ 5=VK .u64 t.1∧ρ 7=VK .u64 t.2) (fun t=>t.2) (x,y) ⟨rfl,hg,NU h1.1,NU h1.2,rfl,rfl⟩ ?_
  rintro⟨u,v⟩ LW H ⟨rfl,hg2,hu,hv,k5,k7⟩
  simp only at hg2 hu hv k5 k7
  by_cases hv0:v=0
  ·subst hv0
   rw[Nat.gcd_zero_right] at hg2
   have hz:¬(0:Int)<((0:Nat):Int):=by omega
   have c3:=mV u hu
   simp only[qA,k5,k7,hz,c3,VX,Nat.reduceEqDiff,Nat.reduceAdd]
   rw[hg2]
   exact aI (bO _)
  ·have hz:(0:Int)<(v:Int):=by omega
   have r1:=Lz u v (by omega)
   simp only[qA,k5,k7,hz,r1,VX,Nat.reduceEqDiff,Nat.reduceAdd]
   refine⟨(v,u % v),?_,?_,hv,?_,rfl,rfl⟩
   ·exact Nat.mod_lt _ (by omega)
   ·simp only
    rw[←hg2,Nat.gcd_comm u v,Nat.gcd_rec v u,Nat.gcd_comm]
   ·simp only
    have:=Nat.mod_lt u (show 0<v by omega)
    omega
 ·have c3:=Jp x y ZQ hx hy
  have next:∃s':Nat×Nat,s'.2<y∧Nat.gcd s'.1 s'.2=Nat.gcd a b∧(aC 4294967296 s'.1).length≤17592186044416∧(aC 4294967296 s'.2).length≤17592186044416∧bX y=bX s'.1∧bX (x % y)=bX s'.2:=by
   have hm:=Nat.mod_lt x (show 0<y by omega)
   refine⟨(y,x % y),hm,?_,hy,?_,rfl,rfl⟩
   ·simp only
    rw[←hg,Nat.gcd_comm x y,Nat.gcd_rec y x,Nat.gcd_comm]
   ·simp only
    have:=fG (b:=4294967296) (by decide) (Nat.le_of_lt hm)
    omega
  by_cases h2:(aC 4294967296 x).length≤2
  ·have h3:¬(aC 4294967296 y).length≤2:=fun h=>h1 ⟨h2,h⟩
   rw[if_pos h2] at c1
   rw[if_neg h3] at c2
   simp only[gO,g0,g1,fQ,hl,c1,c2,c3,VX,Nat.reduceEqDiff,Nat.reduceAdd]
   exact next
  ·rw[if_neg h2] at c1
   by_cases h3:(aC 4294967296 y).length≤2
   ·rw[if_pos h3] at c2
    simp only[gO,g0,g1,fQ,hl,c1,c2,c3,VX,Nat.reduceEqDiff,Nat.reduceAdd]
    exact next
   ·rw[if_neg h3] at c2
    simp only[gO,g0,g1,fQ,hl,c1,c2,c3,VX,Nat.reduceEqDiff,Nat.reduceAdd]
    exact next
end Go.PM
namespace Go.PM
open Go.Lib
theorem oB (a b:List UInt8) (h:a.length+b.length≤9223372036854775807):dB .add (.string ⟨a.toArray⟩) (.string ⟨b.toArray⟩)=some (.string ⟨(a++b).toArray⟩):=by
 have h1:(⟨a.toArray⟩:ByteArray).size=a.length:=by simp[ByteArray.size]
 have h2:(⟨b.toArray⟩:ByteArray).size=b.length:=by simp[ByteArray.size]
 have h3:¬(((⟨a.toArray⟩:ByteArray).size+(⟨b.toArray⟩:ByteArray).size:Nat):Int)>IntKind.i64.max:=by
  rw[h1,h2]
  show ¬_>(9223372036854775807:Int)
  omega
 simp only[dB,h3,if_false]
 congr 2
theorem bC (a:List UInt8):wK (.string ⟨a.toArray⟩)=some (.int .i64 (a.length:Int)):=by simp[wK,ByteArray.size]
theorem Zd:∀a:List UInt8,(aB (aO a)).length=1:=fun _=>rfl
theorem Tw {xs:List (List UInt8)} {H:aA} {lo b g n:Nat} (hr:aF H b g=some (xs.map aO,1,true)) (hn:xs.length=n) (eJ:lo≤b) (BH:n≤9223372036854775806) :
  iV 185 [.ref b g 0 n n] lo H fun r H'=>r = .dQ []∧H'=H.set b (.row g (xs.reverse.map aO) 1 true):=by
 refine iV.walk ⟨true,false⟩ pA (Nat.le_of_ble_eq_true rfl) ?_
 have e0:nP (.ref b g 0 n n) H=some (VI n):=eZ hr
 have w0:IntKind.i64.wrap ((n:Int)-1)=(n:Int)-1:=wrap64 (by omega) (by omega)
 simp only[jQ,iX,e0,w0,VX,Nat.reduceEqDiff,Nat.reduceAdd]
 refine aR (fun(t:Nat×List (List UInt8)) ρ K=>t.1≤n∧K=H.set b (.row g (t.2.map aO) 1 true)∧t.2.length=n∧(∀k,k<n→t.2[k]? = if k<t.1∨n≤k+t.1 then xs[n-1-k]? else xs[k]?)∧ρ 0 = .ref b g 0 n n∧ρ 2=VI t.1∧ρ 3=VI ((n:Int)-1-(t.1:Int))) (fun t=>n-t.1) (0,xs) ⟨Nat.zero_le _,(tF hr).symm,hn,fun k hk=>by rw[if_neg (by simp only;omega)],rfl,rfl,by show VI ((n:Int)-1)=VI ((n:Int)-1-((0:Nat):Int));rw[Int.natCast_zero,Int.sub_zero]⟩ ?_
 rintro⟨i,ys⟩ ρ K ⟨hi,rfl,hl,hy,g0,g2,g3⟩
 simp only at hi hl hy g2 g3
 have ZG:aF (H.set b (.row g (ys.map aO) 1 true)) b g=some (ys.map aO,1,true):=lF hr
 by_cases dK:(i:Int)<(n:Int)-1-(i:Int)
 ·have hj:(n:Int)-1-(i:Int)=((n-1-i:Nat):Int):=by omega
  obtain⟨x,hx⟩:∃x,ys[i]? = some x:=⟨_,List.getElem?_eq_getElem (by omega)⟩
  obtain⟨y,hyy⟩:∃y,ys[n-1-i]? = some y:=⟨_,List.getElem?_eq_getElem (by omega)⟩
  rw[hj] at g3 dK
  have a1:∀(zs:List (List UInt8)) (k:Nat),zs.length=n→k<n→bI 1 (.ref b g 0 n n) (VI (k:Int)) (H.set b (.row g (zs.map aO) 1 true))=some (.ptr b g k 0):=fun zs k h1 h2=>by rw[aQ (lF hr) h2,Nat.zero_add]
  have l1:cO false 1 (.ptr b g (n-1-i) 0) (H.set b (.row g (ys.map aO) 1 true))=some (aO y):=oX ZG hyy
  have l2:cO false 1 (.ptr b g i 0) (H.set b (.row g (ys.map aO) 1 true))=some (aO x):=oX ZG hx
  have s1:bY lo 1 (.ptr b g i 0) (aO y) (H.set b (.row g (ys.map aO) 1 true))=some (H.set b (.row g ((ys.set i y).map aO) 1 true)):=by rw[dO (f:=aO) (e:=1) ZG (by omega) eJ rfl rfl,kJ]
  have s2:bY lo 1 (.ptr b g (n-1-i) 0) (aO x) (H.set b (.row g ((ys.set i y).map aO) 1 true))=some (H.set b (.row g (((ys.set i y).set (n-1-i) x).map aO) 1 true)):=by rw[dO (f:=aO) (e:=1) (lF hr) (by rw[List.length_set];omega) eJ rfl rfl,kJ]
  have w1:IntKind.i64.wrap ((i:Int)+1)=((i+1:Nat):Int):=wrapN _ (by omega) (by omega)
  have w2:IntKind.i64.wrap (((n-1-i:Nat):Int)-1)=(n:Int)-1-((i+1:Nat):Int):=by rw[wrap64 (by omega) (by omega)];omega
  have b1:=a1 ys i hl (by omega)
  have b2:=a1 ys (n-1-i) hl (by omega)
  have b3:=a1 (ys.set i y) (n-1-i) (by rw[List.length_set];exact hl) (by omega)
  simp only[eU,g0,g2,g3,dK,b1,b2,b3,l1,l2,s1,s2,w1,w2,VX,Nat.reduceEqDiff,Nat.reduceAdd]
  refine⟨(i+1,(ys.set i y).set (n-1-i) x),by simp only;omega,by simp only;omega,rfl,by simp only[List.length_set];exact hl,fun k hk => ?_,by (repeat' apply And.intro)<;>first | rfl | trivial⟩
  simp only
  have hxx:=hy i (by omega)
  rw[if_neg (by omega),hx] at hxx
  have hyx:=hy (n-1-i) (by omega)
  rw[if_neg (by omega),hyy] at hyx
  rw[List.getElem?_set,List.getElem?_set,List.length_set]
  by_cases h1:n-1-i=k
  ·subst h1
   rw[if_pos rfl,if_pos (by omega),if_pos (by omega),show n-1-(n-1-i)=i by omega]
   exact hxx
  ·rw[if_neg h1]
   by_cases h2:i=k
   ·subst h2
    rw[if_pos rfl,if_pos (by omega),if_pos (by omega)]
    exact hyx
   ·rw[if_neg h2,hy k hk]
    by_cases h3:k<i∨n≤k+i
    ·rw[if_pos h3,if_pos (by omega)]
    ·rw[if_neg h3,if_neg (by omega)]
 ·have apN:ys=xs.reverse:=by
   apply List.ext_getElem?
   intro k
   rcases Nat.lt_or_ge k n with h | h
   ·rw[hy k h,List.getElem?_reverse (by omega),hn]
    split
    ·rfl
    ·rw[show n-1-k=k by omega]
   ·rw[List.getElem?_eq_none (by omega),List.getElem?_eq_none (by rw[List.length_reverse];omega)]
  subst apN
  simp only[eU,g0,g2,g3,dK,VX,Nat.reduceEqDiff,Nat.reduceAdd]
  try exact⟨rfl,rfl⟩
theorem TY (n:Nat):(aC 1000000000 n).length≤2*(aC 4294967296 n).length:=by
 refine mM (by decide) ?_
 have h1:=iE (b:=4294967296) (by decide) n
 have h2:4294967296^(aC 4294967296 n).length≤(1000000000^2)^(aC 4294967296 n).length:=Nat.pow_le_pow_left (by decide) _
 rw[←Nat.pow_mul] at h2
 omega
theorem YU {n:Nat} (hn:n≠0):(decDigits n).length≤9*(aC 1000000000 n).length:=by
 have h1:=iE (b:=1000000000) (by decide) n
 have h3:(aC 1000000000 n)≠[]:=fun h=>hn ((kD (by decide)).1 h)
 have h4:=List.length_pos_iff.2 h3
 generalize (aC 1000000000 n).length=L at *
 obtain⟨k,hk⟩:∃k,9*L=k+1:=⟨9*L-1,by omega⟩
 have h5:(1000000000:Nat)^L=10^(9*L):=by rw[show (1000000000:Nat)=10^9 by decide,←Nat.pow_mul]
 rw[h5,hk] at h1
 rw[hk]
 exact tX n k h1
def kG (q:Nat):List UInt8:=if q=0 then [] else decDigits q
theorem AJ (n:Nat) (hn:(aC 4294967296 n).length≤68719476736):TC 102 [bX n] (aO (decDigits n)):=by
 refine TC.walk ⟨true,false⟩ EY rfl (Nat.le_of_ble_eq_true rfl) (by simp[aP,bO]) rfl ?_
 by_cases h0:n=0
 ·subst h0
  have hl:(((aC 4294967296 0).length:Nat):Int)=0:=by rw[bQ];rfl
  simp only[rW,pB,fQ,hl,VX,Nat.reduceEqDiff,Nat.reduceAdd]
  rw[gN (by decide)]
  exact aI rfl
 have hl:¬(((aC 4294967296 n).length:Nat):Int)=0:=by have:=wI.2 h0;omega
 have e1:∀lr,jM lr [.string ⟨#[]⟩] 0 [] []=some (.ref 0 0 0 0 0,[.row 0 (([]:List (List UInt8)).map aO) 1 true]):=fun lr=>iN (H:=[]) (lr:=lr) (z:=[.string ⟨#[]⟩]) rfl
 have hTn:=TY n
 have hdl:=YU h0
 simp only[rW,pB,fQ,hl,e1,VX,Nat.reduceEqDiff,Nat.reduceAdd]
 refine aR (fun(t:Nat×List (List UInt8)) ρ H=>H=[.row t.2.length (t.2.map aO) 1 true]∧t.1≤n∧t.2.length+(aC 1000000000 t.1).length=(aC 1000000000 n).length∧decDigits n=kG t.1++t.2.reverse.flatten∧ρ 0=bX t.1∧ρ 3 = .ref 0 t.2.length 0 t.2.length t.2.length) (fun t=>t.1) (n,[]) ⟨rfl,Nat.le_refl _,by simp,by simp[kG,h0],rfl,rfl⟩ ?_
 rintro⟨q,ps⟩ ρ H ⟨rfl,hq,hlen,Un,g0,g3⟩
 simp only at hq hlen Un g0 g3
 by_cases M8:q=0
 ·subst M8
  have hz:¬(0:Int)<((aC 4294967296 0).length:Int):=by rw[wI];omega
  rw[kG,if_pos rfl,List.nil_append] at Un
  have hr:aF [.row ps.length (ps.map aO) 1 true] 0 ps.length=some (ps.map aO,1,true):=aT
  simp only[kO,g0,g3,fQ,hz,VX,Nat.reduceEqDiff,Nat.reduceAdd]
  refine eB rfl ((Tw hr rfl (Nat.le_refl _) (by omega)).mono ?_)
  rintro r H' ⟨rfl,rfl⟩
  have F0:([.row ps.length (ps.map aO) 1 true]:aA).set 0 (.row ps.length (ps.reverse.map aO) 1 true)=[.row ps.length (ps.reverse.map aO) 1 true]:=rfl
  have ZG:aF [.row ps.length (ps.reverse.map aO) 1 true] 0 ps.length=some (ps.reverse.map aO,1,true):=aT
  have hfl:ps.reverse.flatten.length≤140737488355328:=by rw[←Un];omega
  have cj:=(acS ps.reverse (by rw[List.length_reverse];omega) hfl).flat (H:=[.row ps.length (ps.reverse.map aO) 1 true]) (args:=[.ref 0 ps.length 0 ps.length ps.length,aO []]) rfl (by simp only[aP,lG (f:=aO) Zd (fun _=>rfl),Bool.and_true];rfl) (fz2 (Jo ZG (by simp) (Nat.le_refl _) (eX fun _=>rfl)) (aI rfl)) rfl
  simp only[F0,g3,cj,VX,Nat.reduceEqDiff,Nat.reduceAdd]
  rw[←Un]
  exact aI rfl
 ·have hz:(0:Int)<((aC 4294967296 q).length:Int):=wI.2 M8
  have hql:=fG (b:=4294967296) (by decide) hq
  have c1:TC 183 [bX q,.sc (.int .u32 1000000000)] (.dQ [bX (q / 1000000000),uV (q % 1000000000)]):=sR q 1000000000 (by decide) (by decide) (by omega)
  have hm:=Nat.mod_lt q (show 0<1000000000 by decide)
  have c2:=abT (q % 1000000000) (by omega)
  have wm:IntKind.u64.wrap ((q % 1000000000:Nat):Int)=((q % 1000000000:Nat):Int):=dP _ (by omega)
  have hdq:=hC (b:=1000000000) (by decide) M8
  have avX:(aC 1000000000 q).length=(aC 1000000000 (q / 1000000000)).length+1:=by rw[hdq];rfl
  have Um:=tX (q % 1000000000) 8 hm
  have hqq:=Nat.mod_add_div q 1000000000
  have e2:∀x:List UInt8,jM false [.string ⟨#[]⟩] 1 [(0,aO x)] [.row ps.length (ps.map aO) 1 true]=some (.tree [aO x] (.cl 1),[.row ps.length (ps.map aO) 1 true]):=fun x=>eW (z:=[.string ⟨#[]⟩]) rfl rfl rfl
  have e3:∀x:List UInt8,cM 1 (.tree [aO x] (.cl 1)) [.row ps.length (ps.map aO) 1 true]=some [aO x]:=fun x=>eG rfl rfl
  have e4:∀x:List UInt8,eH 0 1 16 (.ref 0 ps.length 0 ps.length ps.length) [aO x] [.row ps.length (ps.map aO) 1 true]=some (.ref 0 (ps.length+1) 0 (ps.length+1) (ps.length+1),[.row (ps.length+1) ((ps++[x]).map aO) 1 true]):=fun x=>by
   rw[iF (f:=aO) (x:=x) aT rfl (Nat.le_refl _) (by decide) (by decide) (by omega)]
   rfl
  have hle:q / 1000000000<q:=Nat.div_lt_self (by omega) (by decide)
  by_cases hqz:q / 1000000000=0
  ·have PK:¬(0:Int)<((aC 4294967296 (q / 1000000000)).length:Int):=by rw[wI];omega
   simp only[kO,g0,g3,fQ,hz,c1,c2,wm,PK,e2,e3,e4,VX,Nat.reduceEqDiff,Nat.reduceAdd]
   refine⟨(q / 1000000000,ps++[decDigits (q % 1000000000)]),hle,by simp,by simp only;omega,by simp only[List.length_append,List.length_singleton];omega,?_,rfl,by simp⟩
   rw[Un,kG,if_neg M8,kG,if_pos hqz,List.reverse_append,List.nil_append,List.reverse_singleton,List.singleton_append,List.flatten_cons,show q % 1000000000=q by omega]
  ·have PK:(0:Int)<((aC 4294967296 (q / 1000000000)).length:Int):=wI.2 hqz
   have ws:IntKind.i64.wrap ((9:Int)-((decDigits (q % 1000000000)).length:Int))=((9-(decDigits (q % 1000000000)).length:Nat):Int):=wrapN _ (by omega) (by omega)
   have c3:=WH [48] (9-(decDigits (q % 1000000000)).length) (by simp;omega) (by omega)
   have Yv:repeatL [48] (9-(decDigits (q % 1000000000)).length)++decDigits (q % 1000000000)=AZ 9 (q % 1000000000):=by
    rw[acM 8 _ hm]
    congr 1
    have:=repeatL_replicate 48 1 (9-(decDigits (q % 1000000000)).length)
    rw[Nat.mul_one] at this
    exact this
   have c4:=oB (repeatL [48] (9-(decDigits (q % 1000000000)).length)) (decDigits (q % 1000000000)) (by rw[←List.length_append,Yv,Zg];decide)
   rw[Yv] at c4
   simp only[kO,g0,g3,fQ,hz,c1,c2,wm,PK,bC,ws,c3,c4,e2,e3,e4,VX,Nat.reduceEqDiff,Nat.reduceAdd]
   refine⟨(q / 1000000000,ps++[AZ 9 (q % 1000000000)]),hle,by simp,by simp only;omega,by simp only[List.length_append,List.length_singleton];omega,?_,rfl,by simp⟩
   rw[Un,kG,if_neg M8,kG,if_neg hqz,List.reverse_append,List.reverse_singleton,List.singleton_append,List.flatten_cons,←List.append_assoc,←FZ (by omega) hm]
   congr 2
   omega
end Go.PM
namespace Go.PM
open Go.Lib
def bD (q:Rat):VV := .agg [VB (decide (q.num<0)),bX q.num.natAbs,bX q.den]
theorem lI (q:Rat):aN (bD q)=true:=by simp[bD,aN,aP,bO,jR]
theorem Ed (q:Rat):fY (bD q)=true:=by simp[bD,fY,oJ,pX,jR]
theorem RW {q:Rat} {neg:Bool} {t b:Nat} (h0:q.num<0↔neg=true) (h1:q.num.natAbs=t) (h2:q.den=b):bD q = .agg [VB neg,bX t,bX b]:=by
 subst h1 h2
 unfold bD
 congr 4
 cases neg<;>simp_all
theorem cW (n:Nat):bA (bX n)=true:=rfl
theorem cV (n:Nat):isAny (bX n)=false:=rfl
theorem cI (n:Nat):aB (bX n)=[bX n]:=rfl
theorem tJ (q:Rat):isAny (bD q)=false:=rfl
theorem aL (q:Rat):aB (bD q)=[VB (decide (q.num<0)),bX q.num.natAbs,bX q.den]:=rfl
theorem vX (q:Rat):dN true 3 (bD q) 0=some (bD q):=rfl
theorem DW (q:Rat):dN false 1 (bD q) 0=some (VB (decide (q.num<0))):=rfl
theorem Ee (q:Rat):dN false 1 (bD q) 1=some (bX q.num.natAbs):=rfl
theorem Sl (q:Rat):dN false 1 (bD q) 2=some (bX q.den):=rfl
theorem qC {d:Nat} {H:aA} {u u' v v' w w':VV} (h1:fz (d+1) H u=some u') (h2:fz (d+1) H v=some v') (h3:fz (d+1) H w=some w'):fz (d+2) H (.agg [u,v,w])=some (.agg [u',v',w']):=by
 have e:fz (d+2) H (.agg [u,v,w])=if aN (.agg [u,v,w])=true then some (.agg [u,v,w]) else ([u,v,w].mapM (fz (d+1) H)).map .agg:=rfl
 rw[e]
 by_cases hp:aN (.agg [u,v,w])=true
 ·rw[if_pos hp]
  simp only[aN,aP,Bool.and_eq_true,and_true] at hp
  rw[aH hp.1] at h1
  rw[aH hp.2.1] at h2
  rw[aH hp.2.2] at h3
  cases h1
  cases h2
  cases h3
  rfl
 ·rw[if_neg hp,List.mapM_cons,h1,List.mapM_cons,h2,List.mapM_cons,h3]
  rfl
theorem aaE {d:Nat} {H:aA} {v:Value} (h:jR v=true):fz (d+1) H (.sc v)=some (.sc v):=aH h
theorem WQ {H:aA} {neg:Bool} {t b:Nat}:fz depth H (.agg [VB neg,bX t,bX b])=some (.agg [VB neg,bX t,bX b]):=aI (by simp[aN,aP,bO,jR])
theorem ahY {n:Nat} (h:bl n≤2199023255552):(aC 4294967296 n).length≤68719476736:=by
 have:=aaR n
 omega
theorem CO {n:Nat} (h:bl n≤4398046511104):(aC 4294967296 n).length≤17592186044416:=by
 have:=aaR n
 omega
theorem TZ {n:Int} (h0 : -9223372036854775808≤n) (h:n<0):IntKind.u64.wrap (0-IntKind.u64.wrap n)=(n.natAbs:Int):=by
 rw[wrap_u64,wrap_u64]
 omega
theorem Fy (n:Int) (h0 : -9223372036854775808≤n) (h1:n≤9223372036854775807):TC 107 [VI n] (VK .u64 (n.natAbs:Int)):=by
 refine TC.walk ⟨true,false⟩ Ff rfl (Nat.le_of_ble_eq_true rfl) rfl rfl ?_
 by_cases h:n<0
 ·simp only[vC,qU,h,TZ h0 h,VX,Nat.reduceEqDiff,Nat.reduceAdd]
  exact aI rfl
 ·have w:IntKind.u64.wrap n=(n.natAbs:Int):=by rw[wrap_u64];omega
  simp only[vC,qU,h,w,VX,Nat.reduceEqDiff,Nat.reduceAdd]
  exact aI rfl
theorem VP (n:Int):bD (n:Rat) = .agg [VB (decide (n<0)),bX n.natAbs,bX 1]:=RW (by simp) (by simp) (by simp)
theorem Af (n:Int) (h0 : -9223372036854775808≤n) (h1:n≤9223372036854775807):TC 97 [VI n] (bD (n:Rat)):=by
 refine TC.walk ⟨true,false⟩ MN rfl (Nat.le_of_ble_eq_true rfl) rfl (Ed _) ?_
 have c1:=Fy n h0 h1
 have c2:=mV n.natAbs (by omega)
 have c3:TC 101 [.sc (.int .u64 1)] (bX 1):=mV 1 (by decide)
 rw[VP]
 simp only[Jj,D7,c1,c2,c3,cW,cV,cI,qF,Nat.reduceLeDiff,Nat.reduceLT,Nat.reduceSub,VX,Nat.reduceEqDiff,Nat.reduceAdd]
 exact WQ
theorem SJ {q:Rat}:(((aC 4294967296 q.num.natAbs).length:Nat):Int)=0↔q.num=0:=by
 have:=wI (n:=q.num.natAbs)
 omega
theorem G9 (q:Rat):TC 104 [bD q] (VI (CF q)):=by
 refine TC.walk ⟨true,false⟩ ED rfl (Nat.le_of_ble_eq_true rfl) (by simp[aP,lI]) rfl ?_
 unfold CF
 by_cases h0:q.num=0
 ·have hl:=SJ.2 h0
  rw[if_pos h0]
  simp only[oE,lQ,fQ,hl,aL,DW,Ee,cW,cV,cI,qF,Nat.reduceLeDiff,Nat.reduceLT,Nat.reduceSub,VX,Nat.reduceEqDiff,Nat.reduceAdd]
  exact aI rfl
 ·have hl:¬(((aC 4294967296 q.num.natAbs).length:Nat):Int)=0:=fun h=>h0 (SJ.1 h)
  rw[if_neg h0]
  by_cases h1:q.num<0
  ·simp only[oE,lQ,fQ,hl,h1,aL,DW,Ee,cW,cV,cI,qF,Nat.reduceLeDiff,Nat.reduceLT,Nat.reduceSub,VX,Nat.reduceEqDiff,Nat.reduceAdd]
   exact aI rfl
  ·simp only[oE,lQ,fQ,hl,h1,aL,DW,Ee,cW,cV,cI,qF,Nat.reduceLeDiff,Nat.reduceLT,Nat.reduceSub,VX,Nat.reduceEqDiff,Nat.reduceAdd]
   exact aI rfl
end Go.PM
namespace Go.PM
open Go.Lib
theorem Rz {q:Rat} {k:Nat} (h:fK q≤k):bl q.num.natAbs≤k:=Nat.le_trans Ut h
theorem P0 {q:Rat} {k:Nat} (h:fK q≤k):bl q.den≤k:=Nat.le_trans Uk h
end Go.PM
namespace Go.PM
theorem Ek {n:Nat}:(0:Int)<((aC 1000000000 n).length:Int)↔n≠0:=by
 constructor
 ·intro h h0
  subst h0
  rw[bQ] at h
  simp at h
 ·intro h
  have:=(kD (b:=1000000000) (by decide) (n:=n))
  have h2:aC 1000000000 n≠[]:=fun hx=>h (this.1 hx)
  have:=List.length_pos_iff.2 h2
  omega
theorem UG {n:Nat} (h:bl n≤4398046511104):(aC 1000000000 n).length<17592186044416:=by
 have:=abE n
 omega
theorem Kg (a b:Nat) (ha:(aC 1000000000 a).length<17592186044416) (hb:(aC 1000000000 b).length<17592186044416):TC 213 [cJ a,cJ b] (cJ (Nat.gcd a b)):=by
 refine TC.walk ⟨true,false⟩ JU rfl (Nat.le_of_ble_eq_true rfl) (by simp[aP,cS]) (pY _) ?_
 simp only[Gq,C1,VX,Nat.reduceEqDiff,Nat.reduceAdd]
 refine aR (fun(t:Nat×Nat) ρ H=>H=[]∧Nat.gcd t.1 t.2=Nat.gcd a b∧(aC 1000000000 t.1).length<17592186044416∧(aC 1000000000 t.2).length<17592186044416∧ρ 0=cJ t.1∧ρ 1=cJ t.2) (fun t=>t.2) (a,b) ⟨rfl,rfl,ha,hb,rfl,rfl⟩ ?_
 rintro⟨x,y⟩ ρ H ⟨rfl,hg,hx,hy,g0,g1⟩
 simp only at hg hx hy g0 g1
 by_cases ZQ:y=0
 ·subst ZQ
  have hl:¬(0:Int)<((aC 1000000000 0).length:Int):=by rw[Ek];omega
  rw[Nat.gcd_zero_right] at hg
  simp only[vI,g0,g1,eQ,hl,VX,Nat.reduceEqDiff,Nat.reduceAdd]
  rw[hg]
  exact aI (cS _)
 ·have hl:(0:Int)<((aC 1000000000 y).length:Int):=Ek.2 ZQ
  have c3:=FX x y ZQ hx hy
  have hm:=Nat.mod_lt x (show 0<y by omega)
  simp only[vI,g0,g1,eQ,hl,c3,VX,Nat.reduceEqDiff,Nat.reduceAdd]
  refine⟨(y,x % y),hm,?_,hy,?_,rfl,rfl⟩
  ·simp only
   rw[←hg,Nat.gcd_comm x y,Nat.gcd_rec y x,Nat.gcd_comm]
  ·simp only
   have:=fG (b:=1000000000) (by decide) (Nat.le_of_lt hm)
   omega
def bS (q:Rat):VV := .agg [VB (decide (q.num<0)),cJ q.num.natAbs,cJ q.den]
theorem tI (q:Rat):aN (bS q)=true:=by simp[bS,aN,aP,cS,jR]
theorem HO (q:Rat):fY (bS q)=true:=by simp[bS,fY,oJ,pY,jR]
theorem Sb {q:Rat} {neg:Bool} {t b:Nat} (h0:q.num<0↔neg=true) (h1:q.num.natAbs=t) (h2:q.den=b):bS q = .agg [VB neg,cJ t,cJ b]:=by
 subst h1 h2
 unfold bS
 congr 4
 cases neg<;>simp_all
theorem bF (n:Nat):bA (cJ n)=true:=rfl
theorem cG (n:Nat):isAny (cJ n)=false:=rfl
theorem bR (n:Nat):aB (cJ n)=[cJ n]:=rfl
theorem vR (q:Rat):isAny (bS q)=false:=rfl
theorem fS (q:Rat):aB (bS q)=[VB (decide (q.num<0)),cJ q.num.natAbs,cJ q.den]:=rfl
theorem nX (q:Rat):dN true 3 (bS q) 0=some (bS q):=rfl
theorem vH (q:Rat):dN false 1 (bS q) 0=some (VB (decide (q.num<0))):=rfl
theorem yV (q:Rat):dN false 1 (bS q) 1=some (cJ q.num.natAbs):=rfl
theorem xW (q:Rat):dN false 1 (bS q) 2=some (cJ q.den):=rfl
theorem S7 {H:aA} (q:Rat):fz depth H (bS q)=some (bS q):=aI (tI q)
theorem XD (n:Int):bS (n:Rat) = .agg [VB (decide (n<0)),cJ n.natAbs,cJ 1]:=Sb (by simp) (by simp) (by simp)
theorem Mc {n lo:Nat} {H:aA} {K:VV→aA→Prop} (h:(aC 1000000000 n).length≤17592186044416):cZ 178 [cJ n,.tree [VI 1] (.cl 1)] lo H K=K (VI (kZ n 1)) H:=by
 have c:=CB n 1 h (by rw[Bf (by decide) (by decide) (by decide)];simp)
 have e:cJ 1 = .tree [VI 1] .op:=by rw[cJ,Bf (by decide) (by decide) (by decide)];rfl
 rw[e] at c
 exact TC.args c rfl (by simp only[aP,cS];rfl) (fz2 (aI (cS n)) (Wm rfl)) (by simp only[List.flatMap_cons,List.flatMap_nil,Dr (cS n),Vp (es:=[VI 1]) rfl,List.append_nil]) lo K
theorem fU {d:Int} {H:aA}:jM false [.int .i64 0] 1 [(0,VI d)] H=some (.tree [VI d] (.cl 1),H):=Ej
theorem fA {e:Nat} {es:List VV}:bA (.tree es (.cl e))=true:=rfl
theorem dM {k:TK} {es:List VV}:aB (.tree es k)=[.tree es k]:=rfl
theorem eY {k:TK} {es:List VV}:isAny (.tree es k)=false:=rfl
theorem MI {d:Nat} {H:aA}:fz (d+2) H (.tree [VI 1] (.cl 1))=some (cJ 1):=by
 rw[V4]
 unfold fz
 have:aN (.tree [VI 1] (.cl 1))=false:=by simp[aN]
 simp only[this,Bool.false_eq_true,if_false]
 rfl
theorem CL (n:Int) (h0 : -9223372036854775808<n) (h1:n≤9223372036854775807):TC 166 [VI n] (bS (n:Rat)):=by
 refine TC.walk ⟨true,false⟩ J4 rfl (Nat.le_of_ble_eq_true rfl) rfl (HO _) ?_
 rw[XD]
 by_cases h:n<0
 ·have w:IntKind.i64.wrap (0-n)=(n.natAbs:Int):=wrapN _ (by omega) (by omega)
  have c1:TC 161 [VI (n.natAbs:Int)] (cJ n.natAbs):=nT (n.natAbs:Int) (by omega)
  rw[decide_eq_true h]
  simp only[Bb,xO,h,w,c1,fU,bF,cG,bR,fA,dM,eY,qF,Nat.reduceLeDiff,Nat.reduceLT,Nat.reduceSub,VX,Nat.reduceEqDiff,Nat.reduceAdd]
  exact qC (d:=6) (aaE rfl) (aH (cS _)) (MI (d:=5))
 ·have c1:TC 161 [VI n] (cJ n.natAbs):=by
   have:=nT n h1
   rwa [show n.toNat=n.natAbs by omega] at this
  rw[decide_eq_false h]
  simp only[Bb,xO,h,c1,fU,bF,cG,bR,fA,dM,eY,qF,Nat.reduceLeDiff,Nat.reduceLT,Nat.reduceSub,VX,Nat.reduceEqDiff,Nat.reduceAdd]
  exact qC (d:=6) (aaE rfl) (aH (cS _)) (MI (d:=5))
theorem J7:TC 124 [] (bS 1):=by
 refine TC.walk ⟨true,false⟩ Ke rfl (Nat.le_of_ble_eq_true rfl) rfl (HO _) ?_
 have c1:TC 166 [VI 1] (bS 1):=CL 1 (by decide) (by decide)
 simp only[Gk,C5,c1,fS,nX,vR,bF,qF,Nat.reduceLeDiff,Nat.reduceLT,Nat.reduceSub,VX,Nat.reduceEqDiff,Nat.reduceAdd]
 exact S7 _
theorem Bk:TC 136 [] (bS 0):=by
 refine TC.walk ⟨true,false⟩ Ip rfl (Nat.le_of_ble_eq_true rfl) rfl (HO _) ?_
 have c1:TC 166 [VI 0] (bS 0):=CL 0 (by decide) (by decide)
 simp only[Eg,Bo,c1,fS,nX,vR,bF,qF,Nat.reduceLeDiff,Nat.reduceLT,Nat.reduceSub,VX,Nat.reduceEqDiff,Nat.reduceAdd]
 exact S7 _
theorem Jf (q:Rat):TC 141 [bS q] (VB (decide (q=0))):=by
 refine TC.walk ⟨true,false⟩ HI rfl (Nat.le_of_ble_eq_true rfl) (by simp[aP,tI]) rfl ?_
 by_cases h0:q=0
 ·have hl:(((aC 1000000000 q.num.natAbs).length:Nat):Int)=0:=by rw[h0];simp[bQ]
  simp only[Ak,uG,eQ,hl,fS,vH,yV,xW,bF,cG,bR,qF,Nat.reduceLeDiff,Nat.reduceLT,Nat.reduceSub,VX,Nat.reduceEqDiff,Nat.reduceAdd]
  rw[decide_eq_true h0]
  exact aI rfl
 ·have hn:q.num≠0:=fun h=>h0 (Rat.num_eq_zero.1 h)
  have hl:¬(((aC 1000000000 q.num.natAbs).length:Nat):Int)=0:=by have := @Ek q.num.natAbs;omega
  simp only[Ak,uG,eQ,hl,fS,vH,yV,xW,bF,cG,bR,qF,Nat.reduceLeDiff,Nat.reduceLT,Nat.reduceSub,VX,Nat.reduceEqDiff,Nat.reduceAdd]
  rw[decide_eq_false h0]
  exact aI rfl
theorem JZ (q:Rat):TC 232 [bS q] (VB (decide (q.num<0))):=by
 refine TC.walk ⟨true,false⟩ JT rfl (Nat.le_of_ble_eq_true rfl) (by simp[aP,tI]) rfl ?_
 simp only[Gc,CR,fS,vH,bF,qF,Nat.reduceLeDiff,Nat.reduceLT,Nat.reduceSub,VX,Nat.reduceEqDiff,Nat.reduceAdd]
 exact aI rfl
end Go.PM
namespace Go.PM
open Go.Lib
theorem Zw {m n:Nat} (h:decDigits m=decDigits n):m=n:=by
 have key:∀k m n:Nat,m<10^(k+1)→decDigits m=decDigits n→m=n:=by
  intro k
  induction k with
  |
   zero =>
   intro m n hm h
   rw[gN (by omega)] at h
   by_cases hn:n<10
   ·rw[gN hn] at h
    have h1:=List.singleton_inj.1 h
    unfold d10 at h1
    have:=congrArg UInt8.toNat h1
    simp at this
    omega
   ·rw[wF hn] at h
    have:=congrArg List.length h
    have h2:=List.length_pos_iff.2 (L6 (n / 10))
    simp only[List.length_append,List.length_cons,List.length_nil] at this
    omega
  |
   succ k ih =>
   intro m n hm h
   by_cases h1:m<10
   ·rw[gN h1] at h
    by_cases hn:n<10
    ·rw[gN hn] at h
     have h1:=List.singleton_inj.1 h
     unfold d10 at h1
     have:=congrArg UInt8.toNat h1
     simp at this
     omega
    ·rw[wF hn] at h
     have:=congrArg List.length h
     have h2:=List.length_pos_iff.2 (L6 (n / 10))
     simp only[List.length_append,List.length_cons,List.length_nil] at this
     omega
   ·rw[wF h1] at h
    by_cases hn:n<10
    ·rw[gN hn] at h
     have:=congrArg List.length h
     have h2:=List.length_pos_iff.2 (L6 (m / 10))
     simp only[List.length_append,List.length_cons,List.length_nil] at this
     omega
    ·rw[wF hn] at h
     obtain⟨h2,h3⟩:=List.append_inj' h rfl
     have h4:=ih (m / 10) (n / 10) (by rw[Nat.pow_succ] at hm;omega) h2
     have h5:=List.singleton_inj.1 h3
     unfold d10 at h5
     have:=congrArg UInt8.toNat h5
     simp at this
     omega
 exact key m m n (Nat.lt_trans (Nat.lt_pow_self (by decide)) (Nat.pow_lt_pow_right (by decide) (Nat.lt_succ_self m))) h
def CE (q:Rat):List UInt8:=(if q.num<0 then [45] else [])++decDigits q.num.natAbs++(if q.den=1 then [] else 47::decDigits q.den)
def sS (q:Rat):Bool:=decide ((decDigits q.num.natAbs).length≤200)&&decide ((decDigits q.den).length≤200)
theorem xT (n:Nat):(decDigits n).length≤bl n+1:=by
 by_cases h:n=0
 ·subst h;rw[gN (by decide)];simp
 ·have h1:=adH h
  obtain⟨k,hk⟩:∃k,bl n=k+1:=⟨bl n-1,by omega⟩
  have h2:=N9 n
  rw[hk] at h2 ⊢
  have h3:2^(k+1)≤10^(k+1):=Nat.pow_le_pow_left (by decide) _
  have:=tX n k (by omega)
  omega
end Go.PM
namespace Go.PM
open Go.Lib
theorem LP (a b:List UInt8):dB .neq (.string ⟨a.toArray⟩) (.string ⟨b.toArray⟩)=some (.bool (!decide (a=b))):=by
 have h:∀l:List UInt8,(ByteArray.toList ⟨l.toArray⟩)=l:=fun l=>by rw[ByteArray.toList_eq]
 show some (Value.bool (!(ByteArray.toList ⟨a.toArray⟩ == ByteArray.toList ⟨b.toArray⟩)))=_
 rw[h,h]
 congr 3
 cases h2:a == b
 ·rw[decide_eq_false (by simpa using h2)]
 ·rw[decide_eq_true (by simpa using h2)]
theorem Sh (a b:List UInt8):dB .eql (.string ⟨a.toArray⟩) (.string ⟨b.toArray⟩)=some (.bool (decide (a=b))):=by
 have h:∀l:List UInt8,(ByteArray.toList ⟨l.toArray⟩)=l:=fun l=>by rw[ByteArray.toList_eq]
 show some (Value.bool (ByteArray.toList ⟨a.toArray⟩ == ByteArray.toList ⟨b.toArray⟩))=_
 rw[h,h]
 congr 2
 cases h2:a == b
 ·rw[decide_eq_false (by simpa using h2)]
 ·rw[decide_eq_true (by simpa using h2)]
theorem I3 {n:Nat}:(decDigits n=[49])↔n=1:=by
 have e:decDigits 1=[49]:=by rw[gN (by decide)];rfl
 rw[←e]
 exact⟨Zw,fun h=>by rw[h]⟩
theorem Hl (q:Rat) (hk:fK q≤1099511627776):TC 172 [bD q] (.dQ [aO (CE q),VB (sS q)]):=by
 refine TC.walk ⟨true,false⟩ Ef rfl (Nat.le_of_ble_eq_true rfl) (by simp[aP,lI]) rfl ?_
 have la:=Rz hk
 have lb:=P0 hk
 have t1:=AJ q.num.natAbs (ahY (by omega))
 have t2:=AJ q.den (ahY (by omega))
 have d1:=xT q.num.natAbs
 have d2:=xT q.den
 have a1:dB .add (.string ⟨#[45]⟩) (.string ⟨(decDigits q.num.natAbs).toArray⟩)=some (.string ⟨(45::decDigits q.num.natAbs).toArray⟩):=oB [45] _ (by simp only[List.length_cons,List.length_nil];omega)
 have a2:dB .add (.string ⟨#[47]⟩) (.string ⟨(decDigits q.den).toArray⟩)=some (.string ⟨(47::decDigits q.den).toArray⟩):=oB [47] (decDigits q.den) (by simp only[List.length_cons,List.length_nil];omega)
 have a3:=oB (45::decDigits q.num.natAbs) (47::decDigits q.den) (by simp only[List.length_cons];omega)
 have a4:=oB (decDigits q.num.natAbs) (47::decDigits q.den) (by simp only[List.length_cons];omega)
 have ne:dB .neq (.string ⟨(decDigits q.den).toArray⟩) (.string ⟨#[49]⟩)=_:=LP (decDigits q.den) [49]
 have hf:sS q=(decide (((decDigits q.num.natAbs).length:Int)≤200)&&decide (((decDigits q.den).length:Int)≤200)):=by
  unfold sS
  congr 1<;>exact decide_eq_decide.2 (by omega)
 rw[hf]
 have hs:CE q=(if q.num<0 then (45::decDigits q.num.natAbs) else decDigits q.num.natAbs)++(if q.den=1 then [] else 47::decDigits q.den):=by
  unfold CE
  by_cases hn:q.num<0
  ·rw[if_pos hn,if_pos hn];rfl
  ·rw[if_neg hn,if_neg hn];rfl
 rw[hs]
 by_cases hd:q.den=1
 ·rw[decide_eq_true (I3.2 hd)] at ne
  rw[if_pos hd,List.append_nil]
  by_cases hn:q.num<0<;>by_cases hl:((decDigits q.num.natAbs).length:Int)≤200
  all_goals
   simp only[sB,pL,t1,t2,a1,a2,a3,a4,ne,hn,hl,bC,aL,vX,DW,Ee,Sl,tJ,cW,cV,cI,qF,Nat.reduceLeDiff,Nat.reduceLT,Nat.reduceSub,VX,Nat.reduceEqDiff,Nat.reduceAdd]
   exact aI rfl
 ·rw[decide_eq_false (mt I3.1 hd)] at ne
  rw[if_neg hd]
  by_cases hn:q.num<0<;>by_cases hl:((decDigits q.num.natAbs).length:Int)≤200
  all_goals
   simp only[sB,pL,t1,t2,a1,a2,a3,a4,ne,hn,hl,bC,aL,vX,DW,Ee,Sl,tJ,cW,cV,cI,qF,Nat.reduceLeDiff,Nat.reduceLT,Nat.reduceSub,VX,Nat.reduceEqDiff,Nat.reduceAdd]
   exact aI rfl
def Pn (q:Rat):VV:=if sS q=true then .dQ [aO (CE q),VB true] else .dQ [aO [],VB false]
theorem T3 (q:Rat):fY (Pn q)=true:=by unfold Pn;split<;>rfl
end Go.PM
namespace Go.PM
open Go.Lib
abbrev bV (b:UInt8):VV := .sc (.int .u8 (b.toNat:Int))
theorem IV:∀bs:List UInt8,F6 (bs.map bV)=some bs
 | []=>rfl
 |
  b::bs=>by
  rw[List.map_cons]
  show (F6 (bs.map bV)).map (UInt8.ofNat ((b.toNat:Int)).toNat :: ·)=_
  rw[IV bs]
  simp
structure Dk (v:VV) (H:aA) (bs:List UInt8):Prop where
 len:nP v H=some (VI bs.length)
 src:cM 1 v H=some (bs.map bV)
 nsc:∀x,v ≠ .sc x
theorem Dk.str {v:VV} {H:aA} {bs:List UInt8} (h:Dk v H bs) {fl:Fl} {lo:Nat} {x:Operand} {ρ:dJ} (hx:dU ρ x=v):vop fl lo (.b2s x) ρ H=some (aO bs,H):=by
 have h1:=h.nsc
 have h2:=h.src
 unfold vop
 dsimp only
 rw[hx]
 cases v with
 | sc x=>exact absurd rfl (h1 x)
 | _=>simp only[h2,IV,Option.map_some]
theorem TX {bs:List UInt8} {k:TK} {H:aA}:cM 1 (.tree (bs.map bV) k) H=some (bs.map bV):=by
 have:((bs.map bV).all fun x=>(aB x).length == 1&&(aB x).all bA)=true:=by
  rw[List.all_eq_true]
  intro x hx
  obtain⟨d,_,rfl⟩:=List.mem_map.1 hx
  rfl
 simp only[cM,this,if_true]
theorem Dk.tree {bs:List UInt8} {k:TK} {H:aA}:Dk (.tree (bs.map bV) k) H bs:=⟨fI,TX,fun x=>by simp⟩
theorem Dk.row {bs:List UInt8} {H:aA} {b g:Nat} {w:Bool} (h:aF H b g=some (bs.map bV,1,w)):Dk (.ref b g 0 bs.length bs.length) H bs:=by
 refine⟨eZ h,?_,fun x=>by simp⟩
 have mT:(((bs.map bV).drop 0).take bs.length).all (fun x=>(aB x).all bA)=true:=by
  rw[List.all_eq_true]
  intro x hx
  obtain⟨d,_,rfl⟩:=List.mem_map.1 (List.mem_of_mem_drop (List.mem_of_mem_take hx))
  rfl
 simp only[cM,h]
 rw[if_pos ⟨trivial,by simp,mT⟩,List.drop_zero,List.take_of_length_le (by simp)]
theorem Dk.cons {v:VV} {H:aA} {bs:List UInt8} (h:Dk v H bs) (x:UInt8) (hl:bs.length≤1000000) (lo:Nat):∃v' H',eH lo 1 1 (.tree [bV x] (.cl 1)) (bs.map bV) H=some (v',H')∧Dk v' H' (x::bs):=by
 by_cases hb:bs=[]
 ·subst hb
  exact⟨_,_,rfl,Dk.tree (bs:=[x])⟩
 ·have eT:bs.length≠0:=fun h=>hb (List.length_eq_zero_iff.1 h)
  refine⟨.ref H.length 0 0 (x::bs).length (x::bs).length,H++[.row 0 ((x::bs).map bV) 1 true],?_,Dk.row (W9 rfl)⟩
  simp only[eH,List.length_map]
  rw[if_pos ⟨by decide,by decide⟩,if_pos trivial,if_neg eT,if_pos (by simp;omega)]
  simp[Nat.add_comm]
theorem Ox (r:Int):dB .rem (.int .i64 r) (.int .i64 10)=some (.int .i64 (r.tmod 10)):=rfl
theorem aaS (r:Int) (h0 : -9223372036854775808≤r) (h1:r≤9223372036854775807):dB .quo (.int .i64 r) (.int .i64 10)=some (.int .i64 (r.tdiv 10)):=by
 show some (Value.int .i64 (IntKind.i64.wrap (r.tdiv 10)))=_
 have h2:(r.tdiv 10).natAbs=r.natAbs / 10:=by rw[Int.natAbs_tdiv];rfl
 rw[wrap64 (by omega) (by omega)]
theorem KO {d:Nat} (h:d<10):(d10 d).toNat=48+d:=by
 unfold d10
 simp
 omega
theorem Fh {n r:Nat} {bs:List UInt8} (h:decDigits n=decDigits r++bs):decDigits n=kG (r / 10)++d10 (r % 10)::bs:=by
 rw[h]
 by_cases hr:r<10
 ·rw[gN hr,kG,if_pos (by omega),Nat.mod_eq_of_lt hr];rfl
 ·rw[wF hr,kG,if_neg (by omega),List.append_assoc];rfl
theorem J1 (n:Int) (h0 : -9223372036854775808≤n) (h1:n≤9223372036854775807):TC 235 [VI n] (aO ((if n<0 then [45] else [])++decDigits n.natAbs)):=by
 refine TC.walk ⟨true,false⟩ Kc rfl (Nat.le_of_ble_eq_true rfl) rfl rfl ?_
 have e0:∀lr,jM lr [.int .u8 0] 0 [] []=some (.ref 0 0 0 0 0,[.row 0 (([]:List UInt8).map bV) 1 true]):=fun lr=>iN (H:=[]) rfl
 have e1:∀(x:UInt8) (H:aA),jM false [.int .u8 0] 1 [(0,bV x)] H=some (.tree [bV x] (.cl 1),H):=fun x H=>eW rfl rfl rfl
 have hdl:=tX n.natAbs 19 (by omega)
 simp only[Gv,CH,e0,VX,Nat.reduceEqDiff,Nat.reduceAdd]
 refine aR (fun(s:Int×List UInt8) ρ H => -9223372036854775808≤s.1∧s.1≤9223372036854775807∧(s.2=[]→s.1=n)∧(s.2≠[]→decDigits n.natAbs=kG s.1.natAbs++s.2)∧Dk (ρ 3) H s.2∧ρ 0=VI n∧ρ 4=VI s.1) (fun s=>s.1.natAbs+(if s.2=[] then 1 else 0)) (n,[]) ⟨h0,h1,fun _=>rfl,fun h=>absurd rfl h,by simp only[VX,Nat.reduceEqDiff,Nat.reduceAdd];exact Dk.row (bs:=[]) aT,rfl,rfl⟩ ?_
 rintro⟨r,bs⟩ ρ H ⟨BG,Vj,hn,hd,ho,g0,g4⟩
 simp only at BG Vj hn hd ho g4
 generalize Y9:ρ 3=v3 at ho
 have hlen:=ho.len
 have yZ:=ho.src
 by_cases Ow:bs≠[]∧r=0
 ·obtain⟨hb,hr⟩:=Ow
  subst hr
  have hl:¬(bs.length:Int)=0:=by have:=List.length_pos_iff.2 hb;omega
  have WM:=hd hb
  simp only[kG,Int.natAbs_zero,if_true,List.nil_append] at WM
  by_cases sW:n<0
  ·obtain⟨v',H',ap,Zu⟩:=ho.cons 45 (by rw[←WM];omega) 0
   have SY:jM false [.int .u8 0] 1 [(0,.sc (.int .u8 45))] H=some (.tree [bV 45] (.cl 1),H):=e1 45 H
   have bs2:=fun aU (h:dU aU (.tmp 34)=v')=>Zu.str (fl:=⟨true,false⟩) (lo:=0) h
   simp only[iL,g0,g4,Y9,hlen,hl,VX,Nat.reduceEqDiff,Nat.reduceAdd]
   simp only[g0,sW,Y9,SY,yZ,ap,MY,VX,Nat.reduceEqDiff,Nat.reduceAdd]
   rw[bs2 _ (by rfl)]
   simp only[VX,Nat.reduceEqDiff,Nat.reduceAdd]
   rw[WM]
   exact aI rfl
  ·have bs2:=fun aU (h:dU aU (.tmp 34)=v3)=>ho.str (fl:=⟨true,false⟩) (lo:=0) h
   simp only[iL,g0,g4,Y9,hlen,hl,VX,Nat.reduceEqDiff,Nat.reduceAdd]
   simp only[g0,sW,Y9,MY,VX,Nat.reduceEqDiff,Nat.reduceAdd]
   rw[bs2 _ (by simp only[VX,Nat.reduceEqDiff,Nat.reduceAdd];try exact Y9)]
   simp only[VX,Nat.reduceEqDiff,Nat.reduceAdd]
   rw[WM]
   exact aI rfl
 ·have hm:r.tmod 10=if r<0 then -((r.natAbs % 10:Nat):Int) else ((r.natAbs % 10:Nat):Int):=by
   have:=Int.tmod_eq_emod_of_nonneg (a:=r) (b:=10)
   by_cases h:r<0
   ·rw[if_pos h]
    have h2:=Int.neg_tmod (-r) 10
    rw[Int.neg_neg] at h2
    rw[h2,Int.tmod_eq_emod_of_nonneg (by omega)]
    omega
   ·rw[if_neg h,this (by omega)]
    omega
  have hq:(r.tdiv 10).natAbs=r.natAbs / 10:=by rw[Int.natAbs_tdiv];rfl
  have hmd:=Nat.mod_lt r.natAbs (show 0<10 by decide)
  have q1:=aaS r BG Vj
  have vZ:bs.length≤19:=by
   by_cases hb:bs=[]
   ·subst hb;simp
   ·have h2:=hd hb
    have h3:=congrArg List.length h2
    rw[List.length_append] at h3
    have h4:r≠0:=fun h=>Ow ⟨hb,h⟩
    have h5:=List.length_pos_iff.2 (L6 r.natAbs)
    rw[kG,if_neg (by omega)] at h3
    omega
  obtain⟨v',H',ap,Zu⟩:=ho.cons (d10 (r.natAbs % 10)) (by omega) 0
  have w2:IntKind.i64.wrap (48+((r.natAbs % 10:Nat):Int))=((48+r.natAbs % 10:Nat):Int):=wrapN _ (by omega) (by omega)
  have w3:IntKind.u8.wrap ((48+r.natAbs % 10:Nat):Int)=((48+r.natAbs % 10:Nat):Int):=by
   simp[IntKind.wrap,IntKind.bits,IntKind.signed]
   omega
  have hx:VV.sc (.int .u8 ((48+r.natAbs % 10:Nat):Int))=bV (d10 (r.natAbs % 10)):=by rw[bV,KO hmd]
  have SY:=e1 (d10 (r.natAbs % 10)) H
  rw[←hx] at SY ap
  have next:∃s':Int×List UInt8,s'.1.natAbs+(if s'.2=[] then 1 else 0)<r.natAbs+(if bs=[] then 1 else 0) ∧ -9223372036854775808≤s'.1∧s'.1≤9223372036854775807∧(s'.2=[]→s'.1=n)∧(s'.2≠[]→decDigits n.natAbs=kG s'.1.natAbs++s'.2)∧Dk v' H' s'.2∧r.tdiv 10=s'.1:=by
   refine⟨(r.tdiv 10,d10 (r.natAbs % 10)::bs),?_,by simp only;omega,by simp only;omega,fun h=>(by simp at h),fun _ => ?_,Zu,rfl⟩
   ·simp only[hq,List.cons_ne_nil,if_false]
    by_cases hb:bs=[]
    ·rw[if_pos hb];omega
    ·have h4:r≠0:=fun h=>Ow ⟨hb,h⟩
     rw[if_neg hb];omega
   ·simp only[hq]
    by_cases hb:bs=[]
    ·subst hb
     refine Fh ?_
     rw[hn rfl,List.append_nil]
    ·have h4:r≠0:=fun h=>Ow ⟨hb,h⟩
     have h2:=hd hb
     rw[kG,if_neg (by omega)] at h2
     exact Fh h2
  by_cases hrn:r.tmod 10<0
  ·have w1:IntKind.i64.wrap (0-r.tmod 10)=((r.natAbs % 10:Nat):Int):=by
    have:r.tmod 10 = -((r.natAbs % 10:Nat):Int):=by
     by_cases h:r<0
     ·rw[if_pos h] at hm;exact hm
     ·rw[if_neg h] at hm;omega
    rw[this]
    exact wrapN _ (by omega) (by omega)
   by_cases hb:bs=[]
   ·have hl:(bs.length:Int)=0:=by rw[hb];rfl
    simp only[iL,g0,g4,Y9,hlen,hl,Ox,q1,hrn,w1,w2,w3,SY,yZ,ap,VX,Nat.reduceEqDiff,Nat.reduceAdd]
    obtain⟨s',n1,n2,n3,n4,n5,n6,n7⟩:=next
    exact⟨s',n1,n2,n3,n4,n5,n6,by rw[n7]⟩
   ·have hl:¬(bs.length:Int)=0:=by have:=List.length_pos_iff.2 hb;omega
    have hr:¬r=0:=fun h=>Ow ⟨hb,h⟩
    simp only[iL,g0,g4,Y9,hlen,hl,hr,Ox,q1,hrn,w1,w2,w3,SY,yZ,ap,VX,Nat.reduceEqDiff,Nat.reduceAdd]
    obtain⟨s',n1,n2,n3,n4,n5,n6,n7⟩:=next
    exact⟨s',n1,n2,n3,n4,n5,n6,by rw[n7]⟩
  ·have hmm:r.tmod 10=((r.natAbs % 10:Nat):Int):=by
    rw[hm] at hrn ⊢
    split
    ·rename_i h;rw[if_pos h] at hrn;omega
    ·rfl
   have ahL:¬((r.natAbs % 10:Nat):Int)<0:=by omega
   by_cases hb:bs=[]
   ·have hl:(bs.length:Int)=0:=by rw[hb];rfl
    simp only[iL,g0,g4,Y9,hlen,hl,Ox,hmm,q1,ahL,w2,w3,SY,yZ,ap,VX,Nat.reduceEqDiff,Nat.reduceAdd]
    obtain⟨s',n1,n2,n3,n4,n5,n6,n7⟩:=next
    exact⟨s',n1,n2,n3,n4,n5,n6,by rw[n7]⟩
   ·have hl:¬(bs.length:Int)=0:=by have:=List.length_pos_iff.2 hb;omega
    have hr:¬r=0:=fun h=>Ow ⟨hb,h⟩
    simp only[iL,g0,g4,Y9,hlen,hl,hr,Ox,hmm,q1,ahL,w2,w3,SY,yZ,ap,VX,Nat.reduceEqDiff,Nat.reduceAdd]
    obtain⟨s',n1,n2,n3,n4,n5,n6,n7⟩:=next
    exact⟨s',n1,n2,n3,n4,n5,n6,by rw[n7]⟩
end Go.PM
namespace Go.PM
abbrev chV (c:List (List ByteArray)):VV := .agg [sJ c]
def BD (n:Nat) (H:aA) (bare:Bool) (c:List (List ByteArray)) (r:VV):Prop:=∃c0,r = .agg [c0]∧uR n H bare c c0
theorem BD.bM {n:Nat} {H H':aA} {bare:Bool} {s:List (List ByteArray)} {c:VV} (h:BD n H bare s c) (hk:∀b g x,n<b→aF H b g=some x→aF H' b g=some x):BD n H' bare s c:=by
 obtain⟨c0,rfl,h0⟩:=h
 exact⟨c0,rfl,h0.bM hk⟩
theorem BD.pre {n:Nat} {H H':aA} {bare:Bool} {s:List (List ByteArray)} {c:VV} (h:BD n H bare s c) (hh:H <+: H'):BD n H' bare s c:=h.bM fun _ _ _ _=>bT hh
theorem BD.fz {n:Nat} {H:aA} {bare:Bool} {s:List (List ByteArray)} {c:VV} (h:BD n H bare s c):PM.fz depth H c=some (chV s):=by
 obtain⟨c0,rfl,h0⟩:=h
 have f0:=h0.fz (d:=4)
 have e:PM.fz (7+1) H (.agg [c0])=if aN (.agg [c0])=true then some (.agg [c0]) else ([c0].mapM (PM.fz 7 H)).map .agg:=rfl
 show PM.fz (7+1) H (.agg [c0])=_
 rw[e]
 by_cases hp:aN (.agg [c0])=true
 ·rw[if_pos hp]
  have hu:aN c0=true:=by simpa[aN,aP] using hp
  rw[aH hu] at f0
  cases f0
  rfl
 ·rw[if_neg hp,List.mapM_cons,f0]
  rfl
end Go.PM
namespace Go.PM
open Go.Lib
def gK (c:UInt8):Bool:=decide (48≤c.toNat)&&decide (c.toNat≤57)
def dv (c:UInt8):Nat:=c.toNat-48
def IK (a:Nat) (l:List UInt8):Nat:=l.foldl (fun a c=>a*10+dv c) a
def bL (l:List UInt8):Nat:=IK 0 l
theorem Su (l:List UInt8):∀a,IK a l=a*10^l.length+bL l:=by
 induction l with
 | nil=>intro a;simp[IK,bL]
 |
  cons c l ih =>
  intro a
  have h1:IK a (c::l)=IK (a*10+dv c) l:=rfl
  have h2:bL (c::l)=IK (0*10+dv c) l:=rfl
  rw[h1,h2,ih,ih (0*10+dv c),List.length_cons,Nat.pow_succ]
  grind
theorem HV (a b:List UInt8):bL (a++b)=bL a*10^b.length+bL b:=by
 have:bL (a++b)=IK (bL a) b:=by unfold bL IK;rw[List.foldl_append]
 rw[this,Su]
theorem JD:bL []=0:=rfl
theorem UK (a:List UInt8) (c:UInt8):bL (a++[c])=bL a*10+dv c:=by
 rw[HV]
 simp[bL,IK]
theorem aaO {c:UInt8} (h:gK c=true):dv c<10:=by
 simp only[gK,Bool.and_eq_true,decide_eq_true_eq] at h
 unfold dv
 omega
theorem D4:∀ {l:List UInt8},l.all gK=true→bL l<10^l.length:=by
 intro l
 induction l with
 | nil=>intro _;decide
 |
  cons c l ih =>
  intro h
  rw[List.all_cons,Bool.and_eq_true] at h
  have h1:=aaO h.1
  have h2:=ih h.2
  have h3:bL (c::l)=IK (0*10+dv c) l:=rfl
  rw[h3,Su,List.length_cons,Nat.pow_succ]
  have h4:(0*10+dv c)*10^l.length≤9*10^l.length:=Nat.mul_le_mul_right _ (by omega)
  omega
theorem afM {M:Nat} (hM:1000000000000000000≤M):∀(l:List UInt8) (k acc:Nat),l.all gK=true→acc<10^k→k+l.length≤18→parseUintM M acc l = .ok (IK acc l):=by
 intro l
 induction l with
 | nil=>intro k acc _ _ _;rfl
 |
  cons c l ih =>
  intro k acc h hk hl
  rw[List.all_cons,Bool.and_eq_true] at h
  have h1:=aaO h.1
  have h0:=h.1
  simp only[gK,Bool.and_eq_true,decide_eq_true_eq] at h0
  rw[List.length_cons] at hl
  have h18:acc<10^17:=Nat.lt_of_lt_of_le hk (Nat.pow_le_pow_right (by decide) (by omega))
  have e17:(10:Nat)^17=100000000000000000:=by decide
  rw[e17] at h18
  have hd:c.toNat-48=dv c:=rfl
  rw[parseUintM,if_pos h0,if_neg (by omega),hd,if_neg (by omega),ih (k+1) _ h.2 (by rw[Nat.pow_succ];omega) (by omega)]
  rfl
theorem adX {l:List UInt8} (h:l.all gK=true) (h0:l≠[]) (hl:l.length≤18):parseUintB 64 l = .ok (bL l):=by
 unfold parseUintB
 rw[if_neg h0]
 exact afM (by decide) l 0 0 h (by decide) (by omega)
def gD (l:List UInt8):Bool:=l.all gK&&decide (1≤l.length)&&decide (l.length≤200)&&(decide (l.length=1) || !decide (l.getD 0 0=48))
theorem iI {l:List UInt8}:gD l=true↔l.all gK=true∧1≤l.length∧l.length≤200∧(l.length=1∨l.getD 0 0≠48):=by
 unfold gD
 simp only[Bool.and_eq_true,Bool.or_eq_true,Bool.not_eq_true',decide_eq_true_eq,decide_eq_false_iff_not,ne_eq,and_assoc]
theorem vW {l:List UInt8} (h:gD l=true):bl (bL l)≤665:=by
 obtain⟨h1,h2,h3,_⟩:=iI.1 h
 refine Gx (Nat.lt_of_lt_of_le (D4 h1) ?_)
 exact Nat.le_trans (Nat.pow_le_pow_right (by decide) h3) (by decide +kernel)
def kH (c:UInt8):List UInt8→List UInt8×Option (List UInt8)
 | []=>([],none)
 | x::r=>if x=c then ([],some r) else (x::(kH c r).1,(kH c r).2)
theorem xU {c:UInt8}:∀ {l:List UInt8},(kH c l).2=none→indexByte l c = -1∧(kH c l).1=l∧c∉l:=by
 intro l
 induction l with
 | nil=>intro _;exact⟨rfl,rfl,by simp⟩
 |
  cons x l ih =>
  intro h
  unfold kH at h ⊢
  by_cases hx:x=c
  ·rw[if_pos hx] at h
   cases h
  ·rw[if_neg hx] at h ⊢
   obtain⟨h1,h2,h3⟩:=ih h
   refine⟨?_,by rw[h2],?_⟩
   ·rw[indexByte,if_neg (by simpa using hx),h1]
    rfl
   ·rw[List.mem_cons,not_or]
    exact⟨fun h=>hx h.symm,h3⟩
theorem Fm {c:UInt8}:∀ {l r:List UInt8},(kH c l).2=some r→indexByte l c=((kH c l).1.length:Int)∧l=(kH c l).1++c::r∧c∉(kH c l).1:=by
 intro l
 induction l with
 | nil=>intro r h;cases h
 |
  cons x l ih =>
  intro r h
  unfold kH at h ⊢
  by_cases hx:x=c
  ·rw[if_pos hx] at h ⊢
   cases h
   subst hx
   refine⟨?_,rfl,by simp⟩
   rw[indexByte,if_pos (by simp)]
   rfl
  ·rw[if_neg hx] at h ⊢
   obtain⟨h1,h2,h3⟩:=ih h
   refine⟨?_,?_,?_⟩
   ·rw[indexByte,if_neg (by simpa using hx),h1,if_neg]
    ·simp
    ·simp
   ·conv=>lhs;rw[h2]
    rfl
   ·rw[List.mem_cons,not_or]
    exact⟨fun h=>hx h.symm,h3⟩
def lY (neg:Bool) (d:List UInt8) (s:Option (List UInt8)):Option Rat :=
 if gD d=false∨(neg=true∧bL d=0) then none else
 match s with
 | none=>some (mkRat (F7 neg (bL d)) 1)
 | some t=>if gD t=true∧1<bL t∧Nat.gcd (bL d) (bL t)=1 then some (mkRat (F7 neg (bL d)) (bL t)) else none
def isNeg (l:List UInt8):Bool:=decide (1≤l.length)&&decide (l.getD 0 0=45)
def vV (l:List UInt8):Option Rat:=lY (isNeg l) ((kH 47 (if isNeg l then l.drop 1 else l)).1) ((kH 47 (if isNeg l then l.drop 1 else l)).2)
theorem Qr {neg:Bool} {d:List UInt8} {s:Option (List UInt8)} {q:Rat} (h:lY neg d s=some q):gD d=true∧¬(neg=true∧bL d=0)∧((s=none∧q=mkRat (F7 neg (bL d)) 1)∨∃t,s=some t∧gD t=true∧1<bL t∧Nat.gcd (bL d) (bL t)=1∧q=mkRat (F7 neg (bL d)) (bL t)):=by
 unfold lY at h
 split at h
 ·cases h
 ·rename_i hc
  rw[not_or] at hc
  refine⟨by simpa using hc.1,hc.2,?_⟩
  split at h
  ·exact .inl ⟨rfl,(Option.some.inj h).symm⟩
  ·rename_i t
   split at h
   ·rename_i ht
    exact .inr ⟨t,rfl,ht.1,ht.2.1,ht.2.2,(Option.some.inj h).symm⟩
   ·cases h
theorem NB {neg:Bool} {d:List UInt8} {s:Option (List UInt8)} {q:Rat} (h:lY neg d s=some q):fK q≤665:=by
 obtain⟨h1,_,h3⟩:=Qr h
 have hb:=vW h1
 rcases h3 with⟨_,rfl⟩ | ⟨t,_,h4,h5,_,rfl⟩
 ·exact N5 (by rw[BX];exact hb) (Gx (by decide +kernel)) (by decide)
 ·exact N5 (by rw[BX];exact hb) (vW h4) (by omega)
theorem Ra {l:List UInt8} {q:Rat} (h:vV l=some q):fK q≤665:=NB h
theorem Gd {neg:Bool} {t b:Nat} (hb:b≠0) (hg:Nat.gcd t b=1):(mkRat (F7 neg t) b).num=F7 neg t∧(mkRat (F7 neg t) b).den=b:=by
 rw[afL hb,afI hb,hg,Nat.div_one,Nat.div_one]
 exact⟨rfl,rfl⟩
theorem DA {c:UInt8} {l:List UInt8}:isNeg (c::l)=decide (c=45):=by simp[isNeg]
theorem Xm {l:List UInt8} (h:l.all gK=true):(47:UInt8)∉l:=by
 intro hm
 have:=List.all_eq_true.1 h _ hm
 exact absurd this (by decide)
end Go.PM
namespace Go.PM
open Go.Lib
theorem A8 (l:List UInt8) {i:Nat} (h:i<l.length):E6 (.string ⟨l.toArray⟩) (.int .i64 (i:Int))=some (.int .u8 ((l.getD i 0).toNat:Int)):=by
 have hs:(⟨l.toArray⟩:ByteArray).size=l.length:=by simp[ByteArray.size]
 have e1:(0:Int)≤i∧(i:Int)<(l.length:Int):=by omega
 simp only[E6,hs,e1,and_self,if_true,Int.toNat_natCast]
theorem F4 (l:List UInt8) (h:0<l.length):E6 (.string ⟨l.toArray⟩) (.int .i64 0)=some (.int .u8 ((l.getD 0 0).toNat:Int)):=A8 l h
theorem EF (l:List UInt8) (a b:Nat):(⟨l.toArray⟩:ByteArray).extract a b=⟨((l.drop a).take (b-a)).toArray⟩:=by
 rw[ByteArray.ext_iff,ByteArray.data_extract]
 simp[List.extract_toArray,List.extract_eq_take_drop]
theorem Dn (l:List UInt8) {a:Nat} (h:a≤l.length):rO (aO l) (some (VI (a:Int))) none=some (aO (l.drop a)):=by
 have hs:(⟨l.toArray⟩:ByteArray).size=l.length:=by simp[ByteArray.size]
 have e2:(0:Int)≤a∧(a:Int)≤(l.length:Int):=by omega
 simp only[rO,DH,wJ,hs,eA,e2,and_self,if_true,Int.toNat_natCast,EF]
 rw[List.take_of_length_le (by simp)]
theorem Ie (l:List UInt8) {b:Nat} (hb:b≤l.length):rO (aO l) none (some (VI (b:Int)))=some (aO (l.take b)):=by
 have hs:(⟨l.toArray⟩:ByteArray).size=l.length:=by simp[ByteArray.size]
 have e1:(0:Int)≤b∧(b:Int)≤(l.length:Int):=by omega
 simp only[rO,DH,wJ,hs,eA,e1,and_self,if_true,Int.toNat_natCast,EF]
 rw[List.drop_zero,Nat.sub_zero]
theorem No (l:List UInt8):dB .eql (.string ⟨l.toArray⟩) (.string ⟨#[]⟩)=some (.bool (decide (l=[]))):=Sh l []
theorem Gy (l:List UInt8):dB .neq (.string ⟨l.toArray⟩) (.string ⟨#[]⟩)=some (.bool (!decide (l=[]))):=LP l []
theorem NR (l:List UInt8):TC 229 [aO l,aO [45]] (VB (isNeg l)):=by
 refine TC.walk ⟨true,false⟩ pW rfl (Nat.le_of_ble_eq_true rfl) rfl rfl ?_
 have e1:wK (.string ⟨#[45]⟩)=some (.int .i64 1):=rfl
 by_cases h:(1:Int)≤(l.length:Int)
 ·have e2:=Ie l (b:=1) (by omega)
  have e2:rO (aO l) none (some (VI 1))=some (aO (l.take 1)):=e2
  have e3:dB .eql (.string ⟨(l.take 1).toArray⟩) (.string ⟨#[45]⟩)=some (.bool (decide (l.take 1=[45]))):=Sh (l.take 1) [45]
  have e4:isNeg l=decide (l.take 1=[45]):=by
   cases l with
   | nil=>exact absurd h (by decide)
   | cons c l=>rw[DA];simp
  rw[e4]
  simp only[fZ,fM,bC,e1,ge_iff_le,h,e2,e3,VX,Nat.reduceEqDiff,Nat.reduceAdd]
  exact aI rfl
 ·have e4:isNeg l=false:=by unfold isNeg;rw[decide_eq_false (by omega)];rfl
  rw[e4]
  simp only[fZ,fM,bC,e1,ge_iff_le,h,VX,Nat.reduceEqDiff,Nat.reduceAdd]
  exact aI rfl
theorem MO (l:List UInt8):TC 216 [aO l,aO [45]] (.dQ [aO (if isNeg l then l.drop 1 else l),VB (isNeg l)]):=by
 refine TC.walk ⟨true,false⟩ pR rfl (Nat.le_of_ble_eq_true rfl) rfl rfl ?_
 have e0:=NR l
 have e1:wK (.string ⟨#[45]⟩)=some (.int .i64 1):=rfl
 cases h:isNeg l with
 |
  true =>
  rw[h] at e0
  have hl:1≤l.length:=by
   cases l with
   | nil=>cases h
   | cons c l=>simp
  have e2:rO (aO l) (some (VI 1)) none=some (aO (l.drop 1)):=Dn l (a:=1) hl
  simp only[gC,fL,e0,e1,e2,VX,Nat.reduceEqDiff,Nat.reduceAdd]
  exact aI rfl
 |
  false =>
  rw[h] at e0
  simp only[gC,fL,e0,Bool.false_eq_true,if_false,VX,Nat.reduceEqDiff,Nat.reduceAdd]
  exact aI rfl
theorem NP (l:List UInt8):TC 168 [aO l,aO [45]] (.dQ [aO (if isNeg l then l.drop 1 else l),VB (isNeg l)]):=by
 refine TC.walk ⟨true,false⟩ Cs rfl (Nat.le_of_ble_eq_true rfl) rfl rfl ?_
 have e0:=MO l
 simp only[wL,sT,e0,VX,Nat.reduceEqDiff,Nat.reduceAdd]
 exact aI rfl
theorem acT (l:List UInt8) (hl:l.length≤1000000000000):TC 215 [aO l,aO [47]] (.dQ [aO (kH 47 l).1,aO ((kH 47 l).2.getD []),VB (kH 47 l).2.isSome]):=by
 refine TC.walk ⟨true,false⟩ tR rfl (Nat.le_of_ble_eq_true rfl) rfl rfl ?_
 have e0:=ZP l 47
 have e1:wK (.string ⟨#[47]⟩)=some (.int .i64 1):=rfl
 cases h:(kH 47 l).2 with
 |
  none =>
  obtain⟨h1,h2,_⟩:=xU h
  rw[h1] at e0
  rw[h2]
  simp only[jO,iS,e0,ge_iff_le,Int.reduceNeg,Int.reduceLE,VX,Nat.reduceEqDiff,Nat.reduceAdd]
  exact aI rfl
 |
  some r =>
  obtain⟨h1,h2,_⟩:=Fm h
  rw[h1] at e0
  generalize (kH 47 l).1=a at *
  subst h2
  rw[List.length_append,List.length_cons] at hl
  have h0:(0:Int)≤(a.length:Int):=by omega
  have e2:=Ie (a++47::r) (b:=a.length) (by simp)
  have e3:=Dn (a++47::r) (a:=a.length+1) (by simp)
  rw[List.take_left] at e2
  have ed:(a++47::r).drop (a.length+1)=r:=by rw[List.drop_append];simp
  rw[ed] at e3
  have w:IntKind.i64.wrap ((a.length:Int)+1)=((a.length+1:Nat):Int):=wrapN _ (by omega) (by omega)
  simp only[jO,iS,e0,e1,ge_iff_le,h0,w,e2,e3,VX,Nat.reduceEqDiff,Nat.reduceAdd]
  exact aI rfl
theorem akP (l:List UInt8) (hl:l.length≤1000000000000):TC 167 [aO l,aO [47]] (.dQ [aO (kH 47 l).1,aO ((kH 47 l).2.getD []),VB (kH 47 l).2.isSome]):=by
 refine TC.walk ⟨true,false⟩ Kd rfl (Nat.le_of_ble_eq_true rfl) rfl rfl ?_
 have e0:=acT l hl
 simp only[Gn,CS,e0,VX,Nat.reduceEqDiff,Nat.reduceAdd]
 exact aI rfl
def yH (l:List UInt8):VV:=if gD l=true then .dQ [bX (bL l),VB true] else .dQ [bX 0,VB false]
theorem T2 (l:List UInt8):fY (yH l)=true:=by
 unfold yH
 split<;>simp[fY,oJ,pX,jR]
theorem aeN {d:Nat}:fz (d+1) [.row 0 [] 1 true] (.ref 0 0 0 0 0)=some (bX 0):=by
 rw[Lr]
 cases d with
 | zero=>rfl
 | succ d=>rfl
theorem HW {n:Nat} (hn:n≤9) {lo:Nat} {H:aA} {ρ:dJ} {Q:VQ} (h58:ρ 58=VI n) (h59:ρ 59=VI 0) (h9:ρ 9=VK .u64 1) (hQ:∀aU,(∀t,t<9→aU t=ρ t)→aU 9=VK .u64 ((10^n:Nat):Int)→Q .normal aU H):VW ⟨true,false⟩ lo (.loop nZ) (xI 4 Q) ρ H:=by
 refine aR (fun(i:Nat) aU H'=>i≤n∧H'=H∧(∀t,t<9→aU t=ρ t)∧aU 58=VI n∧aU 59=VI i∧aU 9=VK .u64 ((10^i:Nat):Int)) (fun i=>n-i) 0 ⟨Nat.zero_le _,rfl,fun _ _=>rfl,h58,h59,h9⟩ ?_
 rintro i aU H' ⟨hi,rfl,hk,g58,g59,g9⟩
 by_cases dK:(i:Int)<(n:Int)
 ·have wi:IntKind.i64.wrap ((i:Int)+1)=((i+1:Nat):Int):=wrapN (i+1) (by omega) (by omega)
  have hp:10^i≤10^8:=Nat.pow_le_pow_right (by decide) (by omega)
  have e8:(10:Nat)^8=100000000:=by decide
  have wp:IntKind.u64.wrap (((10^i:Nat):Int)*10)=((10^(i+1):Nat):Int):=by
   rw[Nat.pow_succ]
   generalize 10^i=p at *
   have:=dP (p*10) (by omega)
   rw[Int.natCast_mul] at this
   rw[Int.natCast_mul]
   exact this
  simp only[nZ,g58,g59,g9,dK,wi,wp,VX,Nat.reduceEqDiff,Nat.reduceAdd]
  refine⟨i+1,by omega,by omega,fun t ht => ?_,rfl,rfl⟩
  try simp only[rP]
  repeat rw[if_neg (by omega)]
  exact hk t ht
 ·have qG:i=n:=by omega
  subst qG
  simp only[nZ,g58,g59,dK,VX,Nat.reduceEqDiff,Nat.reduceAdd]
  refine hQ _ (fun t ht => ?_) ?_
  ·try simp only[rP]
   repeat rw[if_neg (by omega)]
   exact hk t ht
  ·simp only[g9,VX,Nat.reduceEqDiff,Nat.reduceAdd]
theorem XE {l:List UInt8} {i:Nat} (h:i<l.length):(l.take (i+1)).all gK=((l.take i).all gK&&gK (l.getD i 0)):=by
 rw[List.take_add_one,List.all_append]
 have:l[i]? = some (l.getD i 0):=by rw[List.getElem?_eq_getElem h,List.getD_eq_getElem?_getD,List.getElem?_eq_getElem h];rfl
 rw[this]
 simp
theorem I1 {l:List UInt8} (hl:l.length≤1000000000000) {lo:Nat} {H:aA} {ρ:dJ} {Q:VQ} (h0:ρ 0=aO l) (h29:ρ 29=VI l.length) (h30:ρ 30=VI 0)
  (hR:l.all gK=false→∀aU:dJ,aU 2 = .tree [] .nil→aU 3=VB false→Q .ret aU H) (hN:l.all gK=true→∀aU:dJ,(∀t,t<5→aU t=ρ t)→Q .normal aU H):VW ⟨true,false⟩ lo (.loop jC) (xI 0 Q) ρ H:=by
 refine aR (fun(i:Nat) aU H'=>i≤l.length∧H'=H∧(l.take i).all gK=true∧(∀t,t<5→aU t=ρ t)∧aU 29=VI l.length∧aU 30=VI i) (fun i=>l.length-i) 0 ⟨Nat.zero_le _,rfl,rfl,fun _ _=>rfl,h29,h30⟩ ?_
 rintro i aU H' ⟨hi,rfl,hd,hk,g29,g30⟩
 have g0:=(hk 0 (by decide)).trans h0
 by_cases dK:(i:Int)<(l.length:Int)
 ·have Qk:i<l.length:=by omega
  have e1:=A8 l Qk
  have wi:IntKind.i64.wrap ((i:Int)+1)=((i+1:Nat):Int):=wrapN (i+1) (by omega) (by omega)
  have ht:=XE Qk
  rw[hd,Bool.true_and] at ht
  have P6:gK (l.getD i 0)=(decide (48≤(l.getD i 0).toNat)&&decide ((l.getD i 0).toNat≤57)):=rfl
  have mT:gK (l.getD i 0)=false→l.all gK=false:=by
   intro h
   rw[h] at ht
   rw[←List.take_append_drop (i+1) l,List.all_append,ht,Bool.false_and]
  generalize (l.getD i 0).toNat=c at *
  by_cases q1:(c:Int)<48
  ·have:=mT (by rw[P6,decide_eq_false (by omega)];rfl)
   simp only[jC,g0,g29,g30,dK,e1,q1,VX,Nat.reduceEqDiff,Nat.reduceAdd]
   exact hR this _ (by simp only[VX,Nat.reduceEqDiff,Nat.reduceAdd]) (by simp only[VX,Nat.reduceEqDiff,Nat.reduceAdd])
  ·by_cases q2:(57:Int)<(c:Int)
   ·have:=mT (by rw[P6,decide_eq_false (show ¬c≤57 by omega),Bool.and_false])
    simp only[jC,g0,g29,g30,dK,e1,q1,q2,VX,Nat.reduceEqDiff,Nat.reduceAdd]
    exact hR this _ (by simp only[VX,Nat.reduceEqDiff,Nat.reduceAdd]) (by simp only[VX,Nat.reduceEqDiff,Nat.reduceAdd])
   ·rw[P6,decide_eq_true (by omega),decide_eq_true (by omega),Bool.and_self] at ht
    simp only[jC,g0,g29,g30,dK,e1,q1,q2,wi,VX,Nat.reduceEqDiff,Nat.reduceAdd]
    refine⟨i+1,by omega,by omega,ht,fun t ht => ?_,rfl⟩
    try simp only[rP]
    repeat rw[if_neg (by omega)]
    exact hk t ht
 ·have qG:i=l.length:=by omega
  subst qG
  rw[List.take_length] at hd
  simp only[jC,g29,g30,dK,VX,Nat.reduceEqDiff,Nat.reduceAdd]
  refine hN hd _ fun t ht => ?_
  try simp only[rP]
  repeat rw[if_neg (by omega)]
  exact hk t ht
set_option maxHeartbeats 2000000 in
theorem IL {l:List UInt8} (hd:l.all gK=true) (hl:l.length≤200) (eT:l≠[]) {ρ:dJ} {Q:VQ} (h0:ρ 0=aO l) (h4:ρ 4 = .ref 0 0 0 0 0)
  (hQ:∀(aU:dJ),aU 4=bX (bL l)→Q .normal aU [.row 0 [] 1 false]):VW ⟨true,false⟩ 0 (.loop lD) (xI 2 Q) ρ [.row 0 [] 1 true]:=by
 refine aR (fun(s:List UInt8×List UInt8) aU H'=>l=s.1++s.2∧aU 0=aO s.2∧((H'=[.row 0 [] 1 true]∧aU 4 = .ref 0 0 0 0 0∧s.1=[])∨(H'=[.row 0 [] 1 false]∧aU 4=bX (bL s.1)))) (fun s=>s.2.length) ([],l) ⟨rfl,h0,.inl ⟨rfl,h4,rfl⟩⟩ ?_
 rintro⟨pre,rest⟩ aU H' ⟨Qg,g0,hv⟩
 simp only at Qg g0 hv
 have e1:=Gy rest
 by_cases he:rest=[]
 ·subst he
  rw[List.append_nil] at Qg
  subst Qg
  rcases hv with⟨_,_,h⟩ | ⟨rfl,g4⟩
  ·exact absurd h eT
  have SY:dB .neq (.string ⟨#[]⟩) (.string ⟨#[]⟩)=some (.bool false):=by
   have:=Gy []
   rw[decide_eq_true rfl] at this
   exact this
  simp only[lD,g0,SY,VX,Nat.reduceEqDiff,Nat.reduceAdd]
  exact hQ _ (by simp only[g4,VX,Nat.reduceEqDiff,Nat.reduceAdd])
 ·rw[Qg,List.all_append,Bool.and_eq_true] at hd
  obtain⟨hd1,hd2⟩:=hd
  rw[Qg,List.length_append] at hl
  have iU:0<rest.length:=List.length_pos_iff.2 he
  have SY:dB .neq (.string ⟨rest.toArray⟩) (.string ⟨#[]⟩)=some (.bool true):=by rw[e1,decide_eq_false he];rfl
  have wm:(rest.length:Int).tmod 9=((rest.length % 9:Nat):Int):=by rw[Int.tmod_eq_emod_of_nonneg (by omega)];simp
  have er:dB .rem (.int .i64 (rest.length:Int)) (.int .i64 9)=some (.int .i64 ((rest.length % 9:Nat):Int)):=by
   rw[←wm]
   rfl
  obtain⟨n,hn⟩:∃n,n=if rest.length % 9=0 then 9 else rest.length % 9:=⟨_,rfl⟩
  have hn1:1≤n∧n≤9∧n≤rest.length:=by
   rw[hn]
   split<;>omega
  obtain⟨n1,n9,nl⟩:=hn1
  have e2:=Ie rest nl
  have e3:=Dn rest nl
  have hch:(rest.take n).length=n:=by rw[List.length_take];omega
  have hcd:(rest.take n).all gK=true:=by
   rw[←List.take_append_drop n rest,List.all_append,Bool.and_eq_true] at hd2
   exact hd2.1
  have hp:=ZI (rest.take n) (bL (rest.take n)) (by omega) (adX hcd (fun h=>by rw[h] at hch;simp at hch;omega) (by omega))
  have DP:=D4 hcd
  rw[hch] at DP
  have hp9:10^n≤10^9:=Nat.pow_le_pow_right (by decide) n9
  have e9:(10:Nat)^9=1000000000:=by decide
  have ayN:bL (rest.take n)<1000000000:=by omega
  have c1:=mV (10^n) (by omega)
  have c2:=mV (bL (rest.take n)) (by omega)
  have hbp:bl (bL pre)≤665:=by
   refine Gx (Nat.lt_of_lt_of_le (D4 hd1) ?_)
   exact Nat.le_trans (Nat.pow_le_pow_right (by decide) (by omega:pre.length≤200)) (by decide +kernel)
  have hb9:bl (10^n)≤64:=Gx (by omega)
  have hbm:=adU (bL pre) (10^n)
  have hbc:bl (bL (rest.take n))≤64:=Gx (by omega)
  have tm:=Ig (bL pre) (10^n) (CO (by omega)) (CO (by omega))
  have c4:=HJ (bL pre*10^n) (bL (rest.take n)) (CO (by omega)) (CO (by omega))
  have pO:bL pre*10^n+bL (rest.take n)=bL (pre++rest.take n):=by rw[HV,hch]
  rw[pO] at c4
  have fin:(rest.drop n).length<rest.length∧pre++rest=(pre++rest.take n)++rest.drop n:=⟨by rw[List.length_drop];omega,by rw[List.append_assoc,List.take_append_drop]⟩
  obtain⟨v4,g4,c3⟩:∃v4,aU 4=v4∧∀lo K,cZ 180 [v4,bX (10^n)] lo H' K=K (bX (bL pre*10^n)) [.row 0 [] 1 false]:=by
   rcases hv with⟨rfl,g4,hp0⟩ | ⟨rfl,g4⟩
   ·refine⟨_,g4,fun lo K => ?_⟩
    subst hp0
    have:=tm.EA (H:=[.row 0 [] 1 true]) (args:=[.ref 0 0 0 0 0,bX (10^n)]) (lo:=lo) (k:=K) rfl (by simp[aP,bO]) (fz2 aeN (aH (bO _))) rfl
    rw[this,show Ia (bX (bL []*10^n))=false from rfl,if_neg (by decide),List.flatMap_cons,List.flatMap_cons,List.flatMap_nil,Dr (bO _),Lh (n:=0) (c:=0) (es:=[]) (e:=1) (w:=true) aT rfl rfl]
    rfl
   ·exact⟨_,g4,fun lo K=>tm lo [.row 0 [] 1 false] K⟩
  clear hv
  obtain⟨P,hP⟩:∃P,P=10^n:=⟨_,rfl⟩
  rw[←hP] at c1 c4 c3
  have hnI:(rest.length % 9:Nat)=0∨¬(rest.length % 9:Nat)=0:=by omega
  rcases hnI with h9 | h9
  ·rw[if_pos h9] at hn
   subst hn
   have q:((rest.length % 9:Nat):Int)=0:=by omega
   have e2':rO (aO rest) none (some (VI 9))=some (aO (rest.take 9)):=e2
   have e3':rO (aO rest) (some (VI 9)) none=some (aO (rest.drop 9)):=e3
   simp only[lD,g0,g4,SY,bC,er,q,e2',hp,VX,Nat.reduceEqDiff,Nat.reduceAdd]
   refine HW (n:=9) (by decide) ?_ ?_ ?_ fun tM k1 q9 => ?_
   ·simp only[VX,Nat.reduceEqDiff,Nat.reduceAdd];rfl
   ·simp only[VX,Nat.reduceEqDiff,Nat.reduceAdd]
   ·simp only[VX,Nat.reduceEqDiff,Nat.reduceAdd]
   rw[←hP] at q9
   have u0:tM 0=aO rest:=by rw[k1 0 (by decide)];simp only[g0,VX,Nat.reduceEqDiff,Nat.reduceAdd]
   have u4:tM 4=v4:=by rw[k1 4 (by decide)];simp only[g4,VX,Nat.reduceEqDiff,Nat.reduceAdd]
   have u6:tM 6=VI 9:=by rw[k1 6 (by decide)];simp only[VX,Nat.reduceEqDiff,Nat.reduceAdd]
   have u7:tM 7=VK .u64 (bL (rest.take 9)):=by rw[k1 7 (by decide)];simp only[VX,Nat.reduceEqDiff,Nat.reduceAdd]
   simp only[u0,u4,u6,u7,q9,c1,c2,c3,c4,e3',VX,Nat.reduceEqDiff,Nat.reduceAdd]
   exact⟨(pre++rest.take 9,rest.drop 9),fin.1,Qg.trans fin.2,rfl,.inr rfl⟩
  ·rw[if_neg h9] at hn
   rw[←hn] at er
   have q:¬(n:Int)=0:=by omega
   simp only[lD,g0,g4,SY,bC,er,q,e2,hp,VX,Nat.reduceEqDiff,Nat.reduceAdd]
   refine HW (n:=n) n9 ?_ ?_ ?_ fun tM k1 q9 => ?_
   ·simp only[VX,Nat.reduceEqDiff,Nat.reduceAdd]
   ·simp only[VX,Nat.reduceEqDiff,Nat.reduceAdd]
   ·simp only[VX,Nat.reduceEqDiff,Nat.reduceAdd]
   rw[←hP] at q9
   have u0:tM 0=aO rest:=by rw[k1 0 (by decide)];simp only[g0,VX,Nat.reduceEqDiff,Nat.reduceAdd]
   have u4:tM 4=v4:=by rw[k1 4 (by decide)];simp only[g4,VX,Nat.reduceEqDiff,Nat.reduceAdd]
   have u6:tM 6=VI n:=by rw[k1 6 (by decide)];simp only[VX,Nat.reduceEqDiff,Nat.reduceAdd]
   have u7:tM 7=VK .u64 (bL (rest.take n)):=by rw[k1 7 (by decide)];simp only[VX,Nat.reduceEqDiff,Nat.reduceAdd]
   simp only[u0,u4,u6,u7,q9,c1,c2,c3,c4,e3,VX,Nat.reduceEqDiff,Nat.reduceAdd]
   exact⟨(pre++rest.take n,rest.drop n),fin.1,Qg.trans fin.2,rfl,.inr rfl⟩
set_option maxHeartbeats 2000000 in
theorem Bw (l:List UInt8) (hl:l.length≤1000000000000):TC 169 [aO l] (yH l):=by
 refine TC.walk ⟨true,false⟩ HU rfl (Nat.le_of_ble_eq_true rfl) rfl (T2 l) ?_
 have e1:=No l
 by_cases he:l=[]
 ·have hk:gD l=false:=by rw[he];rfl
  have SY:dB .eql (.string ⟨l.toArray⟩) (.string ⟨#[]⟩)=some (.bool true):=by rw[e1,decide_eq_true he]
  unfold yH
  rw[hk]
  simp only[mP,jW,SY,Bool.false_eq_true,if_false,VX,Nat.reduceEqDiff,Nat.reduceAdd]
  exact bJ (d:=6) wM (aH (v:=VB false) rfl)
 have iU:0<l.length:=List.length_pos_iff.2 he
 by_cases Y0:(200:Int)<(l.length:Int)
 ·have hk:gD l=false:=by
   cases h:gD l with
   | false=>rfl
   | true=>have:=(iI.1 h).2.2.1;omega
  unfold yH
  rw[hk]
  simp only[mP,jW,e1,he,decide_false,bC,Y0,Bool.false_eq_true,if_false,VX,Nat.reduceEqDiff,Nat.reduceAdd]
  exact bJ (d:=6) wM (aH (v:=VB false) rfl)
 have e2:=F4 l iU
 by_cases hz:(((l.getD 0 0).toNat:Int)=48∧1<(l.length:Int))
 ·obtain⟨Fv,PK⟩:=hz
  have hk:gD l=false:=by
   cases h:gD l with
   | false=>rfl
   |
    true =>
    rcases(iI.1 h).2.2.2 with h1 | h1
    ·omega
    ·exact absurd (UInt8.toNat_inj.1 (by rw[show (48:UInt8).toNat=48 from rfl];omega)) h1
  unfold yH
  rw[hk]
  simp only[mP,jW,e1,he,decide_false,bC,Y0,e2,Fv,PK,Bool.false_eq_true,if_false,VX,Nat.reduceEqDiff,Nat.reduceAdd]
  exact bJ (d:=6) wM (aH (v:=VB false) rfl)
 have ahW:l.length=1∨l.getD 0 0≠48:=by
  by_cases h1:l.length=1
  ·exact .inl h1
  ·right
   intro h2
   apply hz
   rw[h2]
   exact⟨rfl,by omega⟩
 have e3:∀lr,jM lr [.int .u32 0] 0 [] []=some (.ref 0 0 0 0 0,[.row 0 [] 1 true]):=fun lr=>iN (H:=[]) (lr:=lr) (z:=[.int .u32 0]) rfl
 have kN:l.all gK=true→gD l=true:=fun h=>iI.2 ⟨h,iU,by omega,ahW⟩
 have kF:l.all gK=false→gD l=false:=fun h=>by unfold gD;rw[h];rfl
 have rF:gD l=false→yH l = .dQ [bX 0,VB false]:=fun h=>by unfold yH;rw[h];rfl
 have rT:gD l=true→yH l = .dQ [bX (bL l),VB true]:=fun h=>if_pos h
 by_cases hA:(((l.getD 0 0).toNat:Int)=48)
 ·have hB:¬1<(l.length:Int):=fun h=>hz ⟨hA,h⟩
  simp only[mP,jW,e1,e3,he,decide_false,bC,Y0,e2,hA,hB,Bool.false_eq_true,if_false,VX,Nat.reduceEqDiff,Nat.reduceAdd]
  refine I1 hl ?_ ?_ ?_ (fun hd tM g2 g3 => ?_) fun hd tM k1 => ?_
  ·simp only[VX,Nat.reduceEqDiff,Nat.reduceAdd]
  ·simp only[VX,Nat.reduceEqDiff,Nat.reduceAdd]
  ·simp only[VX,Nat.reduceEqDiff,Nat.reduceAdd]
  ·rw[rF (kF hd)]
   simp only[g2,g3,VX,Nat.reduceEqDiff,Nat.reduceAdd]
   exact bJ (d:=6) wM (aH (v:=VB false) rfl)
  ·rw[rT (kN hd)]
   simp only[VX,Nat.reduceEqDiff,Nat.reduceAdd]
   refine IL hd (by omega) he ?_ ?_ fun LW g4 => ?_
   ·rw[k1 0 (by decide)];simp only[VX,Nat.reduceEqDiff,Nat.reduceAdd]
   ·rw[k1 4 (by decide)];simp only[VX,Nat.reduceEqDiff,Nat.reduceAdd]
   ·simp only[g4,VX,Nat.reduceEqDiff,Nat.reduceAdd]
    exact bJ (d:=6) (aH (bO _)) (aH (v:=VB true) rfl)
 ·simp only[mP,jW,e1,e3,he,decide_false,bC,Y0,e2,hA,Bool.false_eq_true,if_false,VX,Nat.reduceEqDiff,Nat.reduceAdd]
  refine I1 hl ?_ ?_ ?_ (fun hd tM g2 g3 => ?_) fun hd tM k1 => ?_
  ·simp only[VX,Nat.reduceEqDiff,Nat.reduceAdd]
  ·simp only[VX,Nat.reduceEqDiff,Nat.reduceAdd]
  ·simp only[VX,Nat.reduceEqDiff,Nat.reduceAdd]
  ·rw[rF (kF hd)]
   simp only[g2,g3,VX,Nat.reduceEqDiff,Nat.reduceAdd]
   exact bJ (d:=6) wM (aH (v:=VB false) rfl)
  ·rw[rT (kN hd)]
   simp only[VX,Nat.reduceEqDiff,Nat.reduceAdd]
   refine IL hd (by omega) he ?_ ?_ fun LW g4 => ?_
   ·rw[k1 0 (by decide)];simp only[VX,Nat.reduceEqDiff,Nat.reduceAdd]
   ·rw[k1 4 (by decide)];simp only[VX,Nat.reduceEqDiff,Nat.reduceAdd]
   ·simp only[g4,VX,Nat.reduceEqDiff,Nat.reduceAdd]
    exact bJ (d:=6) (aH (bO _)) (aH (v:=VB true) rfl)
def Ew:VV := .agg [VB false,bX 0,bX 0]
def Bl (l:List UInt8):VV:=match vV l with
 | some q => .dQ [bD q,VB true]
 | none => .dQ [Ew,VB false]
theorem TD:aN Ew=true:=by simp[Ew,aN,aP,bO,jR]
theorem HP:fY Ew=true:=by simp[Ew,fY,oJ,pX,jR]
theorem RD (l:List UInt8):fY (Bl l)=true:=by
 unfold Bl
 split<;>simp[fY,oJ,Ed,HP,jR]
theorem fH {d:Nat} {H:aA}:fz (d+2) H (.agg [VB false,.tree [] .nil,.tree [] .nil])=some Ew:=qC (aH (v:=VB false) rfl) wM wM
theorem IP {neg:Bool} {t b:Nat} (hb:b≠0) (hg:Nat.gcd t b=1) (hn:¬(neg=true∧t=0)):bD (mkRat (F7 neg t) b) = .agg [VB neg,bX t,bX b]:=by
 obtain⟨e1,e2⟩:=Gd (neg:=neg) hb hg
 refine RW ?_ (by rw[e1,BX]) e2
 rw[e1]
 cases neg with
 | false=>unfold F7;simp
 |
  true =>
  have:t≠0:=fun h=>hn ⟨rfl,h⟩
  unfold F7
  simp
  omega
theorem QD (l:List UInt8):vV l=lY (isNeg (kH 47 l).1) (if isNeg (kH 47 l).1 then (kH 47 l).1.drop 1 else (kH 47 l).1) (kH 47 l).2:=by
 cases l with
 | nil=>rfl
 |
  cons c r =>
  unfold vV
  by_cases h47:c=47
  ·subst h47
   rfl
  ·have e:kH 47 (c::r)=(c::(kH 47 r).1,(kH 47 r).2):=by rw[kH,if_neg h47]
   by_cases h45:c=45
   ·subst h45
    rw[e]
    rfl
   ·rw[e,DA,DA,decide_eq_false h45]
    simp only[Bool.false_eq_true,if_false,e]
theorem Nq {c:UInt8}:∀ {l:List UInt8},(kH c l).1.length≤l.length∧∀t,(kH c l).2=some t→t.length≤l.length:=by
 intro l
 cases h:(kH c l).2 with
 | none=>rw[(xU h).2.1];exact⟨Nat.le_refl _,fun t ht=>by cases ht⟩
 |
  some r =>
  have:=congrArg List.length (Fm h).2.1
  rw[List.length_append,List.length_cons] at this
  exact⟨by omega,fun t ht=>by cases ht;omega⟩
theorem Lw {n:Nat}:(((aC 4294967296 n).length:Nat):Int)=0↔n=0:=by
 rw[←kD (b:=4294967296) (n:=n) (by decide),←List.length_eq_zero_iff]
 omega
set_option maxRecDepth 100000 in
set_option maxHeartbeats 4000000 in
theorem IN (l:List UInt8) (hl:l.length≤1000000000000):TC 89 [aO l] (Bl l):=by
 refine TC.walk ⟨true,false⟩ I0 rfl (Nat.le_of_ble_eq_true rfl) rfl (RD l) ?_
 have e1:=akP l hl
 obtain⟨l1,l2⟩:=Nq (c:=47) (l:=l)
 have hq:=QD l
 unfold Bl
 rw[hq]
 clear hq
 generalize (kH 47 l).1=f at *
 generalize (kH 47 l).2=s2 at *
 have e2:=NP f
 have ld:(if isNeg f=true then f.drop 1 else f).length≤f.length:=by split<;>simp
 generalize (if isNeg f=true then f.drop 1 else f)=d at *
 generalize isNeg f=neg at *
 have e3:=Bw d (by omega)
 have c1:TC 101 [.sc (.int .u64 1)] (bX 1):=mV 1 (by decide)
 cases hd:gD d with
 |
  false =>
  have hp:lY neg d s2=none:=if_pos (.inl hd)
  rw[hp]
  unfold yH at e3
  rw[hd,if_neg (by decide)] at e3
  simp only[dX,cU,e1,e2,e3,aL,qF,Nat.reduceLeDiff,Nat.reduceLT,Nat.reduceSub,VX,Nat.reduceEqDiff,Nat.reduceAdd]
  exact bJ (d:=6) fH (aH (v:=VB false) rfl)
 |
  true =>
  unfold yH at e3
  rw[hd,if_pos rfl] at e3
  by_cases hz:neg=true∧bL d=0
  ·have hp:lY neg d s2=none:=if_pos (.inr hz)
   rw[hp]
   obtain⟨rfl,DF⟩:=hz
   rw[DF] at e3
   have wX:(((aC 4294967296 0).length:Nat):Int)=0:=Lw.2 rfl
   simp only[dX,cU,e1,e2,e3,fQ,wX,aL,qF,Nat.reduceLeDiff,Nat.reduceLT,Nat.reduceSub,VX,Nat.reduceEqDiff,Nat.reduceAdd]
   exact bJ (d:=6) fH (aH (v:=VB false) rfl)
  ·have hbt:=vW hd
   have wX:neg=true→¬(((aC 4294967296 (bL d)).length:Nat):Int)=0:=fun h h0=>hz ⟨h,Lw.1 h0⟩
   cases s2 with
   |
    none =>
    have hp:lY neg d none=some (mkRat (F7 neg (bL d)) 1):=if_neg (by rw[hd];rintro(h | h);exact absurd h (by decide);exact hz h)
    rw[hp]
    simp only[]
    rw[IP (by decide) (Nat.gcd_one_right _) hz]
    cases neg with
    |
     false =>
     simp only[dX,cU,e1,e2,e3,c1,Option.isSome_none,Option.getD_none,aL,cV,cW,cI,qF,Nat.reduceLeDiff,Nat.reduceLT,Nat.reduceSub,VX,Nat.reduceEqDiff,Nat.reduceAdd]
     exact bJ (d:=6) (qC (aH (v:=VB false) rfl) (aH (bO _)) (aH (bO _))) (aH (v:=VB true) rfl)
    |
     true =>
     have wX:=wX rfl
     simp only[dX,cU,e1,e2,e3,c1,fQ,wX,Option.isSome_none,Option.getD_none,aL,cV,cW,cI,qF,Nat.reduceLeDiff,Nat.reduceLT,Nat.reduceSub,VX,Nat.reduceEqDiff,Nat.reduceAdd]
     exact bJ (d:=6) (qC (aH (v:=VB true) rfl) (aH (bO _)) (aH (bO _))) (aH (v:=VB true) rfl)
   |
    some t =>
    have e4:=Bw t (by have:=l2 t rfl;omega)
    have hp:lY neg d (some t)=if gD t=true∧1<bL t∧Nat.gcd (bL d) (bL t)=1 then some (mkRat (F7 neg (bL d)) (bL t)) else none:=if_neg (by rw[hd];rintro(h | h);exact absurd h (by decide);exact hz h)
    rw[hp]
    cases ht:gD t with
    |
     false =>
     rw[if_neg (fun h=>absurd h.1 (by decide))]
     unfold yH at e4
     rw[ht,if_neg (by decide)] at e4
     cases neg with
     |
      false =>
      simp only[dX,cU,e1,e2,e3,e4,c1,Option.isSome_some,Option.getD_some,aL,cV,cW,cI,qF,Nat.reduceLeDiff,Nat.reduceLT,Nat.reduceSub,VX,Nat.reduceEqDiff,Nat.reduceAdd]
      exact bJ (d:=6) fH (aH (v:=VB false) rfl)
     |
      true =>
      have wX:=wX rfl
      simp only[dX,cU,e1,e2,e3,e4,c1,fQ,wX,Option.isSome_some,Option.getD_some,aL,cV,cW,cI,qF,Nat.reduceLeDiff,Nat.reduceLT,Nat.reduceSub,VX,Nat.reduceEqDiff,Nat.reduceAdd]
      exact bJ (d:=6) fH (aH (v:=VB false) rfl)
    |
     true =>
     have Iy:=vW ht
     unfold yH at e4
     rw[ht,if_pos rfl] at e4
     have c2:=uF (bL t) 1 (CO (by omega)) (CO (Nat.le_trans (Gx (n:=1) (k:=1) (by decide)) (by decide)))
     have c3:=II (bL d) (bL t) (CO (by omega)) (CO (by omega))
     by_cases h1:kZ (bL t) 1≤0
     ·have hle:¬1<bL t:=fun h=>by unfold kZ at h1;rw[if_neg (by omega),if_neg (by omega)] at h1;exact absurd h1 (by decide)
      rw[if_neg (fun h=>hle h.2.1)]
      cases neg with
      |
       false =>
       simp only[dX,cU,e1,e2,e3,e4,c1,c2,h1,Option.isSome_some,Option.getD_some,aL,cV,cW,cI,qF,Nat.reduceLeDiff,Nat.reduceLT,Nat.reduceSub,VX,Nat.reduceEqDiff,Nat.reduceAdd]
       exact bJ (d:=6) fH (aH (v:=VB false) rfl)
      |
       true =>
       have wX:=wX rfl
       simp only[dX,cU,e1,e2,e3,e4,c1,c2,h1,fQ,wX,Option.isSome_some,Option.getD_some,aL,cV,cW,cI,qF,Nat.reduceLeDiff,Nat.reduceLT,Nat.reduceSub,VX,Nat.reduceEqDiff,Nat.reduceAdd]
       exact bJ (d:=6) fH (aH (v:=VB false) rfl)
     ·have aV:1<bL t:=by
       rcases Nat.lt_or_ge 1 (bL t) with h | h
       ·exact h
       ·exfalso
        apply h1
        unfold kZ
        split
        ·decide
        ·rw[if_pos (by omega)];decide
      have hgl:bl (Nat.gcd (bL d) (bL t))≤665:=Nat.le_trans (BW (Nat.le_of_dvd (by omega) (Nat.gcd_dvd_right _ _))) Iy
      have c4:=uF (Nat.gcd (bL d) (bL t)) 1 (CO (by omega)) (CO (Nat.le_trans (Gx (n:=1) (k:=1) (by decide)) (by decide)))
      by_cases hg:Nat.gcd (bL d) (bL t)=1
      ·have h4:kZ (Nat.gcd (bL d) (bL t)) 1=0:=by rw[hg];rfl
       rw[if_pos ⟨rfl,aV,hg⟩]
       simp only[]
       rw[IP (by omega) hg hz]
       cases neg with
       |
        false =>
        simp only[dX,cU,e1,e2,e3,e4,c1,c2,c3,c4,h1,h4,Option.isSome_some,Option.getD_some,aL,cV,cW,cI,qF,Nat.reduceLeDiff,Nat.reduceLT,Nat.reduceSub,VX,Nat.reduceEqDiff,Nat.reduceAdd]
        exact bJ (d:=6) (qC (aH (v:=VB false) rfl) (aH (bO _)) (aH (bO _))) (aH (v:=VB true) rfl)
       |
        true =>
        have wX:=wX rfl
        simp only[dX,cU,e1,e2,e3,e4,c1,c2,c3,c4,h1,h4,fQ,wX,Option.isSome_some,Option.getD_some,aL,cV,cW,cI,qF,Nat.reduceLeDiff,Nat.reduceLT,Nat.reduceSub,VX,Nat.reduceEqDiff,Nat.reduceAdd]
        exact bJ (d:=6) (qC (aH (v:=VB true) rfl) (aH (bO _)) (aH (bO _))) (aH (v:=VB true) rfl)
      ·have h4:¬kZ (Nat.gcd (bL d) (bL t)) 1=0:=by
        unfold kZ
        split<;>(try split)<;>first | decide | omega
       rw[if_neg (fun h=>hg h.2.2)]
       cases neg with
       |
        false =>
        simp only[dX,cU,e1,e2,e3,e4,c1,c2,c3,c4,h1,h4,Option.isSome_some,Option.getD_some,aL,cV,cW,cI,qF,Nat.reduceLeDiff,Nat.reduceLT,Nat.reduceSub,VX,Nat.reduceEqDiff,Nat.reduceAdd]
        exact bJ (d:=6) fH (aH (v:=VB false) rfl)
       |
        true =>
        have wX:=wX rfl
        simp only[dX,cU,e1,e2,e3,e4,c1,c2,c3,c4,h1,h4,fQ,wX,Option.isSome_some,Option.getD_some,aL,cV,cW,cI,qF,Nat.reduceLeDiff,Nat.reduceLT,Nat.reduceSub,VX,Nat.reduceEqDiff,Nat.reduceAdd]
        exact bJ (d:=6) fH (aH (v:=VB false) rfl)
end Go.PM
namespace Go.PM
open Go.Lib
theorem Ok {l:List UInt8} {q:Rat} (h:vV l=some q):Bl l = .dQ [bD q,VB true]:=by unfold Bl;rw[h]
theorem Py {l:List UInt8} (h:vV l=none):Bl l = .dQ [Ew,VB false]:=by unfold Bl;rw[h]
theorem Bd:aB Ew=[VB false,bX 0,bX 0]:=rfl
theorem Dt:isAny Ew=false:=rfl
theorem IW:dN true 3 Ew 0=some Ew:=rfl
end Go.PM
namespace Go.PM
open Go.Lib
end Go.PM
namespace Go.PM
open Go.Lib
theorem NK {α:Type} {f:α→VV} {d e b g c:Nat} {xs:List α} {H:aA} {w:Bool} (hp:∀x,aN (f x)=true) (h:aF H b g=some (xs.map f,e,w)) (hc:xs.length≤c):fz (d+2) H (.ref b g 0 xs.length c)=some (bK f xs):=by
 have:aN (.ref b g 0 xs.length c)=false:=rfl
 unfold PM.fz
 simp only[this,h,Bool.false_eq_true,if_false]
 rw[if_pos ⟨by simp,hc⟩,List.drop_zero,List.take_of_length_le (by simp),mapM_pure (eX hp)]
 rfl
theorem Zl {d:Nat} {H:aA}:fz (d+1) H (.tree [] .nil)=some (.tree [] .op):=by
 unfold PM.fz
 have:aN (.tree [] .nil)=false:=by simp[aN]
 simp[this]
theorem MK {H:aA}:fz depth H (.dQ [.tree [] .nil,VB false])=some (.dQ [.tree [] .op,VB false]):=bJ (d:=6) Zl (aH (v:=VB false) rfl)
theorem A2 {u v:VV} (hu:fY u=true) (hv:fY v=true):fY (.dQ [u,v])=true:=by simp only[fY,oJ,hu,hv,Bool.and_self]
theorem tQ {u v:VV} (hu:aN u=true) (hv:aN v=true):aN (.dQ [u,v])=true:=by simp only[aN,aP,hu,hv,Bool.and_self]
theorem LH {u:VV} (hu:aN u=true):aP [u]=true:=by simp only[aP,hu,Bool.and_self]
theorem Fp {u v:VV} (hu:aN u=true) (hv:aN v=true):aP [u,v]=true:=by simp only[aP,hu,hv,Bool.and_self]
def pQ (s:ByteArray):Option Rat:=vV s.data.toList
theorem Yo (s:ByteArray):sV s=aO s.data.toList:=rfl
def uC (xs:List ByteArray):Option (List Rat):=if xs.length≤300 then xs.mapM pQ else none
def PD (o:Option (List Rat)):VV:=match o with
 | some qs => .dQ [bK bD qs,VB true]
 | none => .dQ [bK bD [],VB false]
theorem Kr (q:Rat):(aB (bD q)).length=3:=rfl
theorem uP (qs:List Rat):aN (bK bD qs)=true:=lG Kr lI
theorem TG (q:Rat):xG (bD q)=true:=by simp[xG,bD,bX]
theorem Lb (qs:List Rat):fY (bK bD qs)=true:=BP Kr Ed TG
theorem T7 (o:Option (List Rat)):fY (PD o)=true:=by
 unfold PD
 split
 ·exact A2 (Lb _) rfl
 ·exact A2 (Lb []) rfl
theorem Co {α β:Type} {f:α→Option β} {xs:List α} {ys:List β} {x:α} {y:β} (h:xs.mapM f=some ys) (hx:f x=some y):(xs++[x]).mapM f=some (ys++[y]):=by
 rw[List.mapM_append,h]
 simp[hx]
theorem mapM_none {α β:Type} {f:α→Option β} {x:α} (hx:f x=none):∀ {xs:List α},x∈xs→xs.mapM f=none
 | [],h=>by cases h
 |
  y::xs,h=>by
  rw[List.mapM_cons]
  cases hy:f y with
  | none=>rfl
  |
   some z =>
   rcases List.mem_cons.1 h with rfl | h
   ·rw[hx] at hy;cases hy
   ·show ((xs.mapM f).bind fun zs=>some (z::zs))=none
    rw[mapM_none hx h];rfl
theorem mapM_mem {α β:Type} {f:α→Option β} {P:β→Prop} (hP:∀x y,f x=some y→P y):∀ {xs:List α} {ys:List β},xs.mapM f=some ys→∀y∈ys,P y
 | [],ys,h,y,hy=>by simp at h;subst h;cases hy
 |
  x::xs,ys,h,y,hy=>by
  rw[List.mapM_cons] at h
  cases hx:f x with
  | none=>rw[hx] at h;cases h
  |
   some z =>
   rw[hx] at h
   cases hs:xs.mapM f with
   | none=>rw[hs] at h;cases h
   |
    some zs =>
    rw[hs] at h
    cases h
    rcases List.mem_cons.1 hy with rfl | hy
    ·exact hP _ _ hx
    ·exact mapM_mem hP hs _ hy
theorem nD {α:Type} {xs:List α} {i:Nat} {x:α} (h:xs[i]? = some x):xs.take (i+1)=xs.take i++[x]:=by rw[List.take_add_one,h];rfl
theorem HZ {xs:List ByteArray} {qs:List Rat} (h:uC xs=some qs):(∀q∈qs,fK q≤665)∧qs.length≤300∧qs.length=xs.length:=by
 unfold uC at h
 split at h
 ·rename_i hl
  have:=mB h
  exact⟨mapM_mem (fun _ _ h=>Ra h) h,by omega,this⟩
 ·cases h
end Go.PM
namespace Go.PM
open Go.Lib
theorem PA {α:Type} {l:List α} (h:l.Nodup) {i j:Nat} {x:α} (hi:l[i]? = some x) (hj:l[j]? = some x):i=j:=by
 obtain⟨hi,nF⟩:=List.getElem?_eq_some_iff.1 hi
 obtain⟨hj,hj'⟩:=List.getElem?_eq_some_iff.1 hj
 have h:=List.pairwise_iff_getElem.1 h
 rcases Nat.lt_trichotomy i j with aV | heq | hgt
 ·exact absurd (nF.trans hj'.symm) (h i j hi hj aV)
 ·exact heq
 ·exact absurd (hj'.trans nF.symm) (h j i hj hi hgt)
section
variable {α:Type} {f:α→VV} {e lo hi:Nat} {H H':aA} {v:VV}
def cP (lo hi:Nat) (H H':aA):Prop:=∀b g x,lo≤b→b<hi→aF H b g=some x→aF H' b g=some x
theorem cP.pre (h:H <+: H'):cP lo hi H H':=fun _ _ _ _ _=>bT h
theorem cP.refl:cP lo hi H H:=fun _ _ _ _ _ h=>h
theorem cP.trans {YT:aA} (h:cP lo hi H H') (h':cP lo hi H' YT):cP lo hi H YT:=fun b g x h1 h2 h3=>h' b g x h1 h2 (h b g x h1 h2 h3)
theorem cP.sub {l h':Nat} (h:cP lo hi H H') (hl:lo≤l) (hh:h'≤hi):cP l h' H H':=fun b g x h1 h2=>h b g x (by omega) (by omega)
theorem cP.set {b:Nat} {x:bU} (hb:b<lo∨hi≤b):cP lo hi H (H.set b x):=fun _ _ _ h1 h2=>aM (by omega)
theorem cP.move {L:aA}:cP H.length hi (List.replicate H.length .dead++L) (H++L):=fun _ _ _ h1 _=>US h1
def MS (f:α→VV) (e:Nat) (aY:List α) (lo hi:Nat) (H:aA) (v:VV):Prop :=
 (v = .tree [] .nil∧aY=[])∨∃b g c,lo≤b∧b<hi∧v = .ref b g 0 aY.length c∧aY.length≤c∧aF H b g=some (aY.map f,e,true)
theorem MS.bM {aY:List α} (h:MS f e aY lo hi H v) (hk:cP lo hi H H'):MS f e aY lo hi H' v:=by
 rcases h with h | ⟨b,g,c,h1,h2,h3,h4,h5⟩
 ·exact .inl h
 ·exact .inr ⟨b,g,c,h1,h2,h3,h4,hk _ _ _ h1 h2 h5⟩
theorem MS.wide {aY:List α} {iZ nF:Nat} (h:MS f e aY lo hi H v) (hl:iZ≤lo) (hh:hi≤nF):MS f e aY iZ nF H v:=by
 rcases h with h | ⟨b,g,c,h1,h2,h3⟩
 ·exact .inl h
 ·exact .inr ⟨b,g,c,by omega,by omega,h3⟩
theorem B9 {d b g c:Nat} {xs:List α} {w:Bool} (hp:∀x,aN (f x)=true) (h:aF H b g=some (xs.map f,e,w)) (hc:xs.length≤c):fz (d+2) H (.ref b g 0 xs.length c)=some (bK f xs):=by
 have:aN (.ref b g 0 xs.length c)=false:=rfl
 show PM.fz ((d+1)+1) H _=_
 unfold PM.fz
 simp only[this,h,Bool.false_eq_true,if_false]
 rw[if_pos ⟨by simp,hc⟩,List.drop_zero,List.take_of_length_le (by simp),mapM_pure (n:=d) (eX hp)]
 rfl
theorem MS.fz {d:Nat} {aY:List α} (h:MS f e aY lo hi H v) (hp:∀x,aN (f x)=true):PM.fz (d+2) H v=some (bK f aY):=by
 rcases h with⟨rfl,rfl⟩ | ⟨b,g,c,h1,h2,rfl,h4,h5⟩
 ·exact Js
 ·exact B9 hp h5 h4
structure wA (α:Type) where
 b:Nat
 g:Nat
 c:Nat
 xs:List α
def nE (r:wA α):VV := .ref r.b r.g 0 r.xs.length r.c
structure KT (f:α→VV) (e lo hi b:Nat) (H:aA) (rs:List (wA α)):Prop where
 nd:(rs.map (·.b)).Nodup
 row:∀r∈rs,lo≤r.b∧r.b<hi∧r.b≠b∧r.xs.length≤r.c∧aF H r.b r.g=some (r.xs.map f,e,true)
def RG (f:α→VV) (e:Nat) (aY:List (List α)) (lo hi:Nat) (H:aA) (v:VV):Prop :=
 (v = .tree [] .nil∧aY=[])∨∃b g c rs,lo≤b∧b<hi∧v = .ref b g 0 aY.length c∧aY.length≤c∧aF H b g=some (rs.map nE,1,true)∧rs.map (·.xs)=aY∧KT f e lo hi b H rs
theorem RG.bM {aY:List (List α)} (h:RG f e aY lo hi H v) (hk:cP lo hi H H'):RG f e aY lo hi H' v:=by
 rcases h with h | ⟨b,g,c,rs,h1,h2,h3,h4,h5,h6,h7⟩
 ·exact .inl h
 ·exact .inr ⟨b,g,c,rs,h1,h2,h3,h4,hk _ _ _ h1 h2 h5,h6,h7.nd,fun r hr=>by
   obtain⟨k1,k2,k3,k4,k5⟩:=h7.row r hr
   exact⟨k1,k2,k3,k4,hk _ _ _ k1 k2 k5⟩⟩
theorem RG.wide {aY:List (List α)} {iZ nF:Nat} (h:RG f e aY lo hi H v) (hl:iZ≤lo) (hh:hi≤nF):RG f e aY iZ nF H v:=by
 rcases h with h | ⟨b,g,c,rs,h1,h2,h3,h4,h5,h6,h7⟩
 ·exact .inl h
 ·exact .inr ⟨b,g,c,rs,by omega,by omega,h3,h4,h5,h6,h7.nd,fun r hr=>by
   obtain⟨k1,k2,k3,k4,k5⟩:=h7.row r hr
   exact⟨by omega,by omega,k3,k4,k5⟩⟩
theorem RI {d b g c lo hi:Nat} {rs:List (wA α)} {w:Bool} (hp:∀x,aN (f x)=true) (h:aF H b g=some (rs.map nE,1,w)) (hc:rs.length≤c) (hR:KT f e lo hi b H rs) :
  fz (d+3) H (.ref b g 0 rs.length c)=some (bK (bK f) (rs.map (·.xs))):=by
 have:aN (.ref b g 0 rs.length c)=false:=rfl
 show PM.fz ((d+2)+1) H _=_
 unfold PM.fz
 simp only[this,h,Bool.false_eq_true,if_false]
 rw[if_pos ⟨by simp,hc⟩,List.drop_zero,List.take_of_length_le (by simp),mapM_map (f:=nE) (f':=fun r=>bK f r.xs) fun r hr=>B9 hp (hR.row r hr).2.2.2.2 (hR.row r hr).2.2.2.1]
 simp[bK,List.map_map]
theorem RG.fz {d:Nat} {aY:List (List α)} (h:RG f e aY lo hi H v) (hp:∀x,aN (f x)=true):PM.fz (d+3) H v=some (bK (bK f) aY):=by
 rcases h with⟨rfl,rfl⟩ | ⟨b,g,c,rs,h1,h2,rfl,h4,h5,rfl,h7⟩
 ·exact Js
 ·rw[List.length_map] at h4 ⊢
  exact RI hp h5 h4 h7
theorem HG {d:Nat} {us DI:List VV} (h:us.mapM (PM.fz (d+1) H)=some DI):PM.fz (d+2) H (.agg us)=some (.agg DI):=by
 have e:PM.fz (d+2) H (.agg us)=if aN (.agg us)=true then some (.agg us) else (us.mapM (PM.fz (d+1) H)).map .agg:=rfl
 rw[e]
 by_cases hq:aN (.agg us)=true
 ·rw[if_pos hq]
  have:us.mapM (PM.fz (d+1) H)=some us:=mapM_pure hq
  rw[this] at h
  cases h
  rfl
 ·rw[if_neg hq,h]
  rfl
def M4 (P:Nat→Nat→aA→VV→Prop) (ok:Bool) (n:Nat) (r:VV) (L:aA):Prop :=
 ∃v,r = .dQ [v,.sc (.bool ok)]∧P n (n+L.length) (List.replicate n .dead++L) v
theorem Jl {F lo:Nat} {args gQ:List VV} {P:Nat→Nat→aA→VV→Prop} {ok:Bool} {H:aA} {K:VV→aA→Prop} (h:FC F gQ (M4 P ok)) (vB:BJ.contains F=true) (hf:args.mapM (PM.fz depth H)=some gQ)
  (hP:∀ {lo hi H H' v},P lo hi H v→cP lo hi H H'→P lo hi H' v) (hk:∀v H',H <+: H'→P H.length H'.length H' v→K (.dQ [v,.sc (.bool ok)]) H'):cZ F args lo H K:=by
 refine h.call vB hf ?_
 rintro r L ⟨v,rfl,hv⟩
 refine hk v _ (List.prefix_append _ _) ?_
 rw[List.length_append]
 exact hP hv cP.move
end
def El (T:VV) (lo hi:Nat) (H:aA) (v:VV):Prop:=∀H',cP lo hi H H'→fz depth H' v=some T
theorem El.bM {T:VV}:∀ {lo hi H H' v},El T lo hi H v→cP lo hi H H'→El T lo hi H' v:=fun h hk _ h'=>h _ (hk.trans h')
theorem El.now {T v:VV} {lo hi:Nat} {H:aA} (h:El T lo hi H v):fz depth H v=some T:=h H cP.refl
def CG (aY:List (List ByteArray)) (lo hi:Nat) (H:aA) (v:VV):Prop:=∃c,v = .agg [c]∧RG sV 1 aY lo hi H c
theorem CG.bM {aY:List (List ByteArray)}:∀ {lo hi H H' v},CG aY lo hi H v→cP lo hi H H'→CG aY lo hi H' v:=by
 rintro lo hi H H' v ⟨c,h1,h2⟩ hk
 exact⟨c,h1,h2.bM hk⟩
theorem CG.fz {aY:List (List ByteArray)} {lo hi:Nat} {H:aA} {v:VV} (h:CG aY lo hi H v):PM.fz depth H v=some (chV aY):=by
 obtain⟨c,rfl,h⟩:=h
 refine HG (d:=6) ?_
 rw[List.mapM_cons,h.fz (d:=4) fun _=>rfl]
 rfl
theorem CG.seen {aY:List (List ByteArray)} {lo hi:Nat} {H:aA} {v:VV} (h:CG aY lo hi H v):El (chV aY) lo hi H v:=fun _ hk=>(h.bM hk).fz
def DO (s:B0) (lo hi:Nat) (H:aA) (v:VV):Prop:=∃a b c m1 m2,v = .agg [a,b,c]∧lo≤m1∧m1≤m2∧m2≤hi∧MS sV 1 s.b lo m1 H a∧RG sV 1 s.g m1 m2 H b∧MS sV 1 s.e m2 hi H c
theorem DO.bM {s:B0}:∀ {lo hi H H' v},DO s lo hi H v→cP lo hi H H'→DO s lo hi H' v:=by
 rintro lo hi H H' v ⟨a,b,c,m1,m2,h1,k1,k2,k3,h2,h3,h4⟩ hk
 exact⟨a,b,c,m1,m2,h1,k1,k2,k3,h2.bM (hk.sub (by omega) (by omega)),h3.bM (hk.sub (by omega) (by omega)),h4.bM (hk.sub (by omega) (by omega))⟩
theorem Qc {s:B0} {l1 h1 l2 h2 l3 h3:Nat} {H:aA} {a b c:VV} (ha:MS sV 1 s.b l1 h1 H a) (hb:RG sV 1 s.g l2 h2 H b) (hc:MS sV 1 s.e l3 h3 H c):PM.fz depth H (.agg [a,b,c])=some (NQ s):=by
 refine HG (d:=6) ?_
 rw[List.mapM_cons,ha.fz (d:=5) fun _=>rfl]
 rw[List.mapM_cons,hb.fz (d:=4) fun _=>rfl]
 rw[List.mapM_cons,hc.fz (d:=5) fun _=>rfl]
 rfl
theorem DO.fz {s:B0} {lo hi:Nat} {H:aA} {v:VV} (h:DO s lo hi H v):PM.fz depth H v=some (NQ s):=by
 obtain⟨a,b,c,m1,m2,rfl,k1,k2,k3,h2,h3,h4⟩:=h
 exact Qc h2 h3 h4
theorem DO.seen {s:B0} {lo hi:Nat} {H:aA} {v:VV} (h:DO s lo hi H v):El (NQ s) lo hi H v:=fun _ hk=>(h.bM hk).fz
theorem MS.seen {aY:List ByteArray} {lo hi:Nat} {H:aA} {v:VV} (h:MS sV 1 aY lo hi H v):El (jX aY) lo hi H v:=fun _ hk=>(h.bM hk).fz (d:=6) fun _=>rfl
def PR (k:Int):ByteArray:=⟨(109::(if k≤0 then [48] else decDigits k.toNat)).toArray⟩
theorem AE (k:Int) (hk:0≤k∧k≤1000000000):TC 130 [VI k] (.sc (.string (PR k))):=by
 refine TC.walk ⟨true,false⟩ G7 rfl (Nat.le_of_ble_eq_true rfl) rfl rfl ?_
 by_cases h0:k≤0
 ·have e:PR k=⟨#[109,48]⟩:=by unfold PR;rw[if_pos h0]
  rw[e]
  simp only[xM,sL,h0,VX,Nat.reduceEqDiff,Nat.reduceAdd]
  exact aI rfl
 obtain⟨n,rfl⟩:∃n:Nat,k=n:=⟨k.toNat,by omega⟩
 have e1:∀(x:UInt8) (H:aA),jM false [.int .u8 0] 1 [(0,bV x)] H=some (.tree [bV x] (.cl 1),H):=fun x H=>eW rfl rfl rfl
 simp only[xM,sL,h0,VX,Nat.reduceEqDiff,Nat.reduceAdd]
 refine aR (fun(s:Nat×List UInt8) ρ H=>s.1≤n∧H=[]∧ρ 0=VI s.1∧ρ 3=aO s.2∧decDigits n=kG s.1++s.2) (fun s=>s.1) (n,[]) ⟨Nat.le_refl _,rfl,rfl,rfl,by rw[List.append_nil,kG,if_neg (by omega)]⟩ ?_
 rintro⟨r,bs⟩ ρ H ⟨hr,rfl,g0,g3,hd⟩
 simp only at hr hd g0 g3
 have vZ:bs.length≤11:=by
  have h1:=tX n 10 (by omega)
  rw[hd,List.length_append] at h1
  omega
 by_cases hz:(0:Int)<(r:Int)
 ·have em:=Ox (r:Int)
  have eq:=aaS (r:Int) (by omega) (by omega)
  have m1:((r:Int)).tmod 10=((r % 10:Nat):Int):=by rw[Int.tmod_eq_emod_of_nonneg (by omega)];omega
  have m2:((r:Int)).tdiv 10=((r / 10:Nat):Int):=by rw[Int.tdiv_eq_ediv_of_nonneg (by omega)];omega
  rw[m1] at em
  rw[m2] at eq
  have w1:IntKind.i64.wrap (48+((r % 10:Nat):Int))=((48+r % 10:Nat):Int):=wrapN _ (by omega) (by omega)
  have w2:IntKind.u8.wrap ((48+r % 10:Nat):Int)=((d10 (r % 10)).toNat:Int):=by
   rw[KO (Nat.mod_lt _ (by decide))]
   simp[IntKind.wrap,IntKind.bits,IntKind.signed]
   omega
  have bs2:=fun aU (h:dU aU (.tmp 12) = .tree [bV (d10 (r % 10))] (.cl 1))=>(Dk.tree (bs:=[d10 (r % 10)]) (k := .cl 1) (H:=[])).str (fl:=⟨true,false⟩) (lo:=0) h
  have WY:decDigits n=kG (r / 10)++d10 (r % 10)::bs:=by
   refine Fh ?_
   rw[hd,kG,if_neg (by omega)]
  have ea:=oB [d10 (r % 10)] bs (by have:=vZ;simp only[List.length_cons,List.length_nil];omega)
  simp only[qW,g0,g3,hz,em,eq,w1,w2,e1,MY,VX,Nat.reduceEqDiff,Nat.reduceAdd]
  rw[bs2 _ rfl]
  simp only[g0,g3,em,eq,ea,VX,Nat.reduceEqDiff,Nat.reduceAdd]
  exact⟨(r / 10,d10 (r % 10)::bs),by simp only;omega,by simp only;omega,rfl,rfl,WY⟩
 ·have BG:r=0:=by omega
  subst BG
  simp only[qW,g0,hz,VX,Nat.reduceEqDiff,Nat.reduceAdd]
  have hb:bs=decDigits n:=by rw[hd,kG,if_pos rfl,List.nil_append]
  have e:PR (n:Int)=⟨(109::bs).toArray⟩:=by
   unfold PR
   rw[if_neg h0,Int.toNat_natCast,hb]
  have ea:=oB [109] bs (by simp only[List.length_cons,List.length_nil];omega)
  have ea:dB .add (.string ⟨#[109]⟩) (.string ⟨bs.toArray⟩)=some (.string ⟨(109::bs).toArray⟩):=ea
  rw[e]
  simp only[g3,ea,VX,Nat.reduceEqDiff,Nat.reduceAdd]
  exact aI rfl
theorem Zc (k:Int):dB .neq (.string (PR k)) (.string (PR k))=some (.bool false):=by
 unfold PR
 rw[LP]
 simp
abbrev hX (k:Int) (n:Nat):List ByteArray:=(iota k n).map PR
theorem oN (k:Int) (n:Nat):(hX k n).length=n:=by rw[List.length_map,NA]
theorem QW {k:Int} {n i:Nat} (h:i<n):(hX k n)[i]? = some (PR (k+i)):=by
 rw[List.getElem?_map]
 simp[iota,List.getElem?_range,h]
theorem vG {lo b g n c:Nat} {H:aA} (xs:List ByteArray) (k:Int) (hr:aF H b g=some (xs.map sV,1,true)) (hn:n≤xs.length) (eJ:lo≤b) (hk:0≤k∧k≤100000000) (hn':n≤100000000) :
  iV 50 [.ref b g 0 n c,VI k] lo H fun r H'=>r=VI (k+n)∧H'=H.set b (.row g ((hX k n++xs.drop n).map sV) 1 true):=by
 refine iV.walk ⟨true,false⟩ uX (Nat.le_of_ble_eq_true rfl) ?_
 have hb:b<H.length:=(List.getElem?_eq_some_iff.1 (cC.1 hr)).1
 have h00:H=H.set b (.row g ((hX k 0++xs.drop 0).map sV) 1 true):=by
  have h':=cC.1 hr
  obtain⟨aV,CC⟩:=List.getElem?_eq_some_iff.1 h'
  have:hX k 0++xs.drop 0=xs:=by simp[iota]
  rw[this,←CC,List.set_getElem_self]
 simp only[qM,oK,VX,Nat.reduceEqDiff,Nat.reduceAdd]
 refine aR (fun(i:Nat) ρ H1=>i≤n∧H1=H.set b (.row g ((hX k i++xs.drop i).map sV) 1 true)∧ρ 0 = .ref b g 0 n c∧ρ 1=VI (k+i)∧ρ 5=VI i) (fun i=>n-i) 0 ⟨Nat.zero_le _,h00,rfl,by simp only[VX,Nat.reduceEqDiff,Nat.reduceAdd];simp,rfl⟩ ?_
 rintro i ρ H1 ⟨hi,rfl,h0,h1,h5⟩
 have hR:aF (H.set b (.row g ((hX k i++xs.drop i).map sV) 1 true)) b g=some ((hX k i++xs.drop i).map sV,1,true):=cC.2 (List.getElem?_set_self hb)
 have hlen:(hX k i++xs.drop i).length=xs.length:=by rw[List.length_append,oN,List.length_drop];omega
 have el:=eZ (o:=0) (n:=n) (c:=c) hR
 by_cases dK:(i:Int)<(n:Int)
 ·have e1:=aQ (o:=0) (n:=n) (c:=c) (i:=i) (k := .i64) hR (by omega)
  have e2:=dO (f:=sV) (e:=1) (x:=PR (k+i)) (j:=i) (lo:=lo) hR (by omega) eJ rfl rfl
  have e3:=AE (k+i) (by omega)
  have hs:(hX k i++xs.drop i).set i (PR (k+i))=hX k (i+1)++xs.drop (i+1):=by
   obtain⟨x,hx⟩:∃x,xs[i]? = some x:=⟨_,List.getElem?_eq_getElem (by omega)⟩
   have hd:xs.drop i=x::xs.drop (i+1):=by
    have aV:=List.getElem?_eq_some_iff.1 hx
    rw[List.drop_eq_getElem_cons aV.1,aV.2]
   rw[List.set_append_right _ _ (by rw[oN];exact Nat.le_refl _),oN,Nat.sub_self,hd,List.set_cons_zero]
   have:hX k (i+1)=hX k i++[PR (k+i)]:=by
    show (iota k (i+1)).map PR=(iota k i).map PR++[PR (k+i)]
    unfold iota
    rw[List.range_succ,List.map_append,List.map_append]
    rfl
   rw[this,List.append_assoc]
   rfl
  rw[List.set_set,hs] at e2
  have w1:IntKind.i64.wrap (k+i+1)=k+((i+1:Nat):Int):=by rw[wrap64 (by omega) (by omega)];omega
  have wi:IntKind.i64.wrap ((i:Int)+1)=((i+1:Nat):Int):=wrapN (i+1) (by omega) (by omega)
  simp only[jU,h0,h1,h5,dK,el,e1,e2,e3,w1,wi,VX,Nat.reduceEqDiff,Nat.reduceAdd]
  exact⟨i+1,by omega,by omega,by (repeat' apply And.intro)<;>first | rfl | trivial⟩
 ·have qG:i=n:=by omega
  subst qG
  simp only[jU,h0,h1,h5,dK,el,VX,Nat.reduceEqDiff,Nat.reduceAdd]
theorem BM {lo:Nat} {H:aA} (k:Int):iV 50 [.tree [] .nil,VI k] lo H fun r H'=>r=VI k∧H'=H:=by
 refine iV.walk ⟨true,false⟩ uX (Nat.le_of_ble_eq_true rfl) ?_
 simp only[qM,oK,VX,Nat.reduceEqDiff,Nat.reduceAdd]
 refine aR (fun(_:Unit) ρ H1=>H1=H∧ρ 0 = .tree [] .nil∧ρ 1=VI k∧ρ 5=VI 0) (fun _=>0) () ⟨rfl,rfl,rfl,rfl⟩ ?_
 rintro _ ρ H1 ⟨rfl,h0,h1,h5⟩
 simp only[jU,h0,h1,h5,List.length_nil,Int.natCast_zero,Int.lt_irrefl,Int.reduceLT,VX,Nat.reduceEqDiff,Nat.reduceAdd]
theorem oS (k:Int) (n:Nat) (hk:0≤k∧k≤100000000) (hn:n≤100000000):TC 57 [jX (hX k n),VI k] (VI (k+n)):=by
 refine TC.walk ⟨true,false⟩ Dm rfl (Nat.le_of_ble_eq_true rfl) (Fp (kS _) rfl) rfl ?_
 simp only[zH,vK,VX,Nat.reduceEqDiff,Nat.reduceAdd]
 refine aR (fun(i:Nat) ρ H=>i≤n∧H=[]∧ρ 0=jX (hX k n)∧ρ 1=VI (k+i)∧ρ 5=VI i) (fun i=>n-i) 0 ⟨Nat.zero_le _,rfl,rfl,by simp only[VX,Nat.reduceEqDiff,Nat.reduceAdd];simp,rfl⟩ ?_
 rintro i ρ H ⟨hi,rfl,h0,h1,h5⟩
 have hlen:=oN k n
 by_cases dK:(i:Int)<(n:Int)
 ·have hx:=QW (k:=k) (n:=n) (i:=i) (by omega)
  have e1:=aK (f:=sV) (t := .op) (H:=[]) (size:=1) (k := .i64) hx rfl
  have e3:=AE (k+i) (by omega)
  have w1:IntKind.i64.wrap (k+i+1)=k+((i+1:Nat):Int):=by rw[wrap64 (by omega) (by omega)];omega
  have wi:IntKind.i64.wrap ((i:Int)+1)=((i+1:Nat):Int):=wrapN (i+1) (by omega) (by omega)
  simp only[nO,h0,h1,h5,dK,hlen,e1,e3,w1,wi,Zc,VX,Nat.reduceEqDiff,Nat.reduceAdd]
  exact⟨i+1,by omega,by omega,by (repeat' apply And.intro)<;>first | rfl | trivial⟩
 ·have qG:i=n:=by omega
  subst qG
  simp only[nO,h0,h1,h5,dK,hlen,VX,Nat.reduceEqDiff,Nat.reduceAdd]
  exact aI rfl
theorem Sp {lo hi iZ:Nat} {aY:List ByteArray} {H:aA} {v:VV} {k:Int} {K:VV→aA→Prop} (hv:MS sV 1 aY lo hi H v) (eJ:iZ≤lo) (hk:0≤k∧k≤100000000) (hn:aY.length≤100000000)
  (hK:∀H',H'.length=H.length→MS sV 1 (hX k aY.length) lo hi H' v→(∀b g x,b<lo∨hi≤b→aF H b g=some x→aF H' b g=some x)→K (VI (k+aY.length)) H') :
  cZ 50 [v,VI k] iZ H K:=by
 rcases hv with⟨rfl,rfl⟩ | ⟨b,g,c,h1,h2,rfl,h4,h5⟩
 ·refine eB rfl ((BM k).mono ?_)
  rintro r H' ⟨rfl,rfl⟩
  have:=hK H' rfl (.inl ⟨rfl,rfl⟩) fun _ _ _ _ h=>h
  simpa using this
 ·refine eB rfl ((vG aY k h5 (Nat.le_refl _) (Nat.le_trans eJ h1) hk hn).mono ?_)
  rintro r H' ⟨rfl,rfl⟩
  refine hK _ (by simp) (.inr ⟨b,g,c,h1,h2,by rw[oN],by rw[oN];exact h4,?_⟩) fun b' g' x oQ h=>aM (by omega) h
  rw[List.drop_length,List.append_nil]
  exact dA h5
end Go.PM