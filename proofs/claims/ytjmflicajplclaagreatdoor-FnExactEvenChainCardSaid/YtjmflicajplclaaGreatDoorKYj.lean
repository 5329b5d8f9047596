/- Texts of a claim, in one: part 10. -/
import Derived.Lib.Bytealg
import Derived.Lib.ParseIntB
import Derived.Test.YtjmflicajplclaaGreatDoorKYi
set_option linter.unusedSimpArgs false
set_option linter.unusedVariables false
namespace Go.PM
open Go.Lib
theorem rC (a b:List UInt8) (h:a.length+b.length≤9223372036854775807):dG .add (.string ⟨a.toArray⟩) (.string ⟨b.toArray⟩)=some (.string ⟨(a++b).toArray⟩):=by
 have h1:(⟨a.toArray⟩:ByteArray).size=a.length:=by simp[ByteArray.size]
 have h2:(⟨b.toArray⟩:ByteArray).size=b.length:=by simp[ByteArray.size]
 have h3:¬(((⟨a.toArray⟩:ByteArray).size+(⟨b.toArray⟩:ByteArray).size:Nat):Int)>IntKind.i64.max:=by
  rw[h1,h2]
  show ¬_>(9223372036854775807:Int)
  omega
 simp only[dG,h3,if_false]
 congr 2
theorem bU (a:List UInt8):Bi (.string ⟨a.toArray⟩)=some (.int .i64 (a.length:Int)):=by simp[Bi,ByteArray.size]
theorem akC:∀a:List UInt8,(aB (bC a)).length=1:=fun _=>rfl
theorem Yx {xs:List (List UInt8)} {H:aA} {lo b g n:Nat} (hr:aF H b g=some (xs.map bC,1,true)) (hn:xs.length=n) (dP:lo≤b) (Eh:n≤9223372036854775806) :
  jC 216 [.ref b g 0 n n] lo H fun r H'=>r = .dR []∧H'=H.set b (.row g (xs.reverse.map bC) 1 true):=by
 refine jC.walk ⟨true,false⟩ sH (Nat.le_of_ble_eq_true rfl) ?_
 have e0:oS (.ref b g 0 n n) H=some (VI n):=dX hr
 have w0:IntKind.i64.wrap ((n:Int)-1)=(n:Int)-1:=wrap64 (by omega) (by omega)
 simp only[lL,kS,e0,w0,VX,Nat.reduceEqDiff,Nat.reduceAdd]
 refine aU (fun(t:Nat×List (List UInt8)) ρ K=>t.1≤n∧K=H.set b (.row g (t.2.map bC) 1 true)∧t.2.length=n∧(∀k,k<n→t.2[k]? = if k<t.1∨n≤k+t.1 then xs[n-1-k]? else xs[k]?)∧ρ 0 = .ref b g 0 n n∧ρ 2=VI t.1∧ρ 3=VI ((n:Int)-1-(t.1:Int))) (fun t=>n-t.1) (0,xs) ⟨Nat.zero_le _,(xP hr).symm,hn,fun k hk=>by rw[if_neg (by simp only;omega)],rfl,rfl,by show VI ((n:Int)-1)=VI ((n:Int)-1-((0:Nat):Int));rw[Int.natCast_zero,Int.sub_zero]⟩ ?_
 rintro⟨i,ys⟩ ρ K ⟨hi,rfl,hl,hy,g0,g2,g3⟩
 simp only at hi hl hy g2 g3
 have hr2:aF (H.set b (.row g (ys.map bC) 1 true)) b g=some (ys.map bC,1,true):=nM hr
 by_cases cS:(i:Int)<(n:Int)-1-(i:Int)
 ·have hj:(n:Int)-1-(i:Int)=((n-1-i:Nat):Int):=by omega
  obtain⟨x,hx⟩:∃x,ys[i]? = some x:=⟨_,List.getElem?_eq_getElem (by omega)⟩
  obtain⟨y,hyy⟩:∃y,ys[n-1-i]? = some y:=⟨_,List.getElem?_eq_getElem (by omega)⟩
  rw[hj] at g3 cS
  have a1:∀(zs:List (List UInt8)) (k:Nat),zs.length=n→k<n→bQ 1 (.ref b g 0 n n) (VI (k:Int)) (H.set b (.row g (zs.map bC) 1 true))=some (.ptr b g k 0):=fun zs k h1 h2=>by rw[bD (nM hr) h2,Nat.zero_add]
  have l1:bX false 1 (.ptr b g (n-1-i) 0) (H.set b (.row g (ys.map bC) 1 true))=some (bC y):=pI hr2 hyy
  have l2:bX false 1 (.ptr b g i 0) (H.set b (.row g (ys.map bC) 1 true))=some (bC x):=pI hr2 hx
  have s1:bI lo 1 (.ptr b g i 0) (bC y) (H.set b (.row g (ys.map bC) 1 true))=some (H.set b (.row g ((ys.set i y).map bC) 1 true)):=by rw[fA (f:=bC) (e:=1) hr2 (by omega) dP rfl rfl,mE]
  have s2:bI lo 1 (.ptr b g (n-1-i) 0) (bC x) (H.set b (.row g ((ys.set i y).map bC) 1 true))=some (H.set b (.row g (((ys.set i y).set (n-1-i) x).map bC) 1 true)):=by rw[fA (f:=bC) (e:=1) (nM hr) (by rw[List.length_set];omega) dP rfl rfl,mE]
  have w1:IntKind.i64.wrap ((i:Int)+1)=((i+1:Nat):Int):=wrapN _ (by omega) (by omega)
  have w2:IntKind.i64.wrap (((n-1-i:Nat):Int)-1)=(n:Int)-1-((i+1:Nat):Int):=by rw[wrap64 (by omega) (by omega)];omega
  have b1:=a1 ys i hl (by omega)
  have b2:=a1 ys (n-1-i) hl (by omega)
  have b3:=a1 (ys.set i y) (n-1-i) (by rw[List.length_set];exact hl) (by omega)
  simp only[fP,g0,g2,g3,cS,b1,b2,b3,l1,l2,s1,s2,w1,w2,VX,Nat.reduceEqDiff,Nat.reduceAdd]
  refine⟨(i+1,(ys.set i y).set (n-1-i) x),by simp only;omega,by simp only;omega,rfl,by simp only[List.length_set];exact hl,fun k hk => ?_,by (repeat' apply And.intro)<;>first | rfl | trivial⟩
  simp only
  have hxx:=hy i (by omega)
  rw[if_neg (by omega),hx] at hxx
  have hyx:=hy (n-1-i) (by omega)
  rw[if_neg (by omega),hyy] at hyx
  rw[List.getElem?_set,List.getElem?_set,List.length_set]
  by_cases h1:n-1-i=k
  ·subst h1
   rw[if_pos rfl,if_pos (by omega),if_pos (by omega),show n-1-(n-1-i)=i by omega]
   exact hxx
  ·rw[if_neg h1]
   by_cases h2:i=k
   ·subst h2
    rw[if_pos rfl,if_pos (by omega),if_pos (by omega)]
    exact hyx
   ·rw[if_neg h2,hy k hk]
    by_cases h3:k<i∨n≤k+i
    ·rw[if_pos h3,if_pos (by omega)]
    ·rw[if_neg h3,if_neg (by omega)]
 ·have aAF:ys=xs.reverse:=by
   apply List.ext_getElem?
   intro k
   rcases Nat.lt_or_ge k n with h | h
   ·rw[hy k h,List.getElem?_reverse (by omega),hn]
    split
    ·rfl
    ·rw[show n-1-k=k by omega]
   ·rw[List.getElem?_eq_none (by omega),List.getElem?_eq_none (by rw[List.length_reverse];omega)]
  subst aAF
  simp only[fP,g0,g2,g3,cS,VX,Nat.reduceEqDiff,Nat.reduceAdd]
  try exact⟨rfl,rfl⟩
theorem Yc (n:Nat):(aC 1000000000 n).length≤2*(aC 4294967296 n).length:=by
 refine mH (by decide) ?_
 have h1:=gR (b:=4294967296) (by decide) n
 have h2:4294967296^(aC 4294967296 n).length≤(1000000000^2)^(aC 4294967296 n).length:=Nat.pow_le_pow_left (by decide) _
 rw[←Nat.pow_mul] at h2
 omega
theorem akK {n:Nat} (hn:n≠0):(decDigits n).length≤9*(aC 1000000000 n).length:=by
 have h1:=gR (b:=1000000000) (by decide) n
 have h3:(aC 1000000000 n)≠[]:=fun h=>hn ((lU (by decide)).1 h)
 have h4:=List.length_pos_iff.2 h3
 generalize (aC 1000000000 n).length=L at *
 obtain⟨k,hk⟩:∃k,9*L=k+1:=⟨9*L-1,by omega⟩
 have h5:(1000000000:Nat)^L=10^(9*L):=by rw[show (1000000000:Nat)=10^9 by decide,←Nat.pow_mul]
 rw[h5,hk] at h1
 rw[hk]
 exact yT n k h1
def lR (q:Nat):List UInt8:=if q=0 then [] else decDigits q
theorem C9 (n:Nat) (hn:(aC 4294967296 n).length≤68719476736):TC 196 [bS n] (bC (decDigits n)):=by
 refine TC.walk ⟨true,false⟩ HU rfl (Nat.le_of_ble_eq_true rfl) (by simp[aP,cB]) rfl ?_
 by_cases h0:n=0
 ·subst h0
  have hl:(((aC 4294967296 0).length:Nat):Int)=0:=by rw[cH];rfl
  simp only[wL,tF,dJ,hl,VX,Nat.reduceEqDiff,Nat.reduceAdd]
  rw[iS (by decide)]
  exact aL rfl
 have hl:¬(((aC 4294967296 n).length:Nat):Int)=0:=by have:=xL.2 h0;omega
 have e1:∀lr,lG lr [.string ⟨#[]⟩] 0 [] []=some (.ref 0 0 0 0 0,[.row 0 (([]:List (List UInt8)).map bC) 1 true]):=fun lr=>jH (H:=[]) (lr:=lr) (z:=[.string ⟨#[]⟩]) rfl
 have hTn:=Yc n
 have Uv:=akK h0
 simp only[wL,tF,dJ,hl,e1,VX,Nat.reduceEqDiff,Nat.reduceAdd]
 refine aU (fun(t:Nat×List (List UInt8)) ρ H=>H=[.row t.2.length (t.2.map bC) 1 true]∧t.1≤n∧t.2.length+(aC 1000000000 t.1).length=(aC 1000000000 n).length∧decDigits n=lR t.1++t.2.reverse.flatten∧ρ 0=bS t.1∧ρ 3 = .ref 0 t.2.length 0 t.2.length t.2.length) (fun t=>t.1) (n,[]) ⟨rfl,Nat.le_refl _,by simp,by simp[lR,h0],rfl,rfl⟩ ?_
 rintro⟨q,ps⟩ ρ H ⟨rfl,hq,hlen,ZE,g0,g3⟩
 simp only at hq hlen ZE g0 g3
 by_cases Ry:q=0
 ·subst Ry
  have hz:¬(0:Int)<((aC 4294967296 0).length:Int):=by rw[xL];omega
  rw[lR,if_pos rfl,List.nil_append] at ZE
  have hr:aF [.row ps.length (ps.map bC) 1 true] 0 ps.length=some (ps.map bC,1,true):=aQ
  simp only[mO,g0,g3,dJ,hz,VX,Nat.reduceEqDiff,Nat.reduceAdd]
  refine fG rfl ((Yx hr rfl (Nat.le_refl _) (by omega)).mono ?_)
  rintro r H' ⟨rfl,rfl⟩
  have I9:([.row ps.length (ps.map bC) 1 true]:aA).set 0 (.row ps.length (ps.reverse.map bC) 1 true)=[.row ps.length (ps.reverse.map bC) 1 true]:=rfl
  have hr2:aF [.row ps.length (ps.reverse.map bC) 1 true] 0 ps.length=some (ps.reverse.map bC,1,true):=aQ
  have hfl:ps.reverse.flatten.length≤140737488355328:=by rw[←ZE];omega
  have cj:=(aoZ ps.reverse (by rw[List.length_reverse];omega) hfl).flat (H:=[.row ps.length (ps.reverse.map bC) 1 true]) (args:=[.ref 0 ps.length 0 ps.length ps.length,bC []]) rfl (by simp only[aP,nO (f:=bC) akC (fun _=>rfl),Bool.and_true];rfl) (fz2 (F7 hr2 (by simp) (Nat.le_refl _) (fI fun _=>rfl)) (aL rfl)) rfl
  simp only[I9,g3,cj,VX,Nat.reduceEqDiff,Nat.reduceAdd]
  rw[←ZE]
  exact aL rfl
 ·have hz:(0:Int)<((aC 4294967296 q).length:Int):=xL.2 Ry
  have hql:=eI (b:=4294967296) (by decide) hq
  have c1:TC 197 [bS q,.sc (.int .u32 1000000000)] (.dR [bS (q / 1000000000),uV (q % 1000000000)]):=wU q 1000000000 (by decide) (by decide) (by omega)
  have hm:=Nat.mod_lt q (show 0<1000000000 by decide)
  have c2:=anK (q % 1000000000) (by omega)
  have wm:IntKind.u64.wrap ((q % 1000000000:Nat):Int)=((q % 1000000000:Nat):Int):=eE _ (by omega)
  have hdq:=jI (b:=1000000000) (by decide) Ry
  have avV:(aC 1000000000 q).length=(aC 1000000000 (q / 1000000000)).length+1:=by rw[hdq];rfl
  have YH:=yT (q % 1000000000) 8 hm
  have hqq:=Nat.mod_add_div q 1000000000
  have e2:∀x:List UInt8,lG false [.string ⟨#[]⟩] 1 [(0,bC x)] [.row ps.length (ps.map bC) 1 true]=some (.tree [bC x] (.cl 1),[.row ps.length (ps.map bC) 1 true]):=fun x=>gW (z:=[.string ⟨#[]⟩]) rfl rfl rfl
  have e3:∀x:List UInt8,cW 1 (.tree [bC x] (.cl 1)) [.row ps.length (ps.map bC) 1 true]=some [bC x]:=fun x=>dZ rfl rfl
  have e4:∀x:List UInt8,dW 0 1 16 (.ref 0 ps.length 0 ps.length ps.length) [bC x] [.row ps.length (ps.map bC) 1 true]=some (.ref 0 (ps.length+1) 0 (ps.length+1) (ps.length+1),[.row (ps.length+1) ((ps++[x]).map bC) 1 true]):=fun x=>by
   rw[gS (f:=bC) (x:=x) aQ rfl (Nat.le_refl _) (by decide) (by decide) (by omega)]
   rfl
  have hle:q / 1000000000<q:=Nat.div_lt_self (by omega) (by decide)
  by_cases hqz:q / 1000000000=0
  ·have Uu:¬(0:Int)<((aC 4294967296 (q / 1000000000)).length:Int):=by rw[xL];omega
   simp only[mO,g0,g3,dJ,hz,c1,c2,wm,Uu,e2,e3,e4,VX,Nat.reduceEqDiff,Nat.reduceAdd]
   refine⟨(q / 1000000000,ps++[decDigits (q % 1000000000)]),hle,by simp,by simp only;omega,by simp only[List.length_append,List.length_singleton];omega,?_,rfl,by simp⟩
   rw[ZE,lR,if_neg Ry,lR,if_pos hqz,List.reverse_append,List.nil_append,List.reverse_singleton,List.singleton_append,List.flatten_cons,show q % 1000000000=q by omega]
  ·have Uu:(0:Int)<((aC 4294967296 (q / 1000000000)).length:Int):=xL.2 hqz
   have ws:IntKind.i64.wrap ((9:Int)-((decDigits (q % 1000000000)).length:Int))=((9-(decDigits (q % 1000000000)).length:Nat):Int):=wrapN _ (by omega) (by omega)
   have c3:=abG [48] (9-(decDigits (q % 1000000000)).length) (by simp;omega) (by omega)
   have afZ:repeatL [48] (9-(decDigits (q % 1000000000)).length)++decDigits (q % 1000000000)=Dm 9 (q % 1000000000):=by
    rw[apM 8 _ hm]
    congr 1
    have:=repeatL_replicate 48 1 (9-(decDigits (q % 1000000000)).length)
    rw[Nat.mul_one] at this
    exact this
   have c4:=rC (repeatL [48] (9-(decDigits (q % 1000000000)).length)) (decDigits (q % 1000000000)) (by rw[←List.length_append,afZ,ajI];decide)
   rw[afZ] at c4
   simp only[mO,g0,g3,dJ,hz,c1,c2,wm,Uu,bU,ws,c3,c4,e2,e3,e4,VX,Nat.reduceEqDiff,Nat.reduceAdd]
   refine⟨(q / 1000000000,ps++[Dm 9 (q % 1000000000)]),hle,by simp,by simp only;omega,by simp only[List.length_append,List.length_singleton];omega,?_,rfl,by simp⟩
   rw[ZE,lR,if_neg Ry,lR,if_neg hqz,List.reverse_append,List.reverse_singleton,List.singleton_append,List.flatten_cons,←List.append_assoc,←Jh (by omega) hm]
   congr 2
   omega
end Go.PM
namespace Go.PM
open Go.Lib
def aO (q:Rat):VV := .agg [VB (decide (q.num<0)),bS q.num.natAbs,bS q.den]
theorem iC (q:Rat):aY (aO q)=true:=by simp[aO,aY,aP,cB,lF]
theorem tG (q:Rat):hC (aO q)=true:=by simp[aO,hC,qD,qX,lF]
theorem Cz {q:Rat} {neg:Bool} {t b:Nat} (h0:q.num<0↔neg=true) (h1:q.num.natAbs=t) (h2:q.den=b):aO q = .agg [VB neg,bS t,bS b]:=by
 subst h1 h2
 unfold aO
 congr 4
 cases neg<;>simp_all
theorem aiH {neg:Bool} {t b:Nat} (hb:b≠0) (ht:t≠0):aO (mkRat (kT neg t) b) = .agg [VB neg,bS (t / Nat.gcd t b),bS (b / Nat.gcd t b)]:=by
 refine Cz ?_ ?_ (Q2 hb)
 ·rw[Ga hb,Q3]
  have h1:t / Nat.gcd t b≠0:=by
   have:=Nat.div_pos (Nat.le_of_dvd (by omega) (Nat.gcd_dvd_left t b)) (Nat.gcd_pos_of_pos_left b (by omega))
   omega
  simp[h1]
 ·rw[Ga hb,oB]
theorem Yf:aO 0 = .agg [VB false,.tree [] .op,bS 1]:=by
 rw[Cz (q:=0) (neg:=false) (t:=0) (b:=1) (by simp) rfl rfl,ED]
theorem bB (n:Nat):bY (bS n)=true:=rfl
theorem aZ (n:Nat):isAny (bS n)=false:=rfl
theorem aS (n:Nat):aB (bS n)=[bS n]:=rfl
theorem dC (q:Rat):isAny (aO q)=false:=rfl
theorem aI (q:Rat):aB (aO q)=[VB (decide (q.num<0)),bS q.num.natAbs,bS q.den]:=rfl
theorem dQ (q:Rat):dF true 3 (aO q) 0=some (aO q):=rfl
theorem jO (q:Rat):dF false 1 (aO q) 0=some (VB (decide (q.num<0))):=rfl
theorem jN (q:Rat):dF false 1 (aO q) 1=some (bS q.num.natAbs):=rfl
theorem lO (q:Rat):dF false 1 (aO q) 2=some (bS q.den):=rfl
theorem rK {d:Nat} {H:aA} {u u' v v' w w':VV} (h1:fz (d+1) H u=some u') (h2:fz (d+1) H v=some v') (h3:fz (d+1) H w=some w'):fz (d+2) H (.agg [u,v,w])=some (.agg [u',v',w']):=by
 have e:fz (d+2) H (.agg [u,v,w])=if aY (.agg [u,v,w])=true then some (.agg [u,v,w]) else ([u,v,w].mapM (fz (d+1) H)).map .agg:=rfl
 rw[e]
 by_cases hp:aY (.agg [u,v,w])=true
 ·rw[if_pos hp]
  simp only[aY,aP,Bool.and_eq_true,and_true] at hp
  rw[aM hp.1] at h1
  rw[aM hp.2.1] at h2
  rw[aM hp.2.2] at h3
  cases h1
  cases h2
  cases h3
  rfl
 ·rw[if_neg hp,List.mapM_cons,h1,List.mapM_cons,h2,List.mapM_cons,h3]
  rfl
theorem afP {d:Nat} {H:aA} {v:Value} (h:lF v=true):fz (d+1) H (.sc v)=some (.sc v):=aM h
theorem wB {H:aA} {neg:Bool} {t b:Nat}:fz depth H (.agg [VB neg,bS t,bS b])=some (.agg [VB neg,bS t,bS b]):=aL (by simp[aY,aP,cB,lF])
theorem rI {H:aA} (q:Rat):fz depth H (aO q)=some (aO q):=aL (iC q)
theorem asC {n:Nat} (h:bl n≤2199023255552):(aC 4294967296 n).length≤68719476736:=by
 have:=amJ n
 omega
theorem fN {n:Nat} (h:bl n≤4398046511104):(aC 4294967296 n).length≤17592186044416:=by
 have:=amJ n
 omega
theorem qV (neg:Bool) (t b:Nat) (hb:b≠0) (ht:bl t≤4398046511104) (vE:bl b≤4398046511104):TC 144 [VB neg,bS t,bS b] (aO (mkRat (kT neg t) b)):=by
 refine TC.walk ⟨true,false⟩ Ov rfl (Nat.le_of_ble_eq_true rfl) (by simp[aP,cB,aY,lF]) (tG _) ?_
 by_cases h0:t=0
 ·subst h0
  have hl:(((aC 4294967296 0).length:Nat):Int)=0:=by rw[cH];rfl
  have c1:TC 139 [.sc (.int .u64 1)] (bS 1):=nA 1 (by decide)
  rw[zD,Rat.zero_mkRat,Yf,←ED]
  simp only[vY,qS,dJ,hl,c1,bB,aZ,aS,iJ,Nat.reduceLeDiff,Nat.reduceLT,Nat.reduceSub,VX,Nat.reduceEqDiff,Nat.reduceAdd]
  exact rK (afP rfl) xQ (aM (cB _))
 ·have hl:¬(((aC 4294967296 t).length:Nat):Int)=0:=by have:=xL.2 h0;omega
  have c1:=Ei t b (fN ht) (fN vE)
  have hg0:Nat.gcd t b≠0:=Nat.gcd_ne_zero_right hb
  have hgl:bl (Nat.gcd t b)≤4398046511104:=Nat.le_trans (kP (Nat.gcd_le_right t (by omega))) vE
  have c2:=zN t _ hg0 (fN ht) (fN hgl)
  have c3:=zN b _ hg0 (fN vE) (fN hgl)
  rw[aiH hb h0]
  by_cases h1:((aC 4294967296 (Nat.gcd t b)).length:Int)=1
  ·obtain⟨d,hd⟩:∃d,aC 4294967296 (Nat.gcd t b)=[d]:=List.length_eq_one_iff.1 (by omega)
   obtain⟨hgd,_,_⟩:=TE hd
   have e1:bQ 1 (bS (Nat.gcd t b)) (.sc (.int .i64 0)) [.row 0 [.agg [VB false,.tree [] .nil,.tree [] .nil]] 3 true]=some (.cT (uV d) 0):=aJ (f:=uV) (xs:=aC 4294967296 (Nat.gcd t b)) (i:=0) (k := .i64) (by rw[hd];rfl) rfl
   by_cases h2:(d:Int)=1
   ·have hg1:Nat.gcd t b=1:=by omega
    simp only[vY,qS,dJ,hl,c1,h1,h2,e1,bB,aZ,aS,iJ,Nat.reduceLeDiff,Nat.reduceLT,Nat.reduceSub,VX,Nat.reduceEqDiff,Nat.reduceAdd]
    rw[hg1,Nat.div_one,Nat.div_one]
    exact wB
   ·simp only[vY,qS,dJ,hl,c1,c2,c3,h1,h2,e1,bB,aZ,aS,iJ,Nat.reduceLeDiff,Nat.reduceLT,Nat.reduceSub,VX,Nat.reduceEqDiff,Nat.reduceAdd]
    exact wB
  ·simp only[vY,qS,dJ,hl,c1,c2,c3,h1,bB,aZ,aS,iJ,Nat.reduceLeDiff,Nat.reduceLT,Nat.reduceSub,VX,Nat.reduceEqDiff,Nat.reduceAdd]
   exact wB
theorem Yp {n:Int} (h0 : -9223372036854775808≤n) (h:n<0):IntKind.u64.wrap (0-IntKind.u64.wrap n)=(n.natAbs:Int):=by
 rw[wrap_u64,wrap_u64]
 omega
theorem I5 (n:Int) (h0 : -9223372036854775808≤n) (h1:n≤9223372036854775807):TC 140 [VI n] (VK .u64 (n.natAbs:Int)):=by
 refine TC.walk ⟨true,false⟩ It rfl (Nat.le_of_ble_eq_true rfl) rfl rfl ?_
 by_cases h:n<0
 ·simp only[zU,uN,h,Yp h0 h,VX,Nat.reduceEqDiff,Nat.reduceAdd]
  exact aL rfl
 ·have w:IntKind.u64.wrap n=(n.natAbs:Int):=by rw[wrap_u64];omega
  simp only[zU,uN,h,w,VX,Nat.reduceEqDiff,Nat.reduceAdd]
  exact aL rfl
theorem abZ (n:Int):aO (n:Rat) = .agg [VB (decide (n<0)),bS n.natAbs,bS 1]:=Cz (by simp) (by simp) (by simp)
theorem sO (n:Int) (h0 : -9223372036854775808≤n) (h1:n≤9223372036854775807):TC 64 [VI n] (aO (n:Rat)):=by
 refine TC.walk ⟨true,false⟩ Q1 rfl (Nat.le_of_ble_eq_true rfl) rfl (tG _) ?_
 have c1:=I5 n h0 h1
 have c2:=nA n.natAbs (by omega)
 have c3:TC 139 [.sc (.int .u64 1)] (bS 1):=nA 1 (by decide)
 rw[abZ]
 simp only[Nx,GR,c1,c2,c3,bB,aZ,aS,iJ,Nat.reduceLeDiff,Nat.reduceLT,Nat.reduceSub,VX,Nat.reduceEqDiff,Nat.reduceAdd]
 exact wB
theorem K4 {q:Rat}:(((aC 4294967296 q.num.natAbs).length:Nat):Int)=0↔q.num=0:=by
 have:=xL (n:=q.num.natAbs)
 omega
theorem jB (q:Rat):TC 68 [aO q] (VI (kR q)):=by
 refine TC.walk ⟨true,false⟩ HR rfl (Nat.le_of_ble_eq_true rfl) (by simp[aP,iC]) rfl ?_
 unfold kR
 by_cases h0:q.num=0
 ·have hl:=K4.2 h0
  rw[if_pos h0]
  simp only[rN,oO,dJ,hl,aI,jO,jN,bB,aZ,aS,iJ,Nat.reduceLeDiff,Nat.reduceLT,Nat.reduceSub,VX,Nat.reduceEqDiff,Nat.reduceAdd]
  exact aL rfl
 ·have hl:¬(((aC 4294967296 q.num.natAbs).length:Nat):Int)=0:=fun h=>h0 (K4.1 h)
  rw[if_neg h0]
  by_cases h1:q.num<0
  ·simp only[rN,oO,dJ,hl,h1,aI,jO,jN,bB,aZ,aS,iJ,Nat.reduceLeDiff,Nat.reduceLT,Nat.reduceSub,VX,Nat.reduceEqDiff,Nat.reduceAdd]
   exact aL rfl
  ·simp only[rN,oO,dJ,hl,h1,aI,jO,jN,bB,aZ,aS,iJ,Nat.reduceLeDiff,Nat.reduceLT,Nat.reduceSub,VX,Nat.reduceEqDiff,Nat.reduceAdd]
   exact aL rfl
theorem Jm (q:Rat):TC 177 [aO q] (aO (-q)):=by
 refine TC.walk ⟨true,false⟩ Gr rfl (Nat.le_of_ble_eq_true rfl) (by simp[aP,iC]) (tG _) ?_
 have hq:aO (-q) = .agg [VB (decide (0<q.num)),bS q.num.natAbs,bS q.den]:=Cz (by simp) (by simp) (by simp)
 rw[hq]
 by_cases h1:q.num<0
 ·have h2:¬0<q.num:=by omega
  simp only[pO,mY,dJ,h1,h2,aI,jO,jN,lO,bB,aZ,aS,iJ,Nat.reduceLeDiff,Nat.reduceLT,Nat.reduceSub,VX,Nat.reduceEqDiff,Nat.reduceAdd]
  exact wB
 ·by_cases h0:q.num=0
  ·have hl:¬(0:Int)<((aC 4294967296 q.num.natAbs).length:Int):=by have:=K4.2 h0;omega
   have h2:¬0<q.num:=by omega
   simp only[pO,mY,dJ,hl,h1,h2,aI,jO,jN,lO,bB,aZ,aS,iJ,Nat.reduceLeDiff,Nat.reduceLT,Nat.reduceSub,VX,Nat.reduceEqDiff,Nat.reduceAdd]
   exact wB
  ·have hl:(0:Int)<((aC 4294967296 q.num.natAbs).length:Int):=by have:=mt K4.1 h0;omega
   have h2:0<q.num:=by omega
   simp only[pO,mY,dJ,hl,h1,h2,aI,jO,jN,lO,bB,aZ,aS,iJ,Nat.reduceLeDiff,Nat.reduceLT,Nat.reduceSub,VX,Nat.reduceEqDiff,Nat.reduceAdd]
   exact wB
end Go.PM
namespace Go.PM
open Go.Lib
theorem A1 (a b:Bool):N9 false (.bool a) (.bool b)=some (.bool (a == b)):=by
 show some (Value.bool ((a == b) != false))=_
 rw[Bool.bne_false]
theorem oR (a b:Bool):N9 true (.bool a) (.bool b)=some (.bool (a != b)):=by
 show some (Value.bool ((a == b) != true))=_
 cases a<;>cases b<;>rfl
theorem uS {q:Rat} {k:Nat} (h:bP q≤k):bl q.num.natAbs≤k:=Nat.le_trans sG h
theorem vB {q:Rat} {k:Nat} (h:bP q≤k):bl q.den≤k:=Nat.le_trans pZ h
theorem Jn {X Y B:Nat} {a b:Rat} (hB:B≠0) (ha:mkRat (kT (decide (a.num<0)) X) B=a) (hb:mkRat (kT (decide (b.num<0)) Y) B=b) :
  ((decide (a.num<0))=(decide (b.num<0))→mkRat (kT (decide (a.num<0)) (X+Y)) B=a+b) ∧
  ((decide (a.num<0))≠(decide (b.num<0))→Y≤X→mkRat (kT (decide (a.num<0)) (X-Y)) B=a+b) ∧
  ((decide (a.num<0))≠(decide (b.num<0))→X≤Y→mkRat (kT (decide (b.num<0)) (Y-X)) B=a+b):=by
 refine⟨fun h => ?_,fun h hx => ?_,fun h hx => ?_⟩
 ·conv=>rhs;rw[←ha,←hb,Dx _ _ hB,←h,Qy]
 ·conv=>rhs;rw[←ha,←hb,Dx _ _ hB,UU h hx]
 ·conv=>rhs;rw[←ha,←hb,Dx _ _ hB,UX h hx]
theorem DU (a b:Rat) (Ou:bP a≤1099511627776) (Ip:bP b≤1099511627776):TC 69 [aO a,aO b] (aO (a+b)):=by
 refine TC.walk ⟨true,false⟩ Ju rfl (Nat.le_of_ble_eq_true rfl) (by simp[aP,iC]) (tG _) ?_
 have ca:=jB a
 have cb:=jB b
 by_cases ha0:a.num=0
 ·have:a=0:=Rat.num_eq_zero.1 ha0
  rw[kZ ha0] at ca
  rw[this,Rat.zero_add,←this]
  simp only[gN,eX,ca,cb,aI,dQ,dC,bB,aZ,aS,iJ,Nat.reduceLeDiff,Nat.reduceLT,Nat.reduceSub,VX,Nat.reduceEqDiff,Nat.reduceAdd]
  exact rI _
 have hsa:¬kR a=0:=fun h=>ha0 (Rat.num_eq_zero.2 (Ct.1 h))
 by_cases ZY:b.num=0
 ·have:b=0:=Rat.num_eq_zero.1 ZY
  rw[kZ ZY] at cb
  rw[this,Rat.add_zero,←this]
  simp only[gN,eX,ca,cb,hsa,aI,dQ,dC,bB,aZ,aS,iJ,Nat.reduceLeDiff,Nat.reduceLT,Nat.reduceSub,VX,Nat.reduceEqDiff,Nat.reduceAdd]
  exact rI _
 have hsb:¬kR b=0:=fun h=>ZY (Rat.num_eq_zero.2 (Ct.1 h))
 have la:=uS Ou
 have lb:=uS Ip
 have lda:=vB Ou
 have ldb:=vB Ip
 have fin:∀(X Y B:Nat),bl X≤2199023255552→bl Y≤2199023255552→bl B≤2199023255552→B≠0→mkRat (kT (decide (a.num<0)) X) B=a→mkRat (kT (decide (b.num<0)) Y) B=b →
   TC 145 [bS X,bS Y] (bS (X+Y))∧TC 142 [bS X,bS Y] (VI (eZ X Y)) ∧
   (Y≤X→TC 146 [bS X,bS Y] (bS (X-Y)))∧(X≤Y→TC 146 [bS Y,bS X] (bS (Y-X))) ∧
   (∀neg,TC 144 [VB neg,bS (X+Y),bS B] (aO (mkRat (kT neg (X+Y)) B))) ∧
   (∀neg,TC 144 [VB neg,bS (X-Y),bS B] (aO (mkRat (kT neg (X-Y)) B))) ∧
   (∀neg,TC 144 [VB neg,bS (Y-X),bS B] (aO (mkRat (kT neg (Y-X)) B))):=by
  intro X Y B hX hY hB hB0 _ _
  refine⟨Du X Y (fN (by omega)) (fN (by omega)),kL X Y (fN (by omega)) (fN (by omega)),fun h=>Dv X Y h (fN (by omega)),fun h=>Dv Y X h (fN (by omega)),fun neg=>qV neg _ _ hB0 ?_ (by omega),fun neg=>qV neg _ _ hB0 ?_ (by omega),fun neg=>qV neg _ _ hB0 ?_ (by omega)⟩
  ·exact Nat.le_trans (U6 hX hY) (by omega)
  ·exact Nat.le_trans (kP (Nat.sub_le _ _)) (by omega)
  ·exact Nat.le_trans (kP (Nat.sub_le _ _)) (by omega)
 by_cases hd:a.den=b.den
 ·have hBn:=a.den_nz
  have cc:=kL a.den b.den (fN (by omega)) (fN (by omega))
  rw[show eZ a.den b.den=0 from BH.2 hd] at cc
  have eb:mkRat (kT (decide (b.num<0)) b.num.natAbs) a.den=b:=by rw[hd,K0]
  obtain⟨f1,f2,f3,f4,f5,f6,f7⟩:=fin a.num.natAbs b.num.natAbs a.den (by omega) (by omega) (by omega) hBn (K0 a) eb
  obtain⟨p1,p2,p3⟩:=Jn hBn (K0 a) eb
  by_cases hn:decide (a.num<0)=decide (b.num<0)
  ·have SK:(decide (a.num<0) == decide (b.num<0))=true:=by simpa using hn
   rw[←p1 hn]
   simp only[gN,eX,ca,cb,hsa,hsb,cc,f1,f5,A1,oR,SK,aI,dQ,jO,jN,lO,dC,bB,aZ,aS,iJ,Nat.reduceLeDiff,Nat.reduceLT,Nat.reduceSub,VX,Nat.reduceEqDiff,Nat.reduceAdd]
   exact rI _
  ·have SK:(decide (a.num<0) == decide (b.num<0))=false:=by simpa using hn
   by_cases hx:(0:Int)≤eZ a.num.natAbs b.num.natAbs
   ·have hle:b.num.natAbs≤a.num.natAbs:=by have := @vF a.num.natAbs b.num.natAbs;omega
    have c3:=f3 hle
    rw[←p2 hn hle]
    simp only[gN,eX,ca,cb,hsa,hsb,cc,f2,c3,f6,hx,A1,oR,SK,aI,dQ,jO,jN,lO,dC,bB,aZ,aS,iJ,Nat.reduceLeDiff,Nat.reduceLT,Nat.reduceSub,VX,Nat.reduceEqDiff,Nat.reduceAdd]
    exact rI _
   ·have hle:a.num.natAbs≤b.num.natAbs:=by have := @vF a.num.natAbs b.num.natAbs;omega
    have c3:=f4 hle
    rw[←p3 hn hle]
    simp only[gN,eX,ca,cb,hsa,hsb,cc,f2,c3,f7,hx,A1,oR,SK,aI,dQ,jO,jN,lO,dC,bB,aZ,aS,iJ,Nat.reduceLeDiff,Nat.reduceLT,Nat.reduceSub,VX,Nat.reduceEqDiff,Nat.reduceAdd]
    exact rI _
 ·have hBn:=Nat.mul_ne_zero a.den_nz b.den_nz
  have cc:=kL a.den b.den (fN (by omega)) (fN (by omega))
  have RC:¬eZ a.den b.den=0:=fun h=>hd (BH.1 h)
  have m1:=iP a.num.natAbs b.den (fN (by omega)) (fN (by omega))
  have m2:=iP b.num.natAbs a.den (fN (by omega)) (fN (by omega))
  have m3:=iP a.den b.den (fN (by omega)) (fN (by omega))
  have ea:mkRat (kT (decide (a.num<0)) (a.num.natAbs*b.den)) (a.den*b.den)=a:=EK a b.den_nz
  have eb:mkRat (kT (decide (b.num<0)) (b.num.natAbs*a.den)) (a.den*b.den)=b:=by rw[Nat.mul_comm a.den];exact EK b a.den_nz
  have k1:=nX a.num.natAbs b.den
  have k2:=nX b.num.natAbs a.den
  have k3:=nX a.den b.den
  obtain⟨f1,f2,f3,f4,f5,f6,f7⟩:=fin _ _ _ (by omega) (by omega) (by omega) hBn ea eb
  obtain⟨p1,p2,p3⟩:=Jn hBn ea eb
  by_cases hn:decide (a.num<0)=decide (b.num<0)
  ·have SK:(decide (a.num<0) == decide (b.num<0))=true:=by simpa using hn
   rw[←p1 hn]
   simp only[gN,eX,ca,cb,hsa,hsb,cc,RC,m1,m2,m3,f1,f5,A1,oR,SK,aI,dQ,jO,jN,lO,dC,bB,aZ,aS,iJ,Nat.reduceLeDiff,Nat.reduceLT,Nat.reduceSub,VX,Nat.reduceEqDiff,Nat.reduceAdd]
   exact rI _
  ·have SK:(decide (a.num<0) == decide (b.num<0))=false:=by simpa using hn
   by_cases hx:(0:Int)≤eZ (a.num.natAbs*b.den) (b.num.natAbs*a.den)
   ·have hle:b.num.natAbs*a.den≤a.num.natAbs*b.den:=by have := @vF (a.num.natAbs*b.den) (b.num.natAbs*a.den);omega
    have c3:=f3 hle
    rw[←p2 hn hle]
    simp only[gN,eX,ca,cb,hsa,hsb,cc,RC,m1,m2,m3,f2,c3,f6,hx,A1,oR,SK,aI,dQ,jO,jN,lO,dC,bB,aZ,aS,iJ,Nat.reduceLeDiff,Nat.reduceLT,Nat.reduceSub,VX,Nat.reduceEqDiff,Nat.reduceAdd]
    exact rI _
   ·have hle:a.num.natAbs*b.den≤b.num.natAbs*a.den:=by have := @vF (a.num.natAbs*b.den) (b.num.natAbs*a.den);omega
    have c3:=f4 hle
    rw[←p3 hn hle]
    simp only[gN,eX,ca,cb,hsa,hsb,cc,RC,m1,m2,m3,f2,c3,f7,hx,A1,oR,SK,aI,dQ,jO,jN,lO,dC,bB,aZ,aS,iJ,Nat.reduceLeDiff,Nat.reduceLT,Nat.reduceSub,VX,Nat.reduceEqDiff,Nat.reduceAdd]
    exact rI _
theorem NI (a b:Rat) (Ou:bP a≤1099511627776) (Ip:bP b≤1099511627776):TC 128 [aO a,aO b] (aO (a-b)):=by
 refine TC.walk ⟨true,false⟩ I8 rfl (Nat.le_of_ble_eq_true rfl) (by simp[aP,iC]) (tG _) ?_
 have c1:=Jm b
 have c2:=DU a (-b) Ou (by rw[IJ];exact Ip)
 rw[←Rat.sub_eq_add_neg] at c2
 simp only[Ec,BX,c1,c2,aI,dQ,dC,bB,aZ,aS,iJ,Nat.reduceLeDiff,Nat.reduceLT,Nat.reduceSub,VX,Nat.reduceEqDiff,Nat.reduceAdd]
 exact rI _
theorem Mb (a b:Rat) (Ou:bP a≤1099511627776) (Ip:bP b≤1099511627776):TC 132 [aO a,aO b] (aO (a*b)):=by
 refine TC.walk ⟨true,false⟩ I3 rfl (Nat.le_of_ble_eq_true rfl) (by simp[aP,iC]) (tG _) ?_
 have ca:=jB a
 have cb:=jB b
 have c0:TC 64 [VI 0] (aO 0):=sO 0 (by decide) (by decide)
 by_cases ha0:a.num=0
 ·have:a=0:=Rat.num_eq_zero.1 ha0
  rw[kZ ha0] at ca
  rw[show a*b=0 by rw[this,Rat.zero_mul]]
  simp only[sQ,pG,ca,cb,c0,aI,dQ,dC,bB,aZ,aS,iJ,Nat.reduceLeDiff,Nat.reduceLT,Nat.reduceSub,VX,Nat.reduceEqDiff,Nat.reduceAdd]
  exact rI _
 have hsa:¬kR a=0:=fun h=>ha0 (Rat.num_eq_zero.2 (Ct.1 h))
 by_cases ZY:b.num=0
 ·have:b=0:=Rat.num_eq_zero.1 ZY
  rw[kZ ZY] at cb
  rw[show a*b=0 by rw[this,Rat.mul_zero]]
  simp only[sQ,pG,ca,cb,hsa,c0,aI,dQ,dC,bB,aZ,aS,iJ,Nat.reduceLeDiff,Nat.reduceLT,Nat.reduceSub,VX,Nat.reduceEqDiff,Nat.reduceAdd]
  exact rI _
 have hsb:¬kR b=0:=fun h=>ZY (Rat.num_eq_zero.2 (Ct.1 h))
 have la:=uS Ou
 have lb:=uS Ip
 have lda:=vB Ou
 have ldb:=vB Ip
 have l1:=qV false a.num.natAbs b.den b.den_nz (by omega) (by omega)
 have l2:=qV false b.num.natAbs a.den a.den_nz (by omega) (by omega)
 obtain⟨d1,d2⟩:=Cx a.num.natAbs b.den_nz
 obtain⟨d3,d4⟩:=Cx b.num.natAbs a.den_nz
 have b1:=kP (Nat.le_of_dvd (by omega) d1)
 have b2:=kP (Nat.le_of_dvd (Nat.pos_of_ne_zero b.den_nz) d2)
 have b3:=kP (Nat.le_of_dvd (by omega) d3)
 have b4:=kP (Nat.le_of_dvd (Nat.pos_of_ne_zero a.den_nz) d4)
 obtain⟨e1,e2⟩:=Zv a b
 have e3:=SG ha0 ZY
 generalize mkRat (kT false a.num.natAbs) b.den=u at *
 generalize mkRat (kT false b.num.natAbs) a.den=v at *
 have m1:=iP u.num.natAbs v.num.natAbs (fN (by omega)) (fN (by omega))
 have m2:=iP u.den v.den (fN (by omega)) (fN (by omega))
 rw[Cz e3 e1 e2]
 simp only[sQ,pG,ca,cb,hsa,hsb,l1,l2,m1,m2,A1,oR,aI,dQ,jO,jN,lO,dC,bB,aZ,aS,iJ,Nat.reduceLeDiff,Nat.reduceLT,Nat.reduceSub,VX,Nat.reduceEqDiff,Nat.reduceAdd]
 exact wB
theorem acN {b:Rat} (h:b≠0):aO b⁻¹ = .agg [VB (decide (b.num<0)),bS b.den,bS b.num.natAbs]:=by
 have hn:b.num≠0:=fun hn=>h (Rat.num_eq_zero.1 hn)
 have hd:(0:Int)<b.den:=by have:=b.den_nz;omega
 refine Cz ?_ ?_ ?_
 ·rw[Rat.num_inv,decide_eq_true_eq]
  rcases Int.lt_or_gt_of_ne hn with h1 | h1
  ·rw[Int.sign_eq_neg_one_of_neg h1];omega
  ·rw[Int.sign_eq_one_of_pos h1];omega
 ·rw[Rat.num_inv,Int.natAbs_mul,Int.natAbs_natCast]
  rcases Int.lt_or_gt_of_ne hn with h1 | h1
  ·rw[Int.sign_eq_neg_one_of_neg h1];simp
  ·rw[Int.sign_eq_one_of_pos h1];simp
 ·rw[Rat.den_inv,if_neg hn]
theorem KD (a b:Rat) (hb:b≠0) (Ou:bP a≤1099511627776) (Ip:bP b≤1099511627776):TC 129 [aO a,aO b] (aO (a / b)):=by
 refine TC.walk ⟨true,false⟩ GK rfl (Nat.le_of_ble_eq_true rfl) (by simp[aP,iC]) (tG _) ?_
 have c1:=Mb a b⁻¹ Ou (Nat.le_trans (PC b) Ip)
 rw[←Rat.div_def,acN hb] at c1
 simp only[Dc,Aq,c1,aI,dQ,jO,jN,lO,dC,bB,aZ,aS,iJ,Nat.reduceLeDiff,Nat.reduceLT,Nat.reduceSub,VX,Nat.reduceEqDiff,Nat.reduceAdd]
 exact rI _
theorem JQ (q:Rat) : -1≤kR q∧kR q≤1:=by
 rcases Int.lt_trichotomy q.num 0 with h | h | h
 ·rw[pW h];omega
 ·rw[kZ h];omega
 ·rw[qA h];omega
theorem Vu (m n:Nat) : -1≤eZ m n∧eZ m n≤1:=by
 rcases Nat.lt_trichotomy m n with h | h | h
 ·rw[eZ,if_pos h];omega
 ·subst h;rw[eZ,if_neg (by omega),if_pos rfl];omega
 ·rw[eZ,if_neg (by omega),if_neg (by omega)];omega
theorem MV (a b:Rat) (Ou:bP a≤1099511627776) (Ip:bP b≤1099511627776):TC 148 [aO a,aO b] (VI (T4 a b)):=by
 refine TC.walk ⟨true,false⟩ IV rfl (Nat.le_of_ble_eq_true rfl) (by simp[aP,iC]) rfl ?_
 have ca:=jB a
 have cb:=jB b
 have la:=uS Ou
 have lb:=uS Ip
 have lda:=vB Ou
 have ldb:=vB Ip
 have k1:=nX a.num.natAbs b.den
 have k2:=nX b.num.natAbs a.den
 have m1:=iP a.num.natAbs b.den (fN (by omega)) (fN (by omega))
 have m2:=iP b.num.natAbs a.den (fN (by omega)) (fN (by omega))
 have c1:=kL (a.num.natAbs*b.den) (b.num.natAbs*a.den) (fN (by omega)) (fN (by omega))
 have ra:=JQ a
 have rb:=JQ b
 have rc:=Vu (a.num.natAbs*b.den) (b.num.natAbs*a.den)
 unfold T4
 by_cases hs:kR a=kR b
 ·rw[if_pos hs]
  have w:IntKind.i64.wrap (0-eZ (a.num.natAbs*b.den) (b.num.natAbs*a.den)) = -eZ (a.num.natAbs*b.den) (b.num.natAbs*a.den):=by rw[wrap64 (by omega) (by omega)];omega
  by_cases hn:a.num<0
  ·rw[if_pos hn]
   simp only[sY,pT,ca,cb,hs,m1,m2,c1,hn,w,aI,dQ,jO,jN,lO,dC,bB,aZ,aS,iJ,Nat.reduceLeDiff,Nat.reduceLT,Nat.reduceSub,VX,Nat.reduceEqDiff,Nat.reduceAdd]
   exact aL rfl
  ·rw[if_neg hn]
   simp only[sY,pT,ca,cb,hs,m1,m2,c1,hn,aI,dQ,jO,jN,lO,dC,bB,aZ,aS,iJ,Nat.reduceLeDiff,Nat.reduceLT,Nat.reduceSub,VX,Nat.reduceEqDiff,Nat.reduceAdd]
   exact aL rfl
 ·rw[if_neg hs]
  have w:IntKind.i64.wrap (kR a-kR b)=kR a-kR b:=wrap64 (by omega) (by omega)
  simp only[sY,pT,ca,cb,hs,w,aI,dQ,jO,jN,lO,dC,bB,aZ,aS,iJ,Nat.reduceLeDiff,Nat.reduceLT,Nat.reduceSub,VX,Nat.reduceEqDiff,Nat.reduceAdd]
  exact aL rfl
end Go.PM
namespace Go.PM
theorem qT {n:Nat}:(0:Int)<((aC 1000000000 n).length:Int)↔n≠0:=by
 constructor
 ·intro h h0
  subst h0
  rw[cH] at h
  simp at h
 ·intro h
  have:=(lU (b:=1000000000) (by decide) (n:=n))
  have h2:aC 1000000000 n≠[]:=fun hx=>h (this.1 hx)
  have:=List.length_pos_iff.2 h2
  omega
theorem oZ {n:Nat} (h:bl n≤4398046511104):(aC 1000000000 n).length<17592186044416:=by
 have:=alB n
 omega
theorem FR (a b:Nat) (ha:(aC 1000000000 a).length<17592186044416) (hb:(aC 1000000000 b).length<17592186044416):TC 170 [cE a,cE b] (cE (Nat.gcd a b)):=by
 refine TC.walk ⟨true,false⟩ OA rfl (Nat.le_of_ble_eq_true rfl) (by simp[aP,cL]) (nI _) ?_
 simp only[Kj,FT,VX,Nat.reduceEqDiff,Nat.reduceAdd]
 refine aU (fun(t:Nat×Nat) ρ H=>H=[]∧Nat.gcd t.1 t.2=Nat.gcd a b∧(aC 1000000000 t.1).length<17592186044416∧(aC 1000000000 t.2).length<17592186044416∧ρ 0=cE t.1∧ρ 1=cE t.2) (fun t=>t.2) (a,b) ⟨rfl,rfl,ha,hb,rfl,rfl⟩ ?_
 rintro⟨x,y⟩ ρ H ⟨rfl,hg,hx,hy,g0,g1⟩
 simp only at hg hx hy g0 g1
 by_cases hy0:y=0
 ·subst hy0
  have hl:¬(0:Int)<((aC 1000000000 0).length:Int):=by rw[qT];omega
  rw[Nat.gcd_zero_right] at hg
  simp only[yJ,g0,g1,cN,hl,VX,Nat.reduceEqDiff,Nat.reduceAdd]
  rw[hg]
  exact aL (cL _)
 ·have hl:(0:Int)<((aC 1000000000 y).length:Int):=qT.2 hy0
  have c3:=uY x y hy0 hx hy
  have hm:=Nat.mod_lt x (show 0<y by omega)
  simp only[yJ,g0,g1,cN,hl,c3,VX,Nat.reduceEqDiff,Nat.reduceAdd]
  refine⟨(y,x % y),hm,?_,hy,?_,rfl,rfl⟩
  ·simp only
   rw[←hg,Nat.gcd_comm x y,Nat.gcd_rec y x,Nat.gcd_comm]
  ·simp only
   have:=eI (b:=1000000000) (by decide) (Nat.le_of_lt hm)
   omega
def aH (q:Rat):VV := .agg [VB (decide (q.num<0)),cE q.num.natAbs,cE q.den]
theorem nQ (q:Rat):aY (aH q)=true:=by simp[aH,aY,aP,cL,lF]
theorem vX (q:Rat):hC (aH q)=true:=by simp[aH,hC,qD,nI,lF]
theorem Lj {q:Rat} {neg:Bool} {t b:Nat} (h0:q.num<0↔neg=true) (h1:q.num.natAbs=t) (h2:q.den=b):aH q = .agg [VB neg,cE t,cE b]:=by
 subst h1 h2
 unfold aH
 congr 4
 cases neg<;>simp_all
theorem aN (n:Nat):bY (cE n)=true:=rfl
theorem bJ (n:Nat):isAny (cE n)=false:=rfl
theorem aV (n:Nat):aB (cE n)=[cE n]:=rfl
theorem lE (q:Rat):isAny (aH q)=false:=rfl
theorem cC (q:Rat):aB (aH q)=[VB (decide (q.num<0)),cE q.num.natAbs,cE q.den]:=rfl
theorem iM (q:Rat):dF true 3 (aH q) 0=some (aH q):=rfl
theorem fT (q:Rat):dF false 1 (aH q) 0=some (VB (decide (q.num<0))):=rfl
theorem gL (q:Rat):dF false 1 (aH q) 1=some (cE q.num.natAbs):=rfl
theorem gP (q:Rat):dF false 1 (aH q) 2=some (cE q.den):=rfl
theorem pH {H:aA} {neg:Bool} {t b:Nat}:fz depth H (.agg [VB neg,cE t,cE b])=some (.agg [VB neg,cE t,cE b]):=aL (by simp[aY,aP,cL,lF])
theorem Ca {H:aA} (q:Rat):fz depth H (aH q)=some (aH q):=aL (nQ q)
theorem acR (n:Int):aH (n:Rat) = .agg [VB (decide (n<0)),cE n.natAbs,cE 1]:=Lj (by simp) (by simp) (by simp)
theorem K9 {n lo:Nat} {H:aA} {K:VV→aA→Prop} (h:(aC 1000000000 n).length≤17592186044416):cV 155 [cE n,.tree [VI 1] (.cl 1)] lo H K=K (VI (eZ n 1)) H:=by
 have c:=vH n 1 h (by rw[DA (by decide) (by decide) (by decide)];simp)
 have e:cE 1 = .tree [VI 1] .op:=by rw[cE,DA (by decide) (by decide) (by decide)];rfl
 rw[e] at c
 exact TC.args c rfl (by simp only[aP,cL];rfl) (fz2 (aL (cL n)) (alF rfl)) (by simp only[List.flatMap_cons,List.flatMap_nil,F3 (cL n),adR (es:=[VI 1]) rfl,List.append_nil]) lo K
theorem dV {d:Int} {H:aA}:lG false [.int .i64 0] 1 [(0,VI d)] H=some (.tree [VI d] (.cl 1),H):=sR
theorem fV {e:Nat} {es:List VV}:bY (.tree es (.cl e))=true:=rfl
theorem dU {k:TK} {es:List VV}:aB (.tree es k)=[.tree es k]:=rfl
theorem fS {k:TK} {es:List VV}:isAny (.tree es k)=false:=rfl
theorem Qj {d:Nat} {H:aA}:fz (d+2) H (.tree [VI 1] (.cl 1))=some (cE 1):=by
 rw[abO]
 unfold fz
 have:aY (.tree [VI 1] (.cl 1))=false:=by simp[aY]
 simp only[this,Bool.false_eq_true,if_false]
 rfl
theorem sK (neg:Bool) (t b:Nat) (hb:b≠0) (ht:bl t≤4398046511104) (vE:bl b≤4398046511104):TC 153 [VB neg,cE t,cE b] (aH (mkRat (kT neg t) b)):=by
 refine TC.walk ⟨true,false⟩ MO rfl (Nat.le_of_ble_eq_true rfl) (by simp[aP,cL,aY,lF]) (vX _) ?_
 have hg0:Nat.gcd t b≠0:=Nat.gcd_ne_zero_right hb
 have hgl:bl (Nat.gcd t b)≤4398046511104:=Nat.le_trans (kP (Nat.gcd_le_right t (by omega))) vE
 have c1:=FR t b (oZ ht) (oZ vE)
 have c2:=uY t _ hg0 (oZ ht) (oZ hgl)
 have c3:=uY b _ hg0 (oZ vE) (oZ hgl)
 have c4:∀lo H K,_:=fun lo H K=>K9 (n:=Nat.gcd t b) (lo:=lo) (H:=H) (K:=K) (Nat.le_of_lt (oZ hgl))
 have Vk:aH (mkRat (kT neg t) b) = .agg [VB (neg&&decide (t / Nat.gcd t b≠0)),cE (t / Nat.gcd t b),cE (b / Nat.gcd t b)]:=by
  refine Lj ?_ (by rw[Ga hb,oB]) (Q2 hb)
  rw[Ga hb,Q3,Bool.and_eq_true,decide_eq_true_eq]
 rw[Vk]
 by_cases h1:eZ (Nat.gcd t b) 1=0
 ·have hg1:=BH.1 h1
  have e1:t / Nat.gcd t b=t:=by rw[hg1,Nat.div_one]
  have e2:b / Nat.gcd t b=b:=by rw[hg1,Nat.div_one]
  rw[e1,e2]
  cases neg with
  |
   false =>
   simp only[mQ,kO,c1,c4,h1,dV,aN,bJ,aV,iJ,Nat.reduceLeDiff,Nat.reduceLT,Nat.reduceSub,VX,Nat.reduceEqDiff,Nat.reduceAdd]
   exact pH
  |
   true =>
   by_cases h0:t=0
   ·have hl:¬(0:Int)<((aC 1000000000 t).length:Int):=by rw[qT];omega
    simp only[mQ,kO,c1,c4,h1,hl,cN,dV,aN,bJ,aV,iJ,Nat.reduceLeDiff,Nat.reduceLT,Nat.reduceSub,VX,Nat.reduceEqDiff,Nat.reduceAdd]
    rw[h0]
    exact pH
   ·have hl:(0:Int)<((aC 1000000000 t).length:Int):=qT.2 h0
    simp only[mQ,kO,c1,c4,h1,hl,cN,dV,aN,bJ,aV,iJ,Nat.reduceLeDiff,Nat.reduceLT,Nat.reduceSub,VX,Nat.reduceEqDiff,Nat.reduceAdd]
    rw[decide_eq_true h0]
    exact pH
 ·cases neg with
  |
   false =>
   simp only[mQ,kO,c1,c2,c3,c4,h1,dV,aN,bJ,aV,iJ,Nat.reduceLeDiff,Nat.reduceLT,Nat.reduceSub,VX,Nat.reduceEqDiff,Nat.reduceAdd]
   exact pH
  |
   true =>
   generalize t / Nat.gcd t b=t' at *
   by_cases h0:t'=0
   ·have hl:¬(0:Int)<((aC 1000000000 t').length:Int):=by rw[qT];omega
    simp only[mQ,kO,c1,c2,c3,c4,h1,hl,cN,dV,aN,bJ,aV,iJ,Nat.reduceLeDiff,Nat.reduceLT,Nat.reduceSub,VX,Nat.reduceEqDiff,Nat.reduceAdd]
    rw[h0]
    exact pH
   ·have hl:(0:Int)<((aC 1000000000 t').length:Int):=qT.2 h0
    simp only[mQ,kO,c1,c2,c3,c4,h1,hl,cN,dV,aN,bJ,aV,iJ,Nat.reduceLeDiff,Nat.reduceLT,Nat.reduceSub,VX,Nat.reduceEqDiff,Nat.reduceAdd]
    rw[decide_eq_true h0]
    exact pH
theorem FY (n:Int) (h0 : -9223372036854775808<n) (h1:n≤9223372036854775807):TC 130 [VI n] (aH (n:Rat)):=by
 refine TC.walk ⟨true,false⟩ Oc rfl (Nat.le_of_ble_eq_true rfl) rfl (vX _) ?_
 rw[acR]
 by_cases h:n<0
 ·have w:IntKind.i64.wrap (0-n)=(n.natAbs:Int):=wrapN _ (by omega) (by omega)
  have c1:TC 178 [VI (n.natAbs:Int)] (cE n.natAbs):=qZ (n.natAbs:Int) (by omega)
  rw[decide_eq_true h]
  simp only[Dy,A2,h,w,c1,dV,aN,bJ,aV,fV,dU,fS,iJ,Nat.reduceLeDiff,Nat.reduceLT,Nat.reduceSub,VX,Nat.reduceEqDiff,Nat.reduceAdd]
  exact rK (d:=6) (afP rfl) (aM (cL _)) (Qj (d:=5))
 ·have c1:TC 178 [VI n] (cE n.natAbs):=by
   have:=qZ n h1
   rwa [show n.toNat=n.natAbs by omega] at this
  rw[decide_eq_false h]
  simp only[Dy,A2,h,c1,dV,aN,bJ,aV,fV,dU,fS,iJ,Nat.reduceLeDiff,Nat.reduceLT,Nat.reduceSub,VX,Nat.reduceEqDiff,Nat.reduceAdd]
  exact rK (d:=6) (afP rfl) (aM (cL _)) (Qj (d:=5))
theorem N5:TC 83 [] (aH 1):=by
 refine TC.walk ⟨true,false⟩ Oy rfl (Nat.le_of_ble_eq_true rfl) rfl (vX _) ?_
 have c1:TC 130 [VI 1] (aH 1):=FY 1 (by decide) (by decide)
 simp only[JE,Fx,c1,cC,iM,lE,aN,iJ,Nat.reduceLeDiff,Nat.reduceLT,Nat.reduceSub,VX,Nat.reduceEqDiff,Nat.reduceAdd]
 exact Ca _
theorem Ac:TC 77 [] (aH 0):=by
 refine TC.walk ⟨true,false⟩ Mt rfl (Nat.le_of_ble_eq_true rfl) rfl (vX _) ?_
 have c1:TC 130 [VI 0] (aH 0):=FY 0 (by decide) (by decide)
 simp only[Ht,DH,c1,cC,iM,lE,aN,iJ,Nat.reduceLeDiff,Nat.reduceLT,Nat.reduceSub,VX,Nat.reduceEqDiff,Nat.reduceAdd]
 exact Ca _
theorem Gd (q:Rat):TC 157 [aH q] (aH (-q)):=by
 refine TC.walk ⟨true,false⟩ Gh rfl (Nat.le_of_ble_eq_true rfl) (by simp[aP,nQ]) (vX _) ?_
 have hq:aH (-q) = .agg [VB (decide (0<q.num)),cE q.num.natAbs,cE q.den]:=Lj (by simp) (by simp) (by simp)
 rw[hq]
 by_cases h1:q.num<0
 ·have h2:¬0<q.num:=by omega
  simp only[pK,nC,cN,h1,h2,cC,fT,gL,gP,aN,bJ,aV,iJ,Nat.reduceLeDiff,Nat.reduceLT,Nat.reduceSub,VX,Nat.reduceEqDiff,Nat.reduceAdd]
  exact pH
 ·by_cases h0:q.num=0
  ·have hl:¬(0:Int)<((aC 1000000000 q.num.natAbs).length:Int):=by rw[qT];omega
   have h2:¬0<q.num:=by omega
   simp only[pK,nC,cN,hl,h1,h2,cC,fT,gL,gP,aN,bJ,aV,iJ,Nat.reduceLeDiff,Nat.reduceLT,Nat.reduceSub,VX,Nat.reduceEqDiff,Nat.reduceAdd]
   exact pH
  ·have hl:(0:Int)<((aC 1000000000 q.num.natAbs).length:Int):=by rw[qT];omega
   have h2:0<q.num:=by omega
   simp only[pK,nC,cN,hl,h1,h2,cC,fT,gL,gP,aN,bJ,aV,iJ,Nat.reduceLeDiff,Nat.reduceLT,Nat.reduceSub,VX,Nat.reduceEqDiff,Nat.reduceAdd]
   exact pH
theorem AT (a b:Rat) (Ou:bP a≤1099511627776) (Ip:bP b≤1099511627776):TC 79 [aH a,aH b] (aH (a+b)):=by
 refine TC.walk ⟨true,false⟩ Oi rfl (Nat.le_of_ble_eq_true rfl) (by simp[aP,nQ]) (vX _) ?_
 have la:=uS Ou
 have lb:=uS Ip
 have lda:=vB Ou
 have ldb:=vB Ip
 have hBn:=Nat.mul_ne_zero a.den_nz b.den_nz
 have m1:=gZ a.num.natAbs b.den (Nat.le_of_lt (oZ (by omega))) (Nat.le_of_lt (oZ (by omega)))
 have m2:=gZ b.num.natAbs a.den (Nat.le_of_lt (oZ (by omega))) (Nat.le_of_lt (oZ (by omega)))
 have m3:=gZ a.den b.den (Nat.le_of_lt (oZ (by omega))) (Nat.le_of_lt (oZ (by omega)))
 have ea:mkRat (kT (decide (a.num<0)) (a.num.natAbs*b.den)) (a.den*b.den)=a:=EK a b.den_nz
 have eb:mkRat (kT (decide (b.num<0)) (b.num.natAbs*a.den)) (a.den*b.den)=b:=by rw[Nat.mul_comm a.den];exact EK b a.den_nz
 have k1:=nX a.num.natAbs b.den
 have k2:=nX b.num.natAbs a.den
 have k3:=nX a.den b.den
 obtain⟨p1,p2,p3⟩:=Jn hBn ea eb
 have hX:bl (a.num.natAbs*b.den)≤2199023255552:=by omega
 have hY:bl (b.num.natAbs*a.den)≤2199023255552:=by omega
 have hB:bl (a.den*b.den)≤4398046511104:=by omega
 generalize a.num.natAbs*b.den=X at *
 generalize b.num.natAbs*a.den=Y at *
 generalize a.den*b.den=B at *
 have f1:=IK X Y (oZ (by omega)) (oZ (by omega))
 have f2:=vH X Y (Nat.le_of_lt (oZ (by omega))) (Nat.le_of_lt (oZ (by omega)))
 have hS:bl (X+Y)≤4398046511104:=Nat.le_trans (U6 hX hY) (by decide)
 have hD1:bl (X-Y)≤4398046511104:=Nat.le_trans (kP (Nat.sub_le _ _)) (by omega)
 have hD2:bl (Y-X)≤4398046511104:=Nat.le_trans (kP (Nat.sub_le _ _)) (by omega)
 have f5:=fun neg=>sK neg (X+Y) B hBn hS hB
 have f6:=fun neg=>sK neg (X-Y) B hBn hD1 hB
 have f7:=fun neg=>sK neg (Y-X) B hBn hD2 hB
 by_cases hn:decide (a.num<0)=decide (b.num<0)
 ·have SK:(decide (a.num<0) == decide (b.num<0))=true:=by simpa using hn
  rw[←p1 hn]
  simp only[Aw,vK,m1,m2,m3,f1,f5,A1,oR,SK,cC,iM,fT,gL,gP,lE,aN,bJ,aV,iJ,Nat.reduceLeDiff,Nat.reduceLT,Nat.reduceSub,VX,Nat.reduceEqDiff,Nat.reduceAdd]
  exact Ca _
 ·have SK:(decide (a.num<0) == decide (b.num<0))=false:=by simpa using hn
  by_cases hx:(0:Int)≤eZ X Y
  ·have hle:Y≤X:=by have := @vF X Y;omega
   have c3:=Ay X Y hle (Nat.le_of_lt (oZ (by omega)))
   rw[←p2 hn hle]
   simp only[Aw,vK,m1,m2,m3,f2,c3,f6,hx,A1,oR,SK,cC,iM,fT,gL,gP,lE,aN,bJ,aV,iJ,Nat.reduceLeDiff,Nat.reduceLT,Nat.reduceSub,VX,Nat.reduceEqDiff,Nat.reduceAdd]
   exact Ca _
  ·have hle:X≤Y:=by have := @vF X Y;omega
   have c3:=Ay Y X hle (Nat.le_of_lt (oZ (by omega)))
   rw[←p3 hn hle]
   simp only[Aw,vK,m1,m2,m3,f2,c3,f7,hx,A1,oR,SK,cC,iM,fT,gL,gP,lE,aN,bJ,aV,iJ,Nat.reduceLeDiff,Nat.reduceLT,Nat.reduceSub,VX,Nat.reduceEqDiff,Nat.reduceAdd]
   exact Ca _
theorem KB (a b:Rat) (Ou:bP a≤1099511627776) (Ip:bP b≤1099511627776):TC 82 [aH a,aH b] (aH (a-b)):=by
 refine TC.walk ⟨true,false⟩ Kt rfl (Nat.le_of_ble_eq_true rfl) (by simp[aP,nQ]) (vX _) ?_
 have c1:=Gd b
 have c2:=AT a (-b) Ou (by rw[IJ];exact Ip)
 rw[←Rat.sub_eq_add_neg] at c2
 simp only[Fo,De,c1,c2,cC,iM,lE,aN,bJ,aV,iJ,Nat.reduceLeDiff,Nat.reduceLT,Nat.reduceSub,VX,Nat.reduceEqDiff,Nat.reduceAdd]
 exact Ca _
theorem ajU (a b:Int):kT (decide (a<0) != decide (b<0)) (a.natAbs*b.natAbs)=a*b:=by
 rcases Int.lt_trichotomy a 0 with h1 | h1 | h1<;>rcases Int.lt_trichotomy b 0 with h2 | h2 | h2
 ·rw[decide_eq_true h1,decide_eq_true h2]
  simp only[kT,bne_self_eq_false,Bool.false_eq_true,if_false,Int.natCast_mul]
  rw[show (a.natAbs:Int) = -a by omega,show (b.natAbs:Int) = -b by omega,Int.neg_mul_neg]
 ·subst h2;simp[zD]
 ·rw[decide_eq_true h1,decide_eq_false (show ¬b<0 by omega)]
  simp only[kT,Bool.true_bne,Bool.not_false,if_true,Int.natCast_mul]
  rw[show (a.natAbs:Int) = -a by omega,show (b.natAbs:Int)=b by omega,Int.neg_mul,Int.neg_neg]
 ·subst h1;simp[zD]
 ·subst h1;simp[zD]
 ·subst h1;simp[zD]
 ·rw[decide_eq_false (show ¬a<0 by omega),decide_eq_true h2]
  simp only[kT,Bool.false_bne,if_true,Int.natCast_mul]
  rw[show (a.natAbs:Int)=a by omega,show (b.natAbs:Int) = -b by omega,Int.mul_neg,Int.neg_neg]
 ·subst h2;simp[zD]
 ·rw[decide_eq_false (show ¬a<0 by omega),decide_eq_false (show ¬b<0 by omega)]
  simp only[kT,bne_self_eq_false,Bool.false_eq_true,if_false,Int.natCast_mul]
  rw[show (a.natAbs:Int)=a by omega,show (b.natAbs:Int)=b by omega]
theorem VY {a b:Rat} (hb:b≠0):mkRat (kT (decide (a.num<0) != decide (b.num<0)) (a.num.natAbs*b.den)) (a.den*b.num.natAbs)=a / b:=by
 have hn:b.num≠0:=fun h=>hb (Rat.num_eq_zero.1 h)
 have i1:b⁻¹.num=b.num.sign*b.den:=Rat.num_inv b
 have i2:b⁻¹.den=b.num.natAbs:=by rw[Rat.den_inv,if_neg hn]
 have hd:(0:Int)<b.den:=by have:=b.den_nz;omega
 have i3:b⁻¹.num.natAbs=b.den:=by
  rw[i1,Int.natAbs_mul,Int.natAbs_natCast]
  rcases Int.lt_or_gt_of_ne hn with h1 | h1
  ·rw[Int.sign_eq_neg_one_of_neg h1];simp
  ·rw[Int.sign_eq_one_of_pos h1];simp
 have i4:decide (b⁻¹.num<0)=decide (b.num<0):=by
  rw[i1]
  rcases Int.lt_or_gt_of_ne hn with h1 | h1
  ·rw[Int.sign_eq_neg_one_of_neg h1,decide_eq_true h1];simp;omega
  ·rw[Int.sign_eq_one_of_pos h1,decide_eq_false (show ¬b.num<0 by omega)];simp
 rw[Rat.div_def,Rat.mul_def',←ajU,i2,i3,i4]
theorem zI (a b:Rat) (hb:b≠0) (Ou:bP a≤1099511627776) (Ip:bP b≤1099511627776):TC 81 [aH a,aH b] (aH (a / b)):=by
 refine TC.walk ⟨true,false⟩ LH rfl (Nat.le_of_ble_eq_true rfl) (by simp[aP,nQ]) (vX _) ?_
 have hn:b.num≠0:=fun h=>hb (Rat.num_eq_zero.1 h)
 have la:=uS Ou
 have lb:=uS Ip
 have lda:=vB Ou
 have ldb:=vB Ip
 have k1:=nX a.num.natAbs b.den
 have k3:=nX a.den b.num.natAbs
 have m1:=gZ a.num.natAbs b.den (Nat.le_of_lt (oZ (by omega))) (Nat.le_of_lt (oZ (by omega)))
 have m3:=gZ a.den b.num.natAbs (Nat.le_of_lt (oZ (by omega))) (Nat.le_of_lt (oZ (by omega)))
 have c1:=sK (decide (a.num<0) != decide (b.num<0)) (a.num.natAbs*b.den) (a.den*b.num.natAbs) (Nat.mul_ne_zero a.den_nz (by omega)) (by omega) (by omega)
 rw[VY hb] at c1
 simp only[HQ,Ej,m1,m3,c1,oR,cC,iM,fT,gL,gP,lE,aN,bJ,aV,iJ,Nat.reduceLeDiff,Nat.reduceLT,Nat.reduceSub,VX,Nat.reduceEqDiff,Nat.reduceAdd]
 exact Ca _
theorem MN (q:Rat):TC 59 [aH q] (VB (decide (q=0))):=by
 refine TC.walk ⟨true,false⟩ My rfl (Nat.le_of_ble_eq_true rfl) (by simp[aP,nQ]) rfl ?_
 by_cases h0:q=0
 ·have hl:(((aC 1000000000 q.num.natAbs).length:Nat):Int)=0:=by rw[h0];simp[cH]
  simp only[Cf,yW,cN,hl,cC,fT,gL,gP,aN,bJ,aV,iJ,Nat.reduceLeDiff,Nat.reduceLT,Nat.reduceSub,VX,Nat.reduceEqDiff,Nat.reduceAdd]
  rw[decide_eq_true h0]
  exact aL rfl
 ·have hn:q.num≠0:=fun h=>h0 (Rat.num_eq_zero.1 h)
  have hl:¬(((aC 1000000000 q.num.natAbs).length:Nat):Int)=0:=by have := @qT q.num.natAbs;omega
  simp only[Cf,yW,cN,hl,cC,fT,gL,gP,aN,bJ,aV,iJ,Nat.reduceLeDiff,Nat.reduceLT,Nat.reduceSub,VX,Nat.reduceEqDiff,Nat.reduceAdd]
  rw[decide_eq_false h0]
  exact aL rfl
theorem N6 (q:Rat):TC 111 [aH q] (VB (decide (q.num<0))):=by
 refine TC.walk ⟨true,false⟩ N4 rfl (Nat.le_of_ble_eq_true rfl) (by simp[aP,nQ]) rfl ?_
 simp only[J6,Fv,cC,fT,aN,iJ,Nat.reduceLeDiff,Nat.reduceLT,Nat.reduceSub,VX,Nat.reduceEqDiff,Nat.reduceAdd]
 exact aL rfl
end Go.PM
namespace Go.PM
open Go.Lib
theorem ajB {m n:Nat} (h:decDigits m=decDigits n):m=n:=by
 have key:∀k m n:Nat,m<10^(k+1)→decDigits m=decDigits n→m=n:=by
  intro k
  induction k with
  |
   zero =>
   intro m n hm h
   rw[iS (by omega)] at h
   by_cases hn:n<10
   ·rw[iS hn] at h
    have h1:=List.singleton_inj.1 h
    unfold d10 at h1
    have:=congrArg UInt8.toNat h1
    simp at this
    omega
   ·rw[Au hn] at h
    have:=congrArg List.length h
    have h2:=List.length_pos_iff.2 (Q5 (n / 10))
    simp only[List.length_append,List.length_cons,List.length_nil] at this
    omega
  |
   succ k ih =>
   intro m n hm h
   by_cases h1:m<10
   ·rw[iS h1] at h
    by_cases hn:n<10
    ·rw[iS hn] at h
     have h1:=List.singleton_inj.1 h
     unfold d10 at h1
     have:=congrArg UInt8.toNat h1
     simp at this
     omega
    ·rw[Au hn] at h
     have:=congrArg List.length h
     have h2:=List.length_pos_iff.2 (Q5 (n / 10))
     simp only[List.length_append,List.length_cons,List.length_nil] at this
     omega
   ·rw[Au h1] at h
    by_cases hn:n<10
    ·rw[iS hn] at h
     have:=congrArg List.length h
     have h2:=List.length_pos_iff.2 (Q5 (m / 10))
     simp only[List.length_append,List.length_cons,List.length_nil] at this
     omega
    ·rw[Au hn] at h
     obtain⟨h2,h3⟩:=List.append_inj' h rfl
     have h4:=ih (m / 10) (n / 10) (by rw[Nat.pow_succ] at hm;omega) h2
     have h5:=List.singleton_inj.1 h3
     unfold d10 at h5
     have:=congrArg UInt8.toNat h5
     simp at this
     omega
 exact key m m n (Nat.lt_trans (Nat.lt_pow_self (by decide)) (Nat.pow_lt_pow_right (by decide) (Nat.lt_succ_self m))) h
def FV (q:Rat):List UInt8:=(if q.num<0 then [45] else [])++decDigits q.num.natAbs++(if q.den=1 then [] else 47::decDigits q.den)
def wX (q:Rat):Bool:=decide ((decDigits q.num.natAbs).length≤200)&&decide ((decDigits q.den).length≤200)
theorem Bb (n:Nat):(decDigits n).length≤bl n+1:=by
 by_cases h:n=0
 ·subst h;rw[iS (by decide)];simp
 ·have h1:=agP h
  obtain⟨k,hk⟩:∃k,bl n=k+1:=⟨bl n-1,by omega⟩
  have h2:=O0 n
  rw[hk] at h2 ⊢
  have h3:2^(k+1)≤10^(k+1):=Nat.pow_le_pow_left (by decide) _
  have:=yT n k (by omega)
  omega
end Go.PM
namespace Go.PM
open Go.Lib
theorem QC (a b:List UInt8):dG .neq (.string ⟨a.toArray⟩) (.string ⟨b.toArray⟩)=some (.bool (!decide (a=b))):=by
 have h:∀l:List UInt8,(ByteArray.toList ⟨l.toArray⟩)=l:=fun l=>by rw[ByteArray.toList_eq]
 show some (Value.bool (!(ByteArray.toList ⟨a.toArray⟩ == ByteArray.toList ⟨b.toArray⟩)))=_
 rw[h,h]
 congr 3
 cases h2:a == b
 ·rw[decide_eq_false (by simpa using h2)]
 ·rw[decide_eq_true (by simpa using h2)]
theorem XA (a b:List UInt8):dG .eql (.string ⟨a.toArray⟩) (.string ⟨b.toArray⟩)=some (.bool (decide (a=b))):=by
 have h:∀l:List UInt8,(ByteArray.toList ⟨l.toArray⟩)=l:=fun l=>by rw[ByteArray.toList_eq]
 show some (Value.bool (ByteArray.toList ⟨a.toArray⟩ == ByteArray.toList ⟨b.toArray⟩))=_
 rw[h,h]
 congr 2
 cases h2:a == b
 ·rw[decide_eq_false (by simpa using h2)]
 ·rw[decide_eq_true (by simpa using h2)]
theorem MY {n:Nat}:(decDigits n=[49])↔n=1:=by
 have e:decDigits 1=[49]:=by rw[iS (by decide)];rfl
 rw[←e]
 exact⟨ajB,fun h=>by rw[h]⟩
theorem Ky (q:Rat) (hk:bP q≤1099511627776):TC 180 [aO q] (.dR [bC (FV q),VB (wX q)]):=by
 refine TC.walk ⟨true,false⟩ Hm rfl (Nat.le_of_ble_eq_true rfl) (by simp[aP,iC]) rfl ?_
 have la:=uS hk
 have lb:=vB hk
 have t1:=C9 q.num.natAbs (asC (by omega))
 have t2:=C9 q.den (asC (by omega))
 have d1:=Bb q.num.natAbs
 have d2:=Bb q.den
 have a1:dG .add (.string ⟨#[45]⟩) (.string ⟨(decDigits q.num.natAbs).toArray⟩)=some (.string ⟨(45::decDigits q.num.natAbs).toArray⟩):=rC [45] _ (by simp only[List.length_cons,List.length_nil];omega)
 have a2:dG .add (.string ⟨#[47]⟩) (.string ⟨(decDigits q.den).toArray⟩)=some (.string ⟨(47::decDigits q.den).toArray⟩):=rC [47] (decDigits q.den) (by simp only[List.length_cons,List.length_nil];omega)
 have a3:=rC (45::decDigits q.num.natAbs) (47::decDigits q.den) (by simp only[List.length_cons];omega)
 have a4:=rC (decDigits q.num.natAbs) (47::decDigits q.den) (by simp only[List.length_cons];omega)
 have ne:dG .neq (.string ⟨(decDigits q.den).toArray⟩) (.string ⟨#[49]⟩)=_:=QC (decDigits q.den) [49]
 have hf:wX q=(decide (((decDigits q.num.natAbs).length:Int)≤200)&&decide (((decDigits q.den).length:Int)≤200)):=by
  unfold wX
  congr 1<;>exact decide_eq_decide.2 (by omega)
 rw[hf]
 have hs:FV q=(if q.num<0 then (45::decDigits q.num.natAbs) else decDigits q.num.natAbs)++(if q.den=1 then [] else 47::decDigits q.den):=by
  unfold FV
  by_cases hn:q.num<0
  ·rw[if_pos hn,if_pos hn];rfl
  ·rw[if_neg hn,if_neg hn];rfl
 rw[hs]
 by_cases hd:q.den=1
 ·rw[decide_eq_true (MY.2 hd)] at ne
  rw[if_pos hd,List.append_nil]
  by_cases hn:q.num<0<;>by_cases hl:((decDigits q.num.natAbs).length:Int)≤200
  all_goals
   simp only[wR,tX,t1,t2,a1,a2,a3,a4,ne,hn,hl,bU,aI,dQ,jO,jN,lO,dC,bB,aZ,aS,iJ,Nat.reduceLeDiff,Nat.reduceLT,Nat.reduceSub,VX,Nat.reduceEqDiff,Nat.reduceAdd]
   exact aL rfl
 ·rw[decide_eq_false (mt MY.1 hd)] at ne
  rw[if_neg hd]
  by_cases hn:q.num<0<;>by_cases hl:((decDigits q.num.natAbs).length:Int)≤200
  all_goals
   simp only[wR,tX,t1,t2,a1,a2,a3,a4,ne,hn,hl,bU,aI,dQ,jO,jN,lO,dC,bB,aZ,aS,iJ,Nat.reduceLeDiff,Nat.reduceLT,Nat.reduceSub,VX,Nat.reduceEqDiff,Nat.reduceAdd]
   exact aL rfl
def Td (q:Rat):VV:=if wX q=true then .dR [bC (FV q),VB true] else .dR [bC [],VB false]
theorem Y0 (q:Rat):hC (Td q)=true:=by unfold Td;split<;>rfl
end Go.PM
namespace Go.PM
open Go.Lib
abbrev bV (b:UInt8):VV := .sc (.int .u8 (b.toNat:Int))
theorem NS:∀bs:List UInt8,IM (bs.map bV)=some bs
 | []=>rfl
 |
  b::bs=>by
  rw[List.map_cons]
  show (IM (bs.map bV)).map (UInt8.ofNat ((b.toNat:Int)).toNat :: ·)=_
  rw[NS bs]
  simp
structure GC (v:VV) (H:aA) (bs:List UInt8):Prop where
 len:oS v H=some (VI bs.length)
 src:cW 1 v H=some (bs.map bV)
 nsc:∀x,v ≠ .sc x
theorem GC.str {v:VV} {H:aA} {bs:List UInt8} (h:GC v H bs) {fl:Fl} {lo:Nat} {x:Operand} {ρ:dL} (hx:eJ ρ x=v):vop fl lo (.b2s x) ρ H=some (bC bs,H):=by
 have h1:=h.nsc
 have h2:=h.src
 unfold vop
 dsimp only
 rw[hx]
 cases v with
 | sc x=>exact absurd rfl (h1 x)
 | _=>simp only[h2,NS,Option.map_some]
theorem Ze {bs:List UInt8} {k:TK} {H:aA}:cW 1 (.tree (bs.map bV) k) H=some (bs.map bV):=by
 have:((bs.map bV).all fun x=>(aB x).length == 1&&(aB x).all bY)=true:=by
  rw[List.all_eq_true]
  intro x hx
  obtain⟨d,_,rfl⟩:=List.mem_map.1 hx
  rfl
 simp only[cW,this,if_true]
theorem GC.tree {bs:List UInt8} {k:TK} {H:aA}:GC (.tree (bs.map bV) k) H bs:=⟨dY,Ze,fun x=>by simp⟩
theorem GC.row {bs:List UInt8} {H:aA} {b g:Nat} {w:Bool} (h:aF H b g=some (bs.map bV,1,w)):GC (.ref b g 0 bs.length bs.length) H bs:=by
 refine⟨dX h,?_,fun x=>by simp⟩
 have kQ:(((bs.map bV).drop 0).take bs.length).all (fun x=>(aB x).all bY)=true:=by
  rw[List.all_eq_true]
  intro x hx
  obtain⟨d,_,rfl⟩:=List.mem_map.1 (List.mem_of_mem_drop (List.mem_of_mem_take hx))
  rfl
 simp only[cW,h]
 rw[if_pos ⟨trivial,by simp,kQ⟩,List.drop_zero,List.take_of_length_le (by simp)]
theorem GC.cons {v:VV} {H:aA} {bs:List UInt8} (h:GC v H bs) (x:UInt8) (hl:bs.length≤1000000) (lo:Nat):∃v' H',dW lo 1 1 (.tree [bV x] (.cl 1)) (bs.map bV) H=some (v',H')∧GC v' H' (x::bs):=by
 by_cases hb:bs=[]
 ·subst hb
  exact⟨_,_,rfl,GC.tree (bs:=[x])⟩
 ·have fK:bs.length≠0:=fun h=>hb (List.length_eq_zero_iff.1 h)
  refine⟨.ref H.length 0 0 (x::bs).length (x::bs).length,H++[.row 0 ((x::bs).map bV) 1 true],?_,GC.row (Tc rfl)⟩
  simp only[dW,List.length_map]
  rw[if_pos ⟨by decide,by decide⟩,if_pos trivial,if_neg fK,if_pos (by simp;omega)]
  simp[Nat.add_comm]
theorem RT (r:Int):dG .rem (.int .i64 r) (.int .i64 10)=some (.int .i64 (r.tmod 10)):=rfl
theorem alH (r:Int) (h0 : -9223372036854775808≤r) (h1:r≤9223372036854775807):dG .quo (.int .i64 r) (.int .i64 10)=some (.int .i64 (r.tdiv 10)):=by
 show some (Value.int .i64 (IntKind.i64.wrap (r.tdiv 10)))=_
 have h2:(r.tdiv 10).natAbs=r.natAbs / 10:=by rw[Int.natAbs_tdiv];rfl
 rw[wrap64 (by omega) (by omega)]
theorem P3 {d:Nat} (h:d<10):(d10 d).toNat=48+d:=by
 unfold d10
 simp
 omega
theorem IH {n r:Nat} {bs:List UInt8} (h:decDigits n=decDigits r++bs):decDigits n=lR (r / 10)++d10 (r % 10)::bs:=by
 rw[h]
 by_cases hr:r<10
 ·rw[iS hr,lR,if_pos (by omega),Nat.mod_eq_of_lt hr];rfl
 ·rw[Au hr,lR,if_neg (by omega),List.append_assoc];rfl
theorem N8 (n:Int) (h0 : -9223372036854775808≤n) (h1:n≤9223372036854775807):TC 219 [VI n] (bC ((if n<0 then [45] else [])++decDigits n.natAbs)):=by
 refine TC.walk ⟨true,false⟩ NZ rfl (Nat.le_of_ble_eq_true rfl) rfl rfl ?_
 have e0:∀lr,lG lr [.int .u8 0] 0 [] []=some (.ref 0 0 0 0 0,[.row 0 (([]:List UInt8).map bV) 1 true]):=fun lr=>jH (H:=[]) rfl
 have e1:∀(x:UInt8) (H:aA),lG false [.int .u8 0] 1 [(0,bV x)] H=some (.tree [bV x] (.cl 1),H):=fun x H=>gW rfl rfl rfl
 have Uv:=yT n.natAbs 19 (by omega)
 simp only[JA,FH,e0,VX,Nat.reduceEqDiff,Nat.reduceAdd]
 refine aU (fun(s:Int×List UInt8) ρ H => -9223372036854775808≤s.1∧s.1≤9223372036854775807∧(s.2=[]→s.1=n)∧(s.2≠[]→decDigits n.natAbs=lR s.1.natAbs++s.2)∧GC (ρ 3) H s.2∧ρ 0=VI n∧ρ 4=VI s.1) (fun s=>s.1.natAbs+(if s.2=[] then 1 else 0)) (n,[]) ⟨h0,h1,fun _=>rfl,fun h=>absurd rfl h,by simp only[VX,Nat.reduceEqDiff,Nat.reduceAdd];exact GC.row (bs:=[]) aQ,rfl,rfl⟩ ?_
 rintro⟨r,bs⟩ ρ H ⟨qQ,KH,hn,hd,ho,g0,g4⟩
 simp only at qQ KH hn hd ho g4
 generalize hv3:ρ 3=v3 at ho
 have hlen:=ho.len
 have Bx:=ho.src
 by_cases LU:bs≠[]∧r=0
 ·obtain⟨hb,hr⟩:=LU
  subst hr
  have hl:¬(bs.length:Int)=0:=by have:=List.length_pos_iff.2 hb;omega
  have hdd:=hd hb
  simp only[lR,Int.natAbs_zero,if_true,List.nil_append] at hdd
  by_cases mX:n<0
  ·obtain⟨v',H',ap,Z7⟩:=ho.cons 45 (by rw[←hdd];omega) 0
   have RB:lG false [.int .u8 0] 1 [(0,.sc (.int .u8 45))] H=some (.tree [bV 45] (.cl 1),H):=e1 45 H
   have bs2:=fun bL (h:eJ bL (.tmp 34)=v')=>Z7.str (fl:=⟨true,false⟩) (lo:=0) h
   simp only[kG,g0,g4,hv3,hlen,hl,VX,Nat.reduceEqDiff,Nat.reduceAdd]
   simp only[g0,mX,hv3,RB,Bx,ap,Ru,VX,Nat.reduceEqDiff,Nat.reduceAdd]
   rw[bs2 _ (by rfl)]
   simp only[VX,Nat.reduceEqDiff,Nat.reduceAdd]
   rw[hdd]
   exact aL rfl
  ·have bs2:=fun bL (h:eJ bL (.tmp 34)=v3)=>ho.str (fl:=⟨true,false⟩) (lo:=0) h
   simp only[kG,g0,g4,hv3,hlen,hl,VX,Nat.reduceEqDiff,Nat.reduceAdd]
   simp only[g0,mX,hv3,Ru,VX,Nat.reduceEqDiff,Nat.reduceAdd]
   rw[bs2 _ (by simp only[VX,Nat.reduceEqDiff,Nat.reduceAdd];try exact hv3)]
   simp only[VX,Nat.reduceEqDiff,Nat.reduceAdd]
   rw[hdd]
   exact aL rfl
 ·have hm:r.tmod 10=if r<0 then -((r.natAbs % 10:Nat):Int) else ((r.natAbs % 10:Nat):Int):=by
   have:=Int.tmod_eq_emod_of_nonneg (a:=r) (b:=10)
   by_cases h:r<0
   ·rw[if_pos h]
    have h2:=Int.neg_tmod (-r) 10
    rw[Int.neg_neg] at h2
    rw[h2,Int.tmod_eq_emod_of_nonneg (by omega)]
    omega
   ·rw[if_neg h,this (by omega)]
    omega
  have hq:(r.tdiv 10).natAbs=r.natAbs / 10:=by rw[Int.natAbs_tdiv];rfl
  have hmd:=Nat.mod_lt r.natAbs (show 0<10 by decide)
  have q1:=alH r qQ KH
  have vE:bs.length≤19:=by
   by_cases hb:bs=[]
   ·subst hb;simp
   ·have h2:=hd hb
    have h3:=congrArg List.length h2
    rw[List.length_append] at h3
    have h4:r≠0:=fun h=>LU ⟨hb,h⟩
    have h5:=List.length_pos_iff.2 (Q5 r.natAbs)
    rw[lR,if_neg (by omega)] at h3
    omega
  obtain⟨v',H',ap,Z7⟩:=ho.cons (d10 (r.natAbs % 10)) (by omega) 0
  have w2:IntKind.i64.wrap (48+((r.natAbs % 10:Nat):Int))=((48+r.natAbs % 10:Nat):Int):=wrapN _ (by omega) (by omega)
  have w3:IntKind.u8.wrap ((48+r.natAbs % 10:Nat):Int)=((48+r.natAbs % 10:Nat):Int):=by
   simp[IntKind.wrap,IntKind.bits,IntKind.signed]
   omega
  have hx:VV.sc (.int .u8 ((48+r.natAbs % 10:Nat):Int))=bV (d10 (r.natAbs % 10)):=by rw[bV,P3 hmd]
  have RB:=e1 (d10 (r.natAbs % 10)) H
  rw[←hx] at RB ap
  have next:∃s':Int×List UInt8,s'.1.natAbs+(if s'.2=[] then 1 else 0)<r.natAbs+(if bs=[] then 1 else 0) ∧ -9223372036854775808≤s'.1∧s'.1≤9223372036854775807∧(s'.2=[]→s'.1=n)∧(s'.2≠[]→decDigits n.natAbs=lR s'.1.natAbs++s'.2)∧GC v' H' s'.2∧r.tdiv 10=s'.1:=by
   refine⟨(r.tdiv 10,d10 (r.natAbs % 10)::bs),?_,by simp only;omega,by simp only;omega,fun h=>(by simp at h),fun _ => ?_,Z7,rfl⟩
   ·simp only[hq,List.cons_ne_nil,if_false]
    by_cases hb:bs=[]
    ·rw[if_pos hb];omega
    ·have h4:r≠0:=fun h=>LU ⟨hb,h⟩
     rw[if_neg hb];omega
   ·simp only[hq]
    by_cases hb:bs=[]
    ·subst hb
     refine IH ?_
     rw[hn rfl,List.append_nil]
    ·have h4:r≠0:=fun h=>LU ⟨hb,h⟩
     have h2:=hd hb
     rw[lR,if_neg (by omega)] at h2
     exact IH h2
  by_cases hrn:r.tmod 10<0
  ·have w1:IntKind.i64.wrap (0-r.tmod 10)=((r.natAbs % 10:Nat):Int):=by
    have:r.tmod 10 = -((r.natAbs % 10:Nat):Int):=by
     by_cases h:r<0
     ·rw[if_pos h] at hm;exact hm
     ·rw[if_neg h] at hm;omega
    rw[this]
    exact wrapN _ (by omega) (by omega)
   by_cases hb:bs=[]
   ·have hl:(bs.length:Int)=0:=by rw[hb];rfl
    simp only[kG,g0,g4,hv3,hlen,hl,RT,q1,hrn,w1,w2,w3,RB,Bx,ap,VX,Nat.reduceEqDiff,Nat.reduceAdd]
    obtain⟨s',n1,n2,n3,n4,n5,n6,n7⟩:=next
    exact⟨s',n1,n2,n3,n4,n5,n6,by rw[n7]⟩
   ·have hl:¬(bs.length:Int)=0:=by have:=List.length_pos_iff.2 hb;omega
    have hr:¬r=0:=fun h=>LU ⟨hb,h⟩
    simp only[kG,g0,g4,hv3,hlen,hl,hr,RT,q1,hrn,w1,w2,w3,RB,Bx,ap,VX,Nat.reduceEqDiff,Nat.reduceAdd]
    obtain⟨s',n1,n2,n3,n4,n5,n6,n7⟩:=next
    exact⟨s',n1,n2,n3,n4,n5,n6,by rw[n7]⟩
  ·have hmm:r.tmod 10=((r.natAbs % 10:Nat):Int):=by
    rw[hm] at hrn ⊢
    split
    ·rename_i h;rw[if_pos h] at hrn;omega
    ·rfl
   have arU:¬((r.natAbs % 10:Nat):Int)<0:=by omega
   by_cases hb:bs=[]
   ·have hl:(bs.length:Int)=0:=by rw[hb];rfl
    simp only[kG,g0,g4,hv3,hlen,hl,RT,hmm,q1,arU,w2,w3,RB,Bx,ap,VX,Nat.reduceEqDiff,Nat.reduceAdd]
    obtain⟨s',n1,n2,n3,n4,n5,n6,n7⟩:=next
    exact⟨s',n1,n2,n3,n4,n5,n6,by rw[n7]⟩
   ·have hl:¬(bs.length:Int)=0:=by have:=List.length_pos_iff.2 hb;omega
    have hr:¬r=0:=fun h=>LU ⟨hb,h⟩
    simp only[kG,g0,g4,hv3,hlen,hl,hr,RT,hmm,q1,arU,w2,w3,RB,Bx,ap,VX,Nat.reduceEqDiff,Nat.reduceAdd]
    obtain⟨s',n1,n2,n3,n4,n5,n6,n7⟩:=next
    exact⟨s',n1,n2,n3,n4,n5,n6,by rw[n7]⟩
end Go.PM
namespace Go.PM
abbrev chV (c:List (List ByteArray)):VV := .agg [sW c]
theorem BO (c:List (List ByteArray)):aY (chV c)=true:=by
 show aP [sW c]=true
 simp only[aP,B7,Bool.and_self]
theorem Rs {c:List (List ByteArray)}:dF false 1 (chV c) 0=some (sW c):=rfl
def D3 (n:Nat) (H:aA) (bare:Bool) (c:List (List ByteArray)) (r:VV):Prop:=∃c0,r = .agg [c0]∧yH n H bare c c0
theorem D3.cG {n:Nat} {H H':aA} {bare:Bool} {s:List (List ByteArray)} {c:VV} (h:D3 n H bare s c) (hk:∀b g x,n<b→aF H b g=some x→aF H' b g=some x):D3 n H' bare s c:=by
 obtain⟨c0,rfl,h0⟩:=h
 exact⟨c0,rfl,h0.cG hk⟩
theorem D3.pre {n:Nat} {H H':aA} {bare:Bool} {s:List (List ByteArray)} {c:VV} (h:D3 n H bare s c) (hh:H <+: H'):D3 n H' bare s c:=h.cG fun _ _ _ _=>cA hh
theorem D3.fz {n:Nat} {H:aA} {bare:Bool} {s:List (List ByteArray)} {c:VV} (h:D3 n H bare s c):PM.fz depth H c=some (chV s):=by
 obtain⟨c0,rfl,h0⟩:=h
 have f0:=h0.fz (d:=4)
 have e:PM.fz (7+1) H (.agg [c0])=if aY (.agg [c0])=true then some (.agg [c0]) else ([c0].mapM (PM.fz 7 H)).map .agg:=rfl
 show PM.fz (7+1) H (.agg [c0])=_
 rw[e]
 by_cases hp:aY (.agg [c0])=true
 ·rw[if_pos hp]
  have hu:aY c0=true:=by simpa[aY,aP] using hp
  rw[aM hu] at f0
  cases f0
  rfl
 ·rw[if_neg hp,List.mapM_cons,f0]
  rfl
end Go.PM
namespace Go.PM
open Go.Lib
def iN (c:UInt8):Bool:=decide (48≤c.toNat)&&decide (c.toNat≤57)
def dv (c:UInt8):Nat:=c.toNat-48
def MD (a:Nat) (l:List UInt8):Nat:=l.foldl (fun a c=>a*10+dv c) a
def cD (l:List UInt8):Nat:=MD 0 l
theorem XM (l:List UInt8):∀a,MD a l=a*10^l.length+cD l:=by
 induction l with
 | nil=>intro a;simp[MD,cD]
 |
  cons c l ih =>
  intro a
  have h1:MD a (c::l)=MD (a*10+dv c) l:=rfl
  have h2:cD (c::l)=MD (0*10+dv c) l:=rfl
  rw[h1,h2,ih,ih (0*10+dv c),List.length_cons,Nat.pow_succ]
  grind
theorem NB (a b:List UInt8):cD (a++b)=cD a*10^b.length+cD b:=by
 have:cD (a++b)=MD (cD a) b:=by unfold cD MD;rw[List.foldl_append]
 rw[this,XM]
theorem LP:cD []=0:=rfl
theorem X6 (a:List UInt8) (c:UInt8):cD (a++[c])=cD a*10+dv c:=by
 rw[NB]
 simp[cD,MD]
theorem amD {c:UInt8} (h:iN c=true):dv c<10:=by
 simp only[iN,Bool.and_eq_true,decide_eq_true_eq] at h
 unfold dv
 omega
theorem Hz:∀ {l:List UInt8},l.all iN=true→cD l<10^l.length:=by
 intro l
 induction l with
 | nil=>intro _;decide
 |
  cons c l ih =>
  intro h
  rw[List.all_cons,Bool.and_eq_true] at h
  have h1:=amD h.1
  have h2:=ih h.2
  have h3:cD (c::l)=MD (0*10+dv c) l:=rfl
  rw[h3,XM,List.length_cons,Nat.pow_succ]
  have h4:(0*10+dv c)*10^l.length≤9*10^l.length:=Nat.mul_le_mul_right _ (by omega)
  omega
theorem apU {M:Nat} (hM:1000000000000000000≤M):∀(l:List UInt8) (k acc:Nat),l.all iN=true→acc<10^k→k+l.length≤18→parseUintM M acc l = .ok (MD acc l):=by
 intro l
 induction l with
 | nil=>intro k acc _ _ _;rfl
 |
  cons c l ih =>
  intro k acc h hk hl
  rw[List.all_cons,Bool.and_eq_true] at h
  have h1:=amD h.1
  have h0:=h.1
  simp only[iN,Bool.and_eq_true,decide_eq_true_eq] at h0
  rw[List.length_cons] at hl
  have h18:acc<10^17:=Nat.lt_of_lt_of_le hk (Nat.pow_le_pow_right (by decide) (by omega))
  have e17:(10:Nat)^17=100000000000000000:=by decide
  rw[e17] at h18
  have hd:c.toNat-48=dv c:=rfl
  rw[parseUintM,if_pos h0,if_neg (by omega),hd,if_neg (by omega),ih (k+1) _ h.2 (by rw[Nat.pow_succ];omega) (by omega)]
  rfl
theorem anV {l:List UInt8} (h:l.all iN=true) (h0:l≠[]) (hl:l.length≤18):parseUintB 64 l = .ok (cD l):=by
 unfold parseUintB
 rw[if_neg h0]
 exact apU (by decide) l 0 0 h (by decide) (by omega)
def iI (l:List UInt8):Bool:=l.all iN&&decide (1≤l.length)&&decide (l.length≤200)&&(decide (l.length=1) || !decide (l.getD 0 0=48))
theorem jY {l:List UInt8}:iI l=true↔l.all iN=true∧1≤l.length∧l.length≤200∧(l.length=1∨l.getD 0 0≠48):=by
 unfold iI
 simp only[Bool.and_eq_true,Bool.or_eq_true,Bool.not_eq_true',decide_eq_true_eq,decide_eq_false_iff_not,ne_eq,and_assoc]
theorem yM {l:List UInt8} (h:iI l=true):bl (cD l)≤665:=by
 obtain⟨h1,h2,h3,_⟩:=jY.1 h
 refine G5 (Nat.lt_of_lt_of_le (Hz h1) ?_)
 exact Nat.le_trans (Nat.pow_le_pow_right (by decide) h3) (by decide +kernel)
def mC (c:UInt8):List UInt8→List UInt8×Option (List UInt8)
 | []=>([],none)
 | x::r=>if x=c then ([],some r) else (x::(mC c r).1,(mC c r).2)
theorem BK {c:UInt8}:∀ {l:List UInt8},(mC c l).2=none→indexByte l c = -1∧(mC c l).1=l∧c∉l:=by
 intro l
 induction l with
 | nil=>intro _;exact⟨rfl,rfl,by simp⟩
 |
  cons x l ih =>
  intro h
  unfold mC at h ⊢
  by_cases hx:x=c
  ·rw[if_pos hx] at h
   cases h
  ·rw[if_neg hx] at h ⊢
   obtain⟨h1,h2,h3⟩:=ih h
   refine⟨?_,by rw[h2],?_⟩
   ·rw[indexByte,if_neg (by simpa using hx),h1]
    rfl
   ·rw[List.mem_cons,not_or]
    exact⟨fun h=>hx h.symm,h3⟩
theorem Ik {c:UInt8}:∀ {l r:List UInt8},(mC c l).2=some r→indexByte l c=((mC c l).1.length:Int)∧l=(mC c l).1++c::r∧c∉(mC c l).1:=by
 intro l
 induction l with
 | nil=>intro r h;cases h
 |
  cons x l ih =>
  intro r h
  unfold mC at h ⊢
  by_cases hx:x=c
  ·rw[if_pos hx] at h ⊢
   cases h
   subst hx
   refine⟨?_,rfl,by simp⟩
   rw[indexByte,if_pos (by simp)]
   rfl
  ·rw[if_neg hx] at h ⊢
   obtain⟨h1,h2,h3⟩:=ih h
   refine⟨?_,?_,?_⟩
   ·rw[indexByte,if_neg (by simpa using hx),h1,if_neg]
    ·simp
    ·simp
   ·conv=>lhs;rw[h2]
    rfl
   ·rw[List.mem_cons,not_or]
    exact⟨fun h=>hx h.symm,h3⟩
def pE (neg:Bool) (d:List UInt8) (s:Option (List UInt8)):Option Rat :=
 if iI d=false∨(neg=true∧cD d=0) then none else
 match s with
 | none=>some (mkRat (kT neg (cD d)) 1)
 | some t=>if iI t=true∧1<cD t∧Nat.gcd (cD d) (cD t)=1 then some (mkRat (kT neg (cD d)) (cD t)) else none
def isNeg (l:List UInt8):Bool:=decide (1≤l.length)&&decide (l.getD 0 0=45)
def Ab (l:List UInt8):Option Rat:=pE (isNeg l) ((mC 47 (if isNeg l then l.drop 1 else l)).1) ((mC 47 (if isNeg l then l.drop 1 else l)).2)
theorem Vj {neg:Bool} {d:List UInt8} {s:Option (List UInt8)} {q:Rat} (h:pE neg d s=some q):iI d=true∧¬(neg=true∧cD d=0)∧((s=none∧q=mkRat (kT neg (cD d)) 1)∨∃t,s=some t∧iI t=true∧1<cD t∧Nat.gcd (cD d) (cD t)=1∧q=mkRat (kT neg (cD d)) (cD t)):=by
 unfold pE at h
 split at h
 ·cases h
 ·rename_i hc
  rw[not_or] at hc
  refine⟨by simpa using hc.1,hc.2,?_⟩
  split at h
  ·exact .inl ⟨rfl,(Option.some.inj h).symm⟩
  ·rename_i t
   split at h
   ·rename_i ht
    exact .inr ⟨t,rfl,ht.1,ht.2.1,ht.2.2,(Option.some.inj h).symm⟩
   ·cases h
theorem TQ {neg:Bool} {d:List UInt8} {s:Option (List UInt8)} {q:Rat} (h:pE neg d s=some q):bP q≤665:=by
 obtain⟨h1,_,h3⟩:=Vj h
 have hb:=yM h1
 rcases h3 with⟨_,rfl⟩ | ⟨t,_,h4,h5,_,rfl⟩
 ·exact Hi (by rw[oB];exact hb) (G5 (by decide +kernel)) (by decide)
 ·exact Hi (by rw[oB];exact hb) (yM h4) (by omega)
theorem Wt {l:List UInt8} {q:Rat} (h:Ab l=some q):bP q≤665:=TQ h
theorem JR {neg:Bool} {t b:Nat} (hb:b≠0) (hg:Nat.gcd t b=1):(mkRat (kT neg t) b).num=kT neg t∧(mkRat (kT neg t) b).den=b:=by
 rw[Ga hb,Q2 hb,hg,Nat.div_one,Nat.div_one]
 exact⟨rfl,rfl⟩
theorem Gb {c:UInt8} {l:List UInt8}:isNeg (c::l)=decide (c=45):=by simp[isNeg]
theorem afQ {l:List UInt8} (h:l.all iN=true):(47:UInt8)∉l:=by
 intro hm
 have:=List.all_eq_true.1 h _ hm
 exact absurd this (by decide)
end Go.PM