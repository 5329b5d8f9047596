/- Texts of a claim, in one: part 10. -/
import Derived.Lib.Bytealg
import Derived.Lib.ParseIntB
import Derived.Test.YtodamlihdkalfaaGreatDoorKYi
set_option linter.unusedSimpArgs false
set_option linter.unusedVariables false
namespace Go.PM
open Go.Lib
theorem pI (a b:List UInt8) (h:a.length+b.length≤9223372036854775807):cU .add (.string ⟨a.toArray⟩) (.string ⟨b.toArray⟩)=some (.string ⟨(a++b).toArray⟩):=by
 have h1:(⟨a.toArray⟩:ByteArray).size=a.length:=by simp[ByteArray.size]
 have h2:(⟨b.toArray⟩:ByteArray).size=b.length:=by simp[ByteArray.size]
 have h3:¬(((⟨a.toArray⟩:ByteArray).size+(⟨b.toArray⟩:ByteArray).size:Nat):Int)>IntKind.i64.max:=by
  rw[h1,h2]
  show ¬_>(9223372036854775807:Int)
  omega
 simp only[cU,h3,if_false]
 congr 2
theorem bB (a:List UInt8):Ae (.string ⟨a.toArray⟩)=some (.int .i64 (a.length:Int)):=by simp[Ae,ByteArray.size]
theorem ZY:∀a:List UInt8,(aB (aR a)).length=1:=fun _=>rfl
theorem Vo {xs:List (List UInt8)} {H:aA} {lo b g n:Nat} (hr:aK H b g=some (xs.map aR,1,true)) (hn:xs.length=n) (eX:lo≤b) (BX:n≤9223372036854775806) :
  kG 185 [.ref b g 0 n n] lo H fun r H'=>r = .dY []∧H'=H.set b (.row g (xs.reverse.map aR) 1 true):=by
 refine kG.walk ⟨true,false⟩ qJ (Nat.le_of_ble_eq_true rfl) ?_
 have e0:nS (.ref b g 0 n n) H=some (VI n):=cT hr
 have w0:IntKind.i64.wrap ((n:Int)-1)=(n:Int)-1:=wrap64 (by omega) (by omega)
 simp only[jR,iV,e0,w0,VX,Nat.reduceEqDiff,Nat.reduceAdd]
 refine aN (fun(t:Nat×List (List UInt8)) ρ K=>t.1≤n∧K=H.set b (.row g (t.2.map aR) 1 true)∧t.2.length=n∧(∀k,k<n→t.2[k]? = if k<t.1∨n≤k+t.1 then xs[n-1-k]? else xs[k]?)∧ρ 0 = .ref b g 0 n n∧ρ 2=VI t.1∧ρ 3=VI ((n:Int)-1-(t.1:Int))) (fun t=>n-t.1) (0,xs) ⟨Nat.zero_le _,(vB hr).symm,hn,fun k hk=>by rw[if_neg (by simp only;omega)],rfl,rfl,by show VI ((n:Int)-1)=VI ((n:Int)-1-((0:Nat):Int));rw[Int.natCast_zero,Int.sub_zero]⟩ ?_
 rintro⟨i,ys⟩ ρ K ⟨hi,rfl,hl,hy,g0,g2,g3⟩
 simp only at hi hl hy g2 g3
 have ZN:aK (H.set b (.row g (ys.map aR) 1 true)) b g=some (ys.map aR,1,true):=lW hr
 by_cases cC:(i:Int)<(n:Int)-1-(i:Int)
 ·have hj:(n:Int)-1-(i:Int)=((n-1-i:Nat):Int):=by omega
  obtain⟨x,hx⟩:∃x,ys[i]? = some x:=⟨_,List.getElem?_eq_getElem (by omega)⟩
  obtain⟨y,hyy⟩:∃y,ys[n-1-i]? = some y:=⟨_,List.getElem?_eq_getElem (by omega)⟩
  rw[hj] at g3 cC
  have a1:∀(zs:List (List UInt8)) (k:Nat),zs.length=n→k<n→bC 1 (.ref b g 0 n n) (VI (k:Int)) (H.set b (.row g (zs.map aR) 1 true))=some (.ptr b g k 0):=fun zs k h1 h2=>by rw[aQ (lW hr) h2,Nat.zero_add]
  have l1:dG false 1 (.ptr b g (n-1-i) 0) (H.set b (.row g (ys.map aR) 1 true))=some (aR y):=oM ZN hyy
  have l2:dG false 1 (.ptr b g i 0) (H.set b (.row g (ys.map aR) 1 true))=some (aR x):=oM ZN hx
  have s1:cJ lo 1 (.ptr b g i 0) (aR y) (H.set b (.row g (ys.map aR) 1 true))=some (H.set b (.row g ((ys.set i y).map aR) 1 true)):=by rw[cR (f:=aR) (e:=1) ZN (by omega) eX rfl rfl,kW]
  have s2:cJ lo 1 (.ptr b g (n-1-i) 0) (aR x) (H.set b (.row g ((ys.set i y).map aR) 1 true))=some (H.set b (.row g (((ys.set i y).set (n-1-i) x).map aR) 1 true)):=by rw[cR (f:=aR) (e:=1) (lW hr) (by rw[List.length_set];omega) eX rfl rfl,kW]
  have w1:IntKind.i64.wrap ((i:Int)+1)=((i+1:Nat):Int):=wrapN _ (by omega) (by omega)
  have w2:IntKind.i64.wrap (((n-1-i:Nat):Int)-1)=(n:Int)-1-((i+1:Nat):Int):=by rw[wrap64 (by omega) (by omega)];omega
  have b1:=a1 ys i hl (by omega)
  have b2:=a1 ys (n-1-i) hl (by omega)
  have b3:=a1 (ys.set i y) (n-1-i) (by rw[List.length_set];exact hl) (by omega)
  simp only[eR,g0,g2,g3,cC,b1,b2,b3,l1,l2,s1,s2,w1,w2,VX,Nat.reduceEqDiff,Nat.reduceAdd]
  refine⟨(i+1,(ys.set i y).set (n-1-i) x),by simp only;omega,by simp only;omega,rfl,by simp only[List.length_set];exact hl,fun k hk => ?_,by (repeat' apply And.intro)<;>first | rfl | trivial⟩
  simp only
  have hxx:=hy i (by omega)
  rw[if_neg (by omega),hx] at hxx
  have hyx:=hy (n-1-i) (by omega)
  rw[if_neg (by omega),hyy] at hyx
  rw[List.getElem?_set,List.getElem?_set,List.length_set]
  by_cases h1:n-1-i=k
  ·subst h1
   rw[if_pos rfl,if_pos (by omega),if_pos (by omega),show n-1-(n-1-i)=i by omega]
   exact hxx
  ·rw[if_neg h1]
   by_cases h2:i=k
   ·subst h2
    rw[if_pos rfl,if_pos (by omega),if_pos (by omega)]
    exact hyx
   ·rw[if_neg h2,hy k hk]
    by_cases h3:k<i∨n≤k+i
    ·rw[if_pos h3,if_pos (by omega)]
    ·rw[if_neg h3,if_neg (by omega)]
 ·have aoY:ys=xs.reverse:=by
   apply List.ext_getElem?
   intro k
   rcases Nat.lt_or_ge k n with h | h
   ·rw[hy k h,List.getElem?_reverse (by omega),hn]
    split
    ·rfl
    ·rw[show n-1-k=k by omega]
   ·rw[List.getElem?_eq_none (by omega),List.getElem?_eq_none (by rw[List.length_reverse];omega)]
  subst aoY
  simp only[eR,g0,g2,g3,cC,VX,Nat.reduceEqDiff,Nat.reduceAdd]
  try exact⟨rfl,rfl⟩
theorem Wq (n:Nat):(aC 1000000000 n).length≤2*(aC 4294967296 n).length:=by
 refine kU (by decide) ?_
 have h1:=fL (b:=4294967296) (by decide) n
 have h2:4294967296^(aC 4294967296 n).length≤(1000000000^2)^(aC 4294967296 n).length:=Nat.pow_le_pow_left (by decide) _
 rw[←Nat.pow_mul] at h2
 omega
theorem aaG {n:Nat} (hn:n≠0):(decDigits n).length≤9*(aC 1000000000 n).length:=by
 have h1:=fL (b:=1000000000) (by decide) n
 have h3:(aC 1000000000 n)≠[]:=fun h=>hn ((kK (by decide)).1 h)
 have h4:=List.length_pos_iff.2 h3
 generalize (aC 1000000000 n).length=L at *
 obtain⟨k,hk⟩:∃k,9*L=k+1:=⟨9*L-1,by omega⟩
 have h5:(1000000000:Nat)^L=10^(9*L):=by rw[show (1000000000:Nat)=10^9 by decide,←Nat.pow_mul]
 rw[h5,hk] at h1
 rw[hk]
 exact wT n k h1
def jZ (q:Nat):List UInt8:=if q=0 then [] else decDigits q
theorem Bw (n:Nat) (hn:(aC 4294967296 n).length≤68719476736):TC 102 [bE n] (aR (decDigits n)):=by
 refine TC.walk ⟨true,false⟩ FN rfl (Nat.le_of_ble_eq_true rfl) (by simp[aL,bH]) rfl ?_
 by_cases h0:n=0
 ·subst h0
  have hl:(((aC 4294967296 0).length:Nat):Int)=0:=by rw[bN];rfl
  simp only[tY,qR,dI,hl,VX,Nat.reduceEqDiff,Nat.reduceAdd]
  rw[gI (by decide)]
  exact aI rfl
 have hl:¬(((aC 4294967296 n).length:Nat):Int)=0:=by have:=uP.2 h0;omega
 have e1:∀lr,mV lr [.string ⟨#[]⟩] 0 [] []=some (.ref 0 0 0 0 0,[.row 0 (([]:List (List UInt8)).map aR) 1 true]):=fun lr=>jJ (H:=[]) (lr:=lr) (z:=[.string ⟨#[]⟩]) rfl
 have hTn:=Wq n
 have hdl:=aaG h0
 simp only[tY,qR,dI,hl,e1,VX,Nat.reduceEqDiff,Nat.reduceAdd]
 refine aN (fun(t:Nat×List (List UInt8)) ρ H=>H=[.row t.2.length (t.2.map aR) 1 true]∧t.1≤n∧t.2.length+(aC 1000000000 t.1).length=(aC 1000000000 n).length∧decDigits n=jZ t.1++t.2.reverse.flatten∧ρ 0=bE t.1∧ρ 3 = .ref 0 t.2.length 0 t.2.length t.2.length) (fun t=>t.1) (n,[]) ⟨rfl,Nat.le_refl _,by simp,by simp[jZ,h0],rfl,rfl⟩ ?_
 rintro⟨q,ps⟩ ρ H ⟨rfl,hq,hlen,Vd,g0,g3⟩
 simp only at hq hlen Vd g0 g3
 by_cases Ou:q=0
 ·subst Ou
  have hz:¬(0:Int)<((aC 4294967296 0).length:Int):=by rw[uP];omega
  rw[jZ,if_pos rfl,List.nil_append] at Vd
  have hr:aK [.row ps.length (ps.map aR) 1 true] 0 ps.length=some (ps.map aR,1,true):=bG
  simp only[lJ,g0,g3,dI,hz,VX,Nat.reduceEqDiff,Nat.reduceAdd]
  refine fX rfl ((Vo hr rfl (Nat.le_refl _) (by omega)).mono ?_)
  rintro r H' ⟨rfl,rfl⟩
  have GX:([.row ps.length (ps.map aR) 1 true]:aA).set 0 (.row ps.length (ps.reverse.map aR) 1 true)=[.row ps.length (ps.reverse.map aR) 1 true]:=rfl
  have ZN:aK [.row ps.length (ps.reverse.map aR) 1 true] 0 ps.length=some (ps.reverse.map aR,1,true):=bG
  have hfl:ps.reverse.flatten.length≤140737488355328:=by rw[←Vd];omega
  have cj:=(aeS ps.reverse (by rw[List.length_reverse];omega) hfl).flat (H:=[.row ps.length (ps.reverse.map aR) 1 true]) (args:=[.ref 0 ps.length 0 ps.length ps.length,aR []]) rfl (by simp only[aL,iW (f:=aR) ZY (fun _=>rfl),Bool.and_true];rfl) (WA (AX ZN (by simp) (Nat.le_refl _) (cZ fun _=>rfl)) (aI rfl)) rfl
  simp only[GX,g3,cj,VX,Nat.reduceEqDiff,Nat.reduceAdd]
  rw[←Vd]
  exact aI rfl
 ·have hz:(0:Int)<((aC 4294967296 q).length:Int):=uP.2 Ou
  have hql:=dJ (b:=4294967296) (by decide) hq
  have c1:TC 183 [bE q,.sc (.int .u32 1000000000)] (.dY [bE (q / 1000000000),uV (q % 1000000000)]):=uH q 1000000000 (by decide) (by decide) (by omega)
  have hm:=Nat.mod_lt q (show 0<1000000000 by decide)
  have c2:=aeF (q % 1000000000) (by omega)
  have wm:IntKind.u64.wrap ((q % 1000000000:Nat):Int)=((q % 1000000000:Nat):Int):=eO _ (by omega)
  have hdq:=gW (b:=1000000000) (by decide) Ou
  have ayZ:(aC 1000000000 q).length=(aC 1000000000 (q / 1000000000)).length+1:=by rw[hdq];rfl
  have V8:=wT (q % 1000000000) 8 hm
  have hqq:=Nat.mod_add_div q 1000000000
  have e2:∀x:List UInt8,mV false [.string ⟨#[]⟩] 1 [(0,aR x)] [.row ps.length (ps.map aR) 1 true]=some (.tree [aR x] (.cl 1),[.row ps.length (ps.map aR) 1 true]):=fun x=>kH (z:=[.string ⟨#[]⟩]) rfl rfl rfl
  have e3:∀x:List UInt8,dD 1 (.tree [aR x] (.cl 1)) [.row ps.length (ps.map aR) 1 true]=some [aR x]:=fun x=>iC rfl rfl
  have e4:∀x:List UInt8,eJ 0 1 16 (.ref 0 ps.length 0 ps.length ps.length) [aR x] [.row ps.length (ps.map aR) 1 true]=some (.ref 0 (ps.length+1) 0 (ps.length+1) (ps.length+1),[.row (ps.length+1) ((ps++[x]).map aR) 1 true]):=fun x=>by
   rw[iE (f:=aR) (x:=x) bG rfl (Nat.le_refl _) (by decide) (by decide) (by omega)]
   rfl
  have hle:q / 1000000000<q:=Nat.div_lt_self (by omega) (by decide)
  by_cases hqz:q / 1000000000=0
  ·have Q0:¬(0:Int)<((aC 4294967296 (q / 1000000000)).length:Int):=by rw[uP];omega
   simp only[lJ,g0,g3,dI,hz,c1,c2,wm,Q0,e2,e3,e4,VX,Nat.reduceEqDiff,Nat.reduceAdd]
   refine⟨(q / 1000000000,ps++[decDigits (q % 1000000000)]),hle,by simp,by simp only;omega,by simp only[List.length_append,List.length_singleton];omega,?_,rfl,by simp⟩
   rw[Vd,jZ,if_neg Ou,jZ,if_pos hqz,List.reverse_append,List.nil_append,List.reverse_singleton,List.singleton_append,List.flatten_cons,show q % 1000000000=q by omega]
  ·have Q0:(0:Int)<((aC 4294967296 (q / 1000000000)).length:Int):=uP.2 hqz
   have ws:IntKind.i64.wrap ((9:Int)-((decDigits (q % 1000000000)).length:Int))=((9-(decDigits (q % 1000000000)).length:Nat):Int):=wrapN _ (by omega) (by omega)
   have c3:=WN [48] (9-(decDigits (q % 1000000000)).length) (by simp;omega) (by omega)
   have W4:repeatL [48] (9-(decDigits (q % 1000000000)).length)++decDigits (q % 1000000000)=BJ 9 (q % 1000000000):=by
    rw[agT 8 _ hm]
    congr 1
    have:=repeatL_replicate 48 1 (9-(decDigits (q % 1000000000)).length)
    rw[Nat.mul_one] at this
    exact this
   have c4:=pI (repeatL [48] (9-(decDigits (q % 1000000000)).length)) (decDigits (q % 1000000000)) (by rw[←List.length_append,W4,aaJ];decide)
   rw[W4] at c4
   simp only[lJ,g0,g3,dI,hz,c1,c2,wm,Q0,bB,ws,c3,c4,e2,e3,e4,VX,Nat.reduceEqDiff,Nat.reduceAdd]
   refine⟨(q / 1000000000,ps++[BJ 9 (q % 1000000000)]),hle,by simp,by simp only;omega,by simp only[List.length_append,List.length_singleton];omega,?_,rfl,by simp⟩
   rw[Vd,jZ,if_neg Ou,jZ,if_neg hqz,List.reverse_append,List.reverse_singleton,List.singleton_append,List.flatten_cons,←List.append_assoc,←GL (by omega) hm]
   congr 2
   omega
end Go.PM
namespace Go.PM
open Go.Lib
def bR (q:Rat):VV := .agg [VB (decide (q.num<0)),bE q.num.natAbs,bE q.den]
theorem kE (q:Rat):aO (bR q)=true:=by simp[bR,aO,aL,bH,jS]
theorem CJ (q:Rat):gH (bR q)=true:=by simp[bR,gH,qI,oY,jS]
theorem IY {q:Rat} {neg:Bool} {t b:Nat} (h0:q.num<0↔neg=true) (h1:q.num.natAbs=t) (h2:q.den=b):bR q = .agg [VB neg,bE t,bE b]:=by
 subst h1 h2
 unfold bR
 congr 4
 cases neg<;>simp_all
theorem abL {neg:Bool} {t b:Nat} (hb:b≠0) (ht:t≠0):bR (mkRat (oO neg t) b) = .agg [VB neg,bE (t / Nat.gcd t b),bE (b / Nat.gcd t b)]:=by
 refine IY ?_ ?_ (Ro hb)
 ·rw[Jl hb,Tr]
  have h1:t / Nat.gcd t b≠0:=by
   have:=Nat.div_pos (Nat.le_of_dvd (by omega) (Nat.gcd_dvd_left t b)) (Nat.gcd_pos_of_pos_left b (by omega))
   omega
  simp[h1]
 ·rw[Jl hb,xQ]
theorem Vl:bR 0 = .agg [VB false,.tree [] .op,bE 1]:=by
 rw[IY (q:=0) (neg:=false) (t:=0) (b:=1) (by simp) rfl rfl,C6]
theorem aY (n:Nat):bQ (bE n)=true:=rfl
theorem aX (n:Nat):isAny (bE n)=false:=rfl
theorem aP (n:Nat):aB (bE n)=[bE n]:=rfl
theorem dC (q:Rat):isAny (bR q)=false:=rfl
theorem aG (q:Rat):aB (bR q)=[VB (decide (q.num<0)),bE q.num.natAbs,bE q.den]:=rfl
theorem eZ (q:Rat):dW true 3 (bR q) 0=some (bR q):=rfl
theorem mN (q:Rat):dW false 1 (bR q) 0=some (VB (decide (q.num<0))):=rfl
theorem mJ (q:Rat):dW false 1 (bR q) 1=some (bE q.num.natAbs):=rfl
theorem rQ (q:Rat):dW false 1 (bR q) 2=some (bE q.den):=rfl
theorem pN {d:Nat} {H:aA} {u u' v v' w w':VV} (h1:fz (d+1) H u=some u') (h2:fz (d+1) H v=some v') (h3:fz (d+1) H w=some w'):fz (d+2) H (.agg [u,v,w])=some (.agg [u',v',w']):=by
 have e:fz (d+2) H (.agg [u,v,w])=if aO (.agg [u,v,w])=true then some (.agg [u,v,w]) else ([u,v,w].mapM (fz (d+1) H)).map .agg:=rfl
 rw[e]
 by_cases hp:aO (.agg [u,v,w])=true
 ·rw[if_pos hp]
  simp only[aO,aL,Bool.and_eq_true,and_true] at hp
  rw[aH hp.1] at h1
  rw[aH hp.2.1] at h2
  rw[aH hp.2.2] at h3
  cases h1
  cases h2
  cases h3
  rfl
 ·rw[if_neg hp,List.mapM_cons,h1,List.mapM_cons,h2,List.mapM_cons,h3]
  rfl
theorem Ze {d:Nat} {H:aA} {v:Value} (h:jS v=true):fz (d+1) H (.sc v)=some (.sc v):=aH h
theorem Fc {H:aA} {neg:Bool} {t b:Nat}:fz depth H (.agg [VB neg,bE t,bE b])=some (.agg [VB neg,bE t,bE b]):=aI (by simp[aO,aL,bH,jS])
theorem yO {H:aA} (q:Rat):fz depth H (bR q)=some (bR q):=aI (kE q)
theorem akM {n:Nat} (h:bl n≤2199023255552):(aC 4294967296 n).length≤68719476736:=by
 have:=acX n
 omega
theorem fM {n:Nat} (h:bl n≤4398046511104):(aC 4294967296 n).length≤17592186044416:=by
 have:=acX n
 omega
theorem zC (neg:Bool) (t b:Nat) (hb:b≠0) (ht:bl t≤4398046511104) (tG:bl b≤4398046511104):TC 100 [VB neg,bE t,bE b] (bR (mkRat (oO neg t) b)):=by
 refine TC.walk ⟨true,false⟩ Lj rfl (Nat.le_of_ble_eq_true rfl) (by simp[aL,bH,aO,jS]) (CJ _) ?_
 by_cases h0:t=0
 ·subst h0
  have hl:(((aC 4294967296 0).length:Nat):Int)=0:=by rw[bN];rfl
  have c1:TC 101 [.sc (.int .u64 1)] (bE 1):=lG 1 (by decide)
  rw[OY,Rat.zero_mkRat,Vl,←C6]
  simp only[tL,oZ,dI,hl,c1,aY,aX,aP,jX,Nat.reduceLeDiff,Nat.reduceLT,Nat.reduceSub,VX,Nat.reduceEqDiff,Nat.reduceAdd]
  exact pN (Ze rfl) uT (aH (bH _))
 ·have hl:¬(((aC 4294967296 t).length:Nat):Int)=0:=by have:=uP.2 h0;omega
  have c1:=BW t b (fM ht) (fM tG)
  have hg0:Nat.gcd t b≠0:=Nat.gcd_ne_zero_right hb
  have XV:bl (Nat.gcd t b)≤4398046511104:=Nat.le_trans (oG (Nat.gcd_le_right t (by omega))) tG
  have c2:=vQ t _ hg0 (fM ht) (fM XV)
  have c3:=vQ b _ hg0 (fM tG) (fM XV)
  rw[abL hb h0]
  by_cases h1:((aC 4294967296 (Nat.gcd t b)).length:Int)=1
  ·obtain⟨d,hd⟩:∃d,aC 4294967296 (Nat.gcd t b)=[d]:=List.length_eq_one_iff.1 (by omega)
   obtain⟨hgd,_,_⟩:=OI hd
   have e1:bC 1 (bE (Nat.gcd t b)) (.sc (.int .i64 0)) [.row 0 [.agg [VB false,.tree [] .nil,.tree [] .nil]] 3 true]=some (.cO (uV d) 0):=aF (f:=uV) (xs:=aC 4294967296 (Nat.gcd t b)) (i:=0) (k := .i64) (by rw[hd];rfl) rfl
   by_cases h2:(d:Int)=1
   ·have hg1:Nat.gcd t b=1:=by omega
    simp only[tL,oZ,dI,hl,c1,h1,h2,e1,aY,aX,aP,jX,Nat.reduceLeDiff,Nat.reduceLT,Nat.reduceSub,VX,Nat.reduceEqDiff,Nat.reduceAdd]
    rw[hg1,Nat.div_one,Nat.div_one]
    exact Fc
   ·simp only[tL,oZ,dI,hl,c1,c2,c3,h1,h2,e1,aY,aX,aP,jX,Nat.reduceLeDiff,Nat.reduceLT,Nat.reduceSub,VX,Nat.reduceEqDiff,Nat.reduceAdd]
    exact Fc
  ·simp only[tL,oZ,dI,hl,c1,c2,c3,h1,aY,aX,aP,jX,Nat.reduceLeDiff,Nat.reduceLT,Nat.reduceSub,VX,Nat.reduceEqDiff,Nat.reduceAdd]
   exact Fc
theorem Uv {n:Int} (h0 : -9223372036854775808≤n) (h:n<0):IntKind.u64.wrap (0-IntKind.u64.wrap n)=(n.natAbs:Int):=by
 rw[wrap_u64,wrap_u64]
 omega
theorem GR (n:Int) (h0 : -9223372036854775808≤n) (h1:n≤9223372036854775807):TC 107 [VI n] (VK .u64 (n.natAbs:Int)):=by
 refine TC.walk ⟨true,false⟩ F9 rfl (Nat.le_of_ble_eq_true rfl) rfl rfl ?_
 by_cases h:n<0
 ·simp only[vM,sD,h,Uv h0 h,VX,Nat.reduceEqDiff,Nat.reduceAdd]
  exact aI rfl
 ·have w:IntKind.u64.wrap n=(n.natAbs:Int):=by rw[wrap_u64];omega
  simp only[vM,sD,h,w,VX,Nat.reduceEqDiff,Nat.reduceAdd]
  exact aI rfl
theorem Zm (n:Int):bR (n:Rat) = .agg [VB (decide (n<0)),bE n.natAbs,bE 1]:=IY (by simp) (by simp) (by simp)
theorem Bg (n:Int) (h0 : -9223372036854775808≤n) (h1:n≤9223372036854775807):TC 97 [VI n] (bR (n:Rat)):=by
 refine TC.walk ⟨true,false⟩ M8 rfl (Nat.le_of_ble_eq_true rfl) rfl (CJ _) ?_
 have c1:=GR n h0 h1
 have c2:=lG n.natAbs (by omega)
 have c3:TC 101 [.sc (.int .u64 1)] (bE 1):=lG 1 (by decide)
 rw[Zm]
 simp only[KB,E5,c1,c2,c3,aY,aX,aP,jX,Nat.reduceLeDiff,Nat.reduceLT,Nat.reduceSub,VX,Nat.reduceEqDiff,Nat.reduceAdd]
 exact Fc
theorem Tf {q:Rat}:(((aC 4294967296 q.num.natAbs).length:Nat):Int)=0↔q.num=0:=by
 have:=uP (n:=q.num.natAbs)
 omega
theorem lQ (q:Rat):TC 104 [bR q] (VI (kR q)):=by
 refine TC.walk ⟨true,false⟩ E7 rfl (Nat.le_of_ble_eq_true rfl) (by simp[aL,kE]) rfl ?_
 unfold kR
 by_cases h0:q.num=0
 ·have hl:=Tf.2 h0
  rw[if_pos h0]
  simp only[pG,mH,dI,hl,aG,mN,mJ,aY,aX,aP,jX,Nat.reduceLeDiff,Nat.reduceLT,Nat.reduceSub,VX,Nat.reduceEqDiff,Nat.reduceAdd]
  exact aI rfl
 ·have hl:¬(((aC 4294967296 q.num.natAbs).length:Nat):Int)=0:=fun h=>h0 (Tf.1 h)
  rw[if_neg h0]
  by_cases h1:q.num<0
  ·simp only[pG,mH,dI,hl,h1,aG,mN,mJ,aY,aX,aP,jX,Nat.reduceLeDiff,Nat.reduceLT,Nat.reduceSub,VX,Nat.reduceEqDiff,Nat.reduceAdd]
   exact aI rfl
  ·simp only[pG,mH,dI,hl,h1,aG,mN,mJ,aY,aX,aP,jX,Nat.reduceLeDiff,Nat.reduceLT,Nat.reduceSub,VX,Nat.reduceEqDiff,Nat.reduceAdd]
   exact aI rfl
end Go.PM
namespace Go.PM
open Go.Lib
theorem tZ (a b:Bool):Lm false (.bool a) (.bool b)=some (.bool (a == b)):=by
 show some (Value.bool ((a == b) != false))=_
 rw[Bool.bne_false]
theorem Bh (a b:Bool):Lm true (.bool a) (.bool b)=some (.bool (a != b)):=by
 show some (Value.bool ((a == b) != true))=_
 cases a<;>cases b<;>rfl
theorem AR {q:Rat} {k:Nat} (h:dT q≤k):bl q.num.natAbs≤k:=Nat.le_trans Au h
theorem AJ {q:Rat} {k:Nat} (h:dT q≤k):bl q.den≤k:=Nat.le_trans zY h
theorem GN {X Y B:Nat} {a b:Rat} (hB:B≠0) (ha:mkRat (oO (decide (a.num<0)) X) B=a) (hb:mkRat (oO (decide (b.num<0)) Y) B=b) :
  ((decide (a.num<0))=(decide (b.num<0))→mkRat (oO (decide (a.num<0)) (X+Y)) B=a+b) ∧
  ((decide (a.num<0))≠(decide (b.num<0))→Y≤X→mkRat (oO (decide (a.num<0)) (X-Y)) B=a+b) ∧
  ((decide (a.num<0))≠(decide (b.num<0))→X≤Y→mkRat (oO (decide (b.num<0)) (Y-X)) B=a+b):=by
 refine⟨fun h => ?_,fun h hx => ?_,fun h hx => ?_⟩
 ·conv=>rhs;rw[←ha,←hb,BP _ _ hB,←h,NU]
 ·conv=>rhs;rw[←ha,←hb,BP _ _ hB,Ru h hx]
 ·conv=>rhs;rw[←ha,←hb,BP _ _ hB,Rs h hx]
theorem B8 (a b:Rat) (Yu:dT a≤1099511627776) (Ra:dT b≤1099511627776):TC 99 [bR a,bR b] (bR (a+b)):=by
 refine TC.walk ⟨true,false⟩ Gv rfl (Nat.le_of_ble_eq_true rfl) (by simp[aL,kE]) (CJ _) ?_
 have ca:=lQ a
 have cb:=lQ b
 by_cases ha0:a.num=0
 ·have:a=0:=Rat.num_eq_zero.1 ha0
  rw[lC ha0] at ca
  rw[this,Rat.zero_add,←this]
  simp only[fI,dS,ca,cb,aG,eZ,dC,aY,aX,aP,jX,Nat.reduceLeDiff,Nat.reduceLT,Nat.reduceSub,VX,Nat.reduceEqDiff,Nat.reduceAdd]
  exact yO _
 have hsa:¬kR a=0:=fun h=>ha0 (Rat.num_eq_zero.2 (KE.1 h))
 by_cases On:b.num=0
 ·have:b=0:=Rat.num_eq_zero.1 On
  rw[lC On] at cb
  rw[this,Rat.add_zero,←this]
  simp only[fI,dS,ca,cb,hsa,aG,eZ,dC,aY,aX,aP,jX,Nat.reduceLeDiff,Nat.reduceLT,Nat.reduceSub,VX,Nat.reduceEqDiff,Nat.reduceAdd]
  exact yO _
 have ZM:¬kR b=0:=fun h=>On (Rat.num_eq_zero.2 (KE.1 h))
 have la:=AR Yu
 have lb:=AR Ra
 have lda:=AJ Yu
 have ldb:=AJ Ra
 have fin:∀(X Y B:Nat),bl X≤2199023255552→bl Y≤2199023255552→bl B≤2199023255552→B≠0→mkRat (oO (decide (a.num<0)) X) B=a→mkRat (oO (decide (b.num<0)) Y) B=b →
   TC 174 [bE X,bE Y] (bE (X+Y))∧TC 170 [bE X,bE Y] (VI (eH X Y)) ∧
   (Y≤X→TC 181 [bE X,bE Y] (bE (X-Y)))∧(X≤Y→TC 181 [bE Y,bE X] (bE (Y-X))) ∧
   (∀neg,TC 100 [VB neg,bE (X+Y),bE B] (bR (mkRat (oO neg (X+Y)) B))) ∧
   (∀neg,TC 100 [VB neg,bE (X-Y),bE B] (bR (mkRat (oO neg (X-Y)) B))) ∧
   (∀neg,TC 100 [VB neg,bE (Y-X),bE B] (bR (mkRat (oO neg (Y-X)) B))):=by
  intro X Y B hX hY hB hB0 _ _
  refine⟨Co X Y (fM (by omega)) (fM (by omega)),iO X Y (fM (by omega)) (fM (by omega)),fun h=>Cp X Y h (fM (by omega)),fun h=>Cp Y X h (fM (by omega)),fun neg=>zC neg _ _ hB0 ?_ (by omega),fun neg=>zC neg _ _ hB0 ?_ (by omega),fun neg=>zC neg _ _ hB0 ?_ (by omega)⟩
  ·exact Nat.le_trans (Rg hX hY) (by omega)
  ·exact Nat.le_trans (oG (Nat.sub_le _ _)) (by omega)
  ·exact Nat.le_trans (oG (Nat.sub_le _ _)) (by omega)
 by_cases hd:a.den=b.den
 ·have ZD:=a.den_nz
  have cc:=iO a.den b.den (fM (by omega)) (fM (by omega))
  rw[show eH a.den b.den=0 from vF.2 hd] at cc
  have eb:mkRat (oO (decide (b.num<0)) b.num.natAbs) a.den=b:=by rw[hd,IW]
  obtain⟨f1,f2,f3,f4,f5,f6,f7⟩:=fin a.num.natAbs b.num.natAbs a.den (by omega) (by omega) (by omega) ZD (IW a) eb
  obtain⟨p1,p2,p3⟩:=GN ZD (IW a) eb
  by_cases hn:decide (a.num<0)=decide (b.num<0)
  ·have Ok:(decide (a.num<0) == decide (b.num<0))=true:=by simpa using hn
   rw[←p1 hn]
   simp only[fI,dS,ca,cb,hsa,ZM,cc,f1,f5,tZ,Bh,Ok,aG,eZ,mN,mJ,rQ,dC,aY,aX,aP,jX,Nat.reduceLeDiff,Nat.reduceLT,Nat.reduceSub,VX,Nat.reduceEqDiff,Nat.reduceAdd]
   exact yO _
  ·have Ok:(decide (a.num<0) == decide (b.num<0))=false:=by simpa using hn
   by_cases hx:(0:Int)≤eH a.num.natAbs b.num.natAbs
   ·have hle:b.num.natAbs≤a.num.natAbs:=by have := @vA a.num.natAbs b.num.natAbs;omega
    have c3:=f3 hle
    rw[←p2 hn hle]
    simp only[fI,dS,ca,cb,hsa,ZM,cc,f2,c3,f6,hx,tZ,Bh,Ok,aG,eZ,mN,mJ,rQ,dC,aY,aX,aP,jX,Nat.reduceLeDiff,Nat.reduceLT,Nat.reduceSub,VX,Nat.reduceEqDiff,Nat.reduceAdd]
    exact yO _
   ·have hle:a.num.natAbs≤b.num.natAbs:=by have := @vA a.num.natAbs b.num.natAbs;omega
    have c3:=f4 hle
    rw[←p3 hn hle]
    simp only[fI,dS,ca,cb,hsa,ZM,cc,f2,c3,f7,hx,tZ,Bh,Ok,aG,eZ,mN,mJ,rQ,dC,aY,aX,aP,jX,Nat.reduceLeDiff,Nat.reduceLT,Nat.reduceSub,VX,Nat.reduceEqDiff,Nat.reduceAdd]
    exact yO _
 ·have ZD:=Nat.mul_ne_zero a.den_nz b.den_nz
  have cc:=iO a.den b.den (fM (by omega)) (fM (by omega))
  have Of:¬eH a.den b.den=0:=fun h=>hd (vF.1 h)
  have m1:=kL a.num.natAbs b.den (fM (by omega)) (fM (by omega))
  have m2:=kL b.num.natAbs a.den (fM (by omega)) (fM (by omega))
  have m3:=kL a.den b.den (fM (by omega)) (fM (by omega))
  have ea:mkRat (oO (decide (a.num<0)) (a.num.natAbs*b.den)) (a.den*b.den)=a:=CR a b.den_nz
  have eb:mkRat (oO (decide (b.num<0)) (b.num.natAbs*a.den)) (a.den*b.den)=b:=by rw[Nat.mul_comm a.den];exact CR b a.den_nz
  have k1:=qQ a.num.natAbs b.den
  have k2:=qQ b.num.natAbs a.den
  have k3:=qQ a.den b.den
  obtain⟨f1,f2,f3,f4,f5,f6,f7⟩:=fin _ _ _ (by omega) (by omega) (by omega) ZD ea eb
  obtain⟨p1,p2,p3⟩:=GN ZD ea eb
  by_cases hn:decide (a.num<0)=decide (b.num<0)
  ·have Ok:(decide (a.num<0) == decide (b.num<0))=true:=by simpa using hn
   rw[←p1 hn]
   simp only[fI,dS,ca,cb,hsa,ZM,cc,Of,m1,m2,m3,f1,f5,tZ,Bh,Ok,aG,eZ,mN,mJ,rQ,dC,aY,aX,aP,jX,Nat.reduceLeDiff,Nat.reduceLT,Nat.reduceSub,VX,Nat.reduceEqDiff,Nat.reduceAdd]
   exact yO _
  ·have Ok:(decide (a.num<0) == decide (b.num<0))=false:=by simpa using hn
   by_cases hx:(0:Int)≤eH (a.num.natAbs*b.den) (b.num.natAbs*a.den)
   ·have hle:b.num.natAbs*a.den≤a.num.natAbs*b.den:=by have := @vA (a.num.natAbs*b.den) (b.num.natAbs*a.den);omega
    have c3:=f3 hle
    rw[←p2 hn hle]
    simp only[fI,dS,ca,cb,hsa,ZM,cc,Of,m1,m2,m3,f2,c3,f6,hx,tZ,Bh,Ok,aG,eZ,mN,mJ,rQ,dC,aY,aX,aP,jX,Nat.reduceLeDiff,Nat.reduceLT,Nat.reduceSub,VX,Nat.reduceEqDiff,Nat.reduceAdd]
    exact yO _
   ·have hle:a.num.natAbs*b.den≤b.num.natAbs*a.den:=by have := @vA (a.num.natAbs*b.den) (b.num.natAbs*a.den);omega
    have c3:=f4 hle
    rw[←p3 hn hle]
    simp only[fI,dS,ca,cb,hsa,ZM,cc,Of,m1,m2,m3,f2,c3,f7,hx,tZ,Bh,Ok,aG,eZ,mN,mJ,rQ,dC,aY,aX,aP,jX,Nat.reduceLeDiff,Nat.reduceLT,Nat.reduceSub,VX,Nat.reduceEqDiff,Nat.reduceAdd]
    exact yO _
theorem HV (q:Rat) : -1≤kR q∧kR q≤1:=by
 rcases Int.lt_trichotomy q.num 0 with h | h | h
 ·rw[oE h];omega
 ·rw[lC h];omega
 ·rw[nQ h];omega
theorem Sd (m n:Nat) : -1≤eH m n∧eH m n≤1:=by
 rcases Nat.lt_trichotomy m n with h | h | h
 ·rw[eH,if_pos h];omega
 ·subst h;rw[eH,if_neg (by omega),if_pos rfl];omega
 ·rw[eH,if_neg (by omega),if_neg (by omega)];omega
theorem Kr (a b:Rat) (Yu:dT a≤1099511627776) (Ra:dT b≤1099511627776):TC 206 [bR a,bR b] (VI (KV a b)):=by
 refine TC.walk ⟨true,false⟩ FW rfl (Nat.le_of_ble_eq_true rfl) (by simp[aL,kE]) rfl ?_
 have ca:=lQ a
 have cb:=lQ b
 have la:=AR Yu
 have lb:=AR Ra
 have lda:=AJ Yu
 have ldb:=AJ Ra
 have k1:=qQ a.num.natAbs b.den
 have k2:=qQ b.num.natAbs a.den
 have m1:=kL a.num.natAbs b.den (fM (by omega)) (fM (by omega))
 have m2:=kL b.num.natAbs a.den (fM (by omega)) (fM (by omega))
 have c1:=iO (a.num.natAbs*b.den) (b.num.natAbs*a.den) (fM (by omega)) (fM (by omega))
 have ra:=HV a
 have rb:=HV b
 have rc:=Sd (a.num.natAbs*b.den) (b.num.natAbs*a.den)
 unfold KV
 by_cases hs:kR a=kR b
 ·rw[if_pos hs]
  have w:IntKind.i64.wrap (0-eH (a.num.natAbs*b.den) (b.num.natAbs*a.den)) = -eH (a.num.natAbs*b.den) (b.num.natAbs*a.den):=by rw[wrap64 (by omega) (by omega)];omega
  by_cases hn:a.num<0
  ·rw[if_pos hn]
   simp only[qU,nP,ca,cb,hs,m1,m2,c1,hn,w,aG,eZ,mN,mJ,rQ,dC,aY,aX,aP,jX,Nat.reduceLeDiff,Nat.reduceLT,Nat.reduceSub,VX,Nat.reduceEqDiff,Nat.reduceAdd]
   exact aI rfl
  ·rw[if_neg hn]
   simp only[qU,nP,ca,cb,hs,m1,m2,c1,hn,aG,eZ,mN,mJ,rQ,dC,aY,aX,aP,jX,Nat.reduceLeDiff,Nat.reduceLT,Nat.reduceSub,VX,Nat.reduceEqDiff,Nat.reduceAdd]
   exact aI rfl
 ·rw[if_neg hs]
  have w:IntKind.i64.wrap (kR a-kR b)=kR a-kR b:=wrap64 (by omega) (by omega)
  simp only[qU,nP,ca,cb,hs,w,aG,eZ,mN,mJ,rQ,dC,aY,aX,aP,jX,Nat.reduceLeDiff,Nat.reduceLT,Nat.reduceSub,VX,Nat.reduceEqDiff,Nat.reduceAdd]
  exact aI rfl
theorem F1 (a:Rat) (Yu:dT a≤1099511627776):TC 196 [bR a] (VB (decide (a=1))):=by
 refine TC.walk ⟨true,false⟩ DY rfl (Nat.le_of_ble_eq_true rfl) (by simp[aL,kE]) rfl ?_
 have c1:=Kr a 1 Yu (by rw[LU];decide)
 have c2:TC 97 [VI 1] (bR 1):=Bg 1 (by decide) (by decide)
 by_cases h:KV a 1=0
 ·rw[decide_eq_true (Mg.1 h)]
  simp only[sK,pW,c1,c2,h,aG,eZ,dC,aY,aX,aP,jX,Nat.reduceLeDiff,Nat.reduceLT,Nat.reduceSub,VX,Nat.reduceEqDiff,Nat.reduceAdd]
  exact aI rfl
 ·rw[decide_eq_false (mt Mg.2 h)]
  simp only[sK,pW,c1,c2,h,aG,eZ,dC,aY,aX,aP,jX,Nat.reduceLeDiff,Nat.reduceLT,Nat.reduceSub,VX,Nat.reduceEqDiff,Nat.reduceAdd]
  exact aI rfl
end Go.PM
namespace Go.PM
theorem wH {n:Nat}:(0:Int)<((aC 1000000000 n).length:Int)↔n≠0:=by
 constructor
 ·intro h h0
  subst h0
  rw[bN] at h
  simp at h
 ·intro h
  have:=(kK (b:=1000000000) (by decide) (n:=n))
  have h2:aC 1000000000 n≠[]:=fun hx=>h (this.1 hx)
  have:=List.length_pos_iff.2 h2
  omega
theorem pT {n:Nat} (h:bl n≤4398046511104):(aC 1000000000 n).length<17592186044416:=by
 have:=acQ n
 omega
theorem DA (a b:Nat) (ha:(aC 1000000000 a).length<17592186044416) (hb:(aC 1000000000 b).length<17592186044416):TC 213 [bL a,bL b] (bL (Nat.gcd a b)):=by
 refine TC.walk ⟨true,false⟩ Lg rfl (Nat.le_of_ble_eq_true rfl) (by simp[aL,bO]) (lR _) ?_
 simp only[HD,DO,VX,Nat.reduceEqDiff,Nat.reduceAdd]
 refine aN (fun(t:Nat×Nat) ρ H=>H=[]∧Nat.gcd t.1 t.2=Nat.gcd a b∧(aC 1000000000 t.1).length<17592186044416∧(aC 1000000000 t.2).length<17592186044416∧ρ 0=bL t.1∧ρ 1=bL t.2) (fun t=>t.2) (a,b) ⟨rfl,rfl,ha,hb,rfl,rfl⟩ ?_
 rintro⟨x,y⟩ ρ H ⟨rfl,hg,hx,hy,g0,g1⟩
 simp only at hg hx hy g0 g1
 by_cases hy0:y=0
 ·subst hy0
  have hl:¬(0:Int)<((aC 1000000000 0).length:Int):=by rw[wH];omega
  rw[Nat.gcd_zero_right] at hg
  simp only[xK,g0,g1,cH,hl,VX,Nat.reduceEqDiff,Nat.reduceAdd]
  rw[hg]
  exact aI (bO _)
 ·have hl:(0:Int)<((aC 1000000000 y).length:Int):=wH.2 hy0
  have c3:=sU x y hy0 hx hy
  have hm:=Nat.mod_lt x (show 0<y by omega)
  simp only[xK,g0,g1,cH,hl,c3,VX,Nat.reduceEqDiff,Nat.reduceAdd]
  refine⟨(y,x % y),hm,?_,hy,?_,rfl,rfl⟩
  ·simp only
   rw[←hg,Nat.gcd_comm x y,Nat.gcd_rec y x,Nat.gcd_comm]
  ·simp only
   have:=dJ (b:=1000000000) (by decide) (Nat.le_of_lt hm)
   omega
def bU (q:Rat):VV := .agg [VB (decide (q.num<0)),bL q.num.natAbs,bL q.den]
theorem As (q:Rat):aO (bU q)=true:=by simp[bU,aO,aL,bO,jS]
theorem CC (q:Rat):gH (bU q)=true:=by simp[bU,gH,qI,lR,jS]
theorem NI {q:Rat} {neg:Bool} {t b:Nat} (h0:q.num<0↔neg=true) (h1:q.num.natAbs=t) (h2:q.den=b):bU q = .agg [VB neg,bL t,bL b]:=by
 subst h1 h2
 unfold bU
 congr 4
 cases neg<;>simp_all
theorem aM (n:Nat):bQ (bL n)=true:=rfl
theorem bD (n:Nat):isAny (bL n)=false:=rfl
theorem aW (n:Nat):aB (bL n)=[bL n]:=rfl
theorem jM (q:Rat):isAny (bU q)=false:=rfl
theorem cQ (q:Rat):aB (bU q)=[VB (decide (q.num<0)),bL q.num.natAbs,bL q.den]:=rfl
theorem jC (q:Rat):dW true 3 (bU q) 0=some (bU q):=rfl
theorem lM (q:Rat):dW false 1 (bU q) 0=some (VB (decide (q.num<0))):=rfl
theorem pD (q:Rat):dW false 1 (bU q) 1=some (bL q.num.natAbs):=rfl
theorem pE (q:Rat):dW false 1 (bU q) 2=some (bL q.den):=rfl
theorem vL {H:aA} {neg:Bool} {t b:Nat}:fz depth H (.agg [VB neg,bL t,bL b])=some (.agg [VB neg,bL t,bL b]):=aI (by simp[aO,aL,bO,jS])
theorem E1 {H:aA} (q:Rat):fz depth H (bU q)=some (bU q):=aI (As q)
theorem W1 (n:Int):bU (n:Rat) = .agg [VB (decide (n<0)),bL n.natAbs,bL 1]:=NI (by simp) (by simp) (by simp)
theorem IT {n lo:Nat} {H:aA} {K:VV→aA→Prop} (h:(aC 1000000000 n).length≤17592186044416):cB 178 [bL n,.tree [VI 1] (.cl 1)] lo H K=K (VI (eH n 1)) H:=by
 have c:=tB n 1 h (by rw[Ct (by decide) (by decide) (by decide)];simp)
 have e:bL 1 = .tree [VI 1] .op:=by rw[bL,Ct (by decide) (by decide) (by decide)];rfl
 rw[e] at c
 exact TC.args c rfl (by simp only[aL,bO];rfl) (WA (aI (bO n)) (acK rfl)) (by simp only[List.flatMap_cons,List.flatMap_nil,D9 (bO n),XW (es:=[VI 1]) rfl,List.append_nil]) lo K
theorem dE {d:Int} {H:aA}:mV false [.int .i64 0] 1 [(0,VI d)] H=some (.tree [VI d] (.cl 1),H):=rJ
theorem eU {e:Nat} {es:List VV}:bQ (.tree es (.cl e))=true:=rfl
theorem dB {k:TK} {es:List VV}:aB (.tree es k)=[.tree es k]:=rfl
theorem eV {k:TK} {es:List VV}:isAny (.tree es k)=false:=rfl
theorem N6 {d:Nat} {H:aA}:fz (d+2) H (.tree [VI 1] (.cl 1))=some (bL 1):=by
 rw[X8]
 unfold fz
 have:aO (.tree [VI 1] (.cl 1))=false:=by simp[aO]
 simp only[this,Bool.false_eq_true,if_false]
 rfl
theorem wC (neg:Bool) (t b:Nat) (hb:b≠0) (ht:bl t≤4398046511104) (tG:bl b≤4398046511104):TC 164 [VB neg,bL t,bL b] (bU (mkRat (oO neg t) b)):=by
 refine TC.walk ⟨true,false⟩ JU rfl (Nat.le_of_ble_eq_true rfl) (by simp[aL,bO,aO,jS]) (CC _) ?_
 have hg0:Nat.gcd t b≠0:=Nat.gcd_ne_zero_right hb
 have XV:bl (Nat.gcd t b)≤4398046511104:=Nat.le_trans (oG (Nat.gcd_le_right t (by omega))) tG
 have c1:=DA t b (pT ht) (pT tG)
 have c2:=sU t _ hg0 (pT ht) (pT XV)
 have c3:=sU b _ hg0 (pT tG) (pT XV)
 have c4:∀lo H K,_:=fun lo H K=>IT (n:=Nat.gcd t b) (lo:=lo) (H:=H) (K:=K) (Nat.le_of_lt (pT XV))
 have RC:bU (mkRat (oO neg t) b) = .agg [VB (neg&&decide (t / Nat.gcd t b≠0)),bL (t / Nat.gcd t b),bL (b / Nat.gcd t b)]:=by
  refine NI ?_ (by rw[Jl hb,xQ]) (Ro hb)
  rw[Jl hb,Tr,Bool.and_eq_true,decide_eq_true_eq]
 rw[RC]
 by_cases h1:eH (Nat.gcd t b) 1=0
 ·have hg1:=vF.1 h1
  have e1:t / Nat.gcd t b=t:=by rw[hg1,Nat.div_one]
  have e2:b / Nat.gcd t b=b:=by rw[hg1,Nat.div_one]
  rw[e1,e2]
  cases neg with
  |
   false =>
   simp only[lI,iM,c1,c4,h1,dE,aM,bD,aW,jX,Nat.reduceLeDiff,Nat.reduceLT,Nat.reduceSub,VX,Nat.reduceEqDiff,Nat.reduceAdd]
   exact vL
  |
   true =>
   by_cases h0:t=0
   ·have hl:¬(0:Int)<((aC 1000000000 t).length:Int):=by rw[wH];omega
    simp only[lI,iM,c1,c4,h1,hl,cH,dE,aM,bD,aW,jX,Nat.reduceLeDiff,Nat.reduceLT,Nat.reduceSub,VX,Nat.reduceEqDiff,Nat.reduceAdd]
    rw[h0]
    exact vL
   ·have hl:(0:Int)<((aC 1000000000 t).length:Int):=wH.2 h0
    simp only[lI,iM,c1,c4,h1,hl,cH,dE,aM,bD,aW,jX,Nat.reduceLeDiff,Nat.reduceLT,Nat.reduceSub,VX,Nat.reduceEqDiff,Nat.reduceAdd]
    rw[decide_eq_true h0]
    exact vL
 ·cases neg with
  |
   false =>
   simp only[lI,iM,c1,c2,c3,c4,h1,dE,aM,bD,aW,jX,Nat.reduceLeDiff,Nat.reduceLT,Nat.reduceSub,VX,Nat.reduceEqDiff,Nat.reduceAdd]
   exact vL
  |
   true =>
   generalize t / Nat.gcd t b=t' at *
   by_cases h0:t'=0
   ·have hl:¬(0:Int)<((aC 1000000000 t').length:Int):=by rw[wH];omega
    simp only[lI,iM,c1,c2,c3,c4,h1,hl,cH,dE,aM,bD,aW,jX,Nat.reduceLeDiff,Nat.reduceLT,Nat.reduceSub,VX,Nat.reduceEqDiff,Nat.reduceAdd]
    rw[h0]
    exact vL
   ·have hl:(0:Int)<((aC 1000000000 t').length:Int):=wH.2 h0
    simp only[lI,iM,c1,c2,c3,c4,h1,hl,cH,dE,aM,bD,aW,jX,Nat.reduceLeDiff,Nat.reduceLT,Nat.reduceSub,VX,Nat.reduceEqDiff,Nat.reduceAdd]
    rw[decide_eq_true h0]
    exact vL
theorem DE (n:Int) (h0 : -9223372036854775808<n) (h1:n≤9223372036854775807):TC 166 [VI n] (bU (n:Rat)):=by
 refine TC.walk ⟨true,false⟩ Lf rfl (Nat.le_of_ble_eq_true rfl) rfl (CC _) ?_
 rw[W1]
 by_cases h:n<0
 ·have w:IntKind.i64.wrap (0-n)=(n.natAbs:Int):=wrapN _ (by omega) (by omega)
  have c1:TC 161 [VI (n.natAbs:Int)] (bL n.natAbs):=pB (n.natAbs:Int) (by omega)
  rw[decide_eq_true h]
  simp only[Cc,yQ,h,w,c1,dE,aM,bD,aW,eU,dB,eV,jX,Nat.reduceLeDiff,Nat.reduceLT,Nat.reduceSub,VX,Nat.reduceEqDiff,Nat.reduceAdd]
  exact pN (d:=6) (Ze rfl) (aH (bO _)) (N6 (d:=5))
 ·have c1:TC 161 [VI n] (bL n.natAbs):=by
   have:=pB n h1
   rwa [show n.toNat=n.natAbs by omega] at this
  rw[decide_eq_false h]
  simp only[Cc,yQ,h,c1,dE,aM,bD,aW,eU,dB,eV,jX,Nat.reduceLeDiff,Nat.reduceLT,Nat.reduceSub,VX,Nat.reduceEqDiff,Nat.reduceAdd]
  exact pN (d:=6) (Ze rfl) (aH (bO _)) (N6 (d:=5))
theorem Li:TC 124 [] (bU 1):=by
 refine TC.walk ⟨true,false⟩ La rfl (Nat.le_of_ble_eq_true rfl) rfl (CC _) ?_
 have c1:TC 166 [VI 1] (bU 1):=DE 1 (by decide) (by decide)
 simp only[HK,DJ,c1,cQ,jC,jM,aM,jX,Nat.reduceLeDiff,Nat.reduceLT,Nat.reduceSub,VX,Nat.reduceEqDiff,Nat.reduceAdd]
 exact E1 _
theorem Cl:TC 136 [] (bU 0):=by
 refine TC.walk ⟨true,false⟩ J0 rfl (Nat.le_of_ble_eq_true rfl) rfl (CC _) ?_
 have c1:TC 166 [VI 0] (bU 0):=DE 0 (by decide) (by decide)
 simp only[Fs,BU,c1,cQ,jC,jM,aM,jX,Nat.reduceLeDiff,Nat.reduceLT,Nat.reduceSub,VX,Nat.reduceEqDiff,Nat.reduceAdd]
 exact E1 _
theorem DL (a b:Rat) (Yu:dT a≤1099511627776) (Ra:dT b≤1099511627776):TC 94 [bU a,bU b] (bU (a+b)):=by
 refine TC.walk ⟨true,false⟩ K2 rfl (Nat.le_of_ble_eq_true rfl) (by simp[aL,As]) (CC _) ?_
 have la:=AR Yu
 have lb:=AR Ra
 have lda:=AJ Yu
 have ldb:=AJ Ra
 have ZD:=Nat.mul_ne_zero a.den_nz b.den_nz
 have m1:=kD a.num.natAbs b.den (Nat.le_of_lt (pT (by omega))) (Nat.le_of_lt (pT (by omega)))
 have m2:=kD b.num.natAbs a.den (Nat.le_of_lt (pT (by omega))) (Nat.le_of_lt (pT (by omega)))
 have m3:=kD a.den b.den (Nat.le_of_lt (pT (by omega))) (Nat.le_of_lt (pT (by omega)))
 have ea:mkRat (oO (decide (a.num<0)) (a.num.natAbs*b.den)) (a.den*b.den)=a:=CR a b.den_nz
 have eb:mkRat (oO (decide (b.num<0)) (b.num.natAbs*a.den)) (a.den*b.den)=b:=by rw[Nat.mul_comm a.den];exact CR b a.den_nz
 have k1:=qQ a.num.natAbs b.den
 have k2:=qQ b.num.natAbs a.den
 have k3:=qQ a.den b.den
 obtain⟨p1,p2,p3⟩:=GN ZD ea eb
 have hX:bl (a.num.natAbs*b.den)≤2199023255552:=by omega
 have hY:bl (b.num.natAbs*a.den)≤2199023255552:=by omega
 have hB:bl (a.den*b.den)≤4398046511104:=by omega
 generalize a.num.natAbs*b.den=X at *
 generalize b.num.natAbs*a.den=Y at *
 generalize a.den*b.den=B at *
 have f1:=GV X Y (pT (by omega)) (pT (by omega))
 have f2:=tB X Y (Nat.le_of_lt (pT (by omega))) (Nat.le_of_lt (pT (by omega)))
 have hS:bl (X+Y)≤4398046511104:=Nat.le_trans (Rg hX hY) (by decide)
 have hD1:bl (X-Y)≤4398046511104:=Nat.le_trans (oG (Nat.sub_le _ _)) (by omega)
 have hD2:bl (Y-X)≤4398046511104:=Nat.le_trans (oG (Nat.sub_le _ _)) (by omega)
 have f5:=fun neg=>wC neg (X+Y) B ZD hS hB
 have f6:=fun neg=>wC neg (X-Y) B ZD hD1 hB
 have f7:=fun neg=>wC neg (Y-X) B ZD hD2 hB
 by_cases hn:decide (a.num<0)=decide (b.num<0)
 ·have Ok:(decide (a.num<0) == decide (b.num<0))=true:=by simpa using hn
  rw[←p1 hn]
  simp only[xS,tF,m1,m2,m3,f1,f5,tZ,Bh,Ok,cQ,jC,lM,pD,pE,jM,aM,bD,aW,jX,Nat.reduceLeDiff,Nat.reduceLT,Nat.reduceSub,VX,Nat.reduceEqDiff,Nat.reduceAdd]
  exact E1 _
 ·have Ok:(decide (a.num<0) == decide (b.num<0))=false:=by simpa using hn
  by_cases hx:(0:Int)≤eH X Y
  ·have hle:Y≤X:=by have := @vA X Y;omega
   have c3:=yE X Y hle (Nat.le_of_lt (pT (by omega)))
   rw[←p2 hn hle]
   simp only[xS,tF,m1,m2,m3,f2,c3,f6,hx,tZ,Bh,Ok,cQ,jC,lM,pD,pE,jM,aM,bD,aW,jX,Nat.reduceLeDiff,Nat.reduceLT,Nat.reduceSub,VX,Nat.reduceEqDiff,Nat.reduceAdd]
   exact E1 _
  ·have hle:X≤Y:=by have := @vA X Y;omega
   have c3:=yE Y X hle (Nat.le_of_lt (pT (by omega)))
   rw[←p3 hn hle]
   simp only[xS,tF,m1,m2,m3,f2,c3,f7,hx,tZ,Bh,Ok,cQ,jC,lM,pD,pE,jM,aM,bD,aW,jX,Nat.reduceLeDiff,Nat.reduceLT,Nat.reduceSub,VX,Nat.reduceEqDiff,Nat.reduceAdd]
   exact E1 _
end Go.PM
namespace Go.PM
open Go.Lib
theorem aaF {m n:Nat} (h:decDigits m=decDigits n):m=n:=by
 have key:∀k m n:Nat,m<10^(k+1)→decDigits m=decDigits n→m=n:=by
  intro k
  induction k with
  |
   zero =>
   intro m n hm h
   rw[gI (by omega)] at h
   by_cases hn:n<10
   ·rw[gI hn] at h
    have h1:=List.singleton_inj.1 h
    unfold d10 at h1
    have:=congrArg UInt8.toNat h1
    simp at this
    omega
   ·rw[yI hn] at h
    have:=congrArg List.length h
    have h2:=List.length_pos_iff.2 (No (n / 10))
    simp only[List.length_append,List.length_cons,List.length_nil] at this
    omega
  |
   succ k ih =>
   intro m n hm h
   by_cases h1:m<10
   ·rw[gI h1] at h
    by_cases hn:n<10
    ·rw[gI hn] at h
     have h1:=List.singleton_inj.1 h
     unfold d10 at h1
     have:=congrArg UInt8.toNat h1
     simp at this
     omega
    ·rw[yI hn] at h
     have:=congrArg List.length h
     have h2:=List.length_pos_iff.2 (No (n / 10))
     simp only[List.length_append,List.length_cons,List.length_nil] at this
     omega
   ·rw[yI h1] at h
    by_cases hn:n<10
    ·rw[gI hn] at h
     have:=congrArg List.length h
     have h2:=List.length_pos_iff.2 (No (m / 10))
     simp only[List.length_append,List.length_cons,List.length_nil] at this
     omega
    ·rw[yI hn] at h
     obtain⟨h2,h3⟩:=List.append_inj' h rfl
     have h4:=ih (m / 10) (n / 10) (by rw[Nat.pow_succ] at hm;omega) h2
     have h5:=List.singleton_inj.1 h3
     unfold d10 at h5
     have:=congrArg UInt8.toNat h5
     simp at this
     omega
 exact key m m n (Nat.lt_trans (Nat.lt_pow_self (by decide)) (Nat.pow_lt_pow_right (by decide) (Nat.lt_succ_self m))) h
def Ds (q:Rat):List UInt8:=(if q.num<0 then [45] else [])++decDigits q.num.natAbs++(if q.den=1 then [] else 47::decDigits q.den)
def uK (q:Rat):Bool:=decide ((decDigits q.num.natAbs).length≤200)&&decide ((decDigits q.den).length≤200)
theorem Ah (n:Nat):(decDigits n).length≤bl n+1:=by
 by_cases h:n=0
 ·subst h;rw[gI (by decide)];simp
 ·have h1:=afJ h
  obtain⟨k,hk⟩:∃k,bl n=k+1:=⟨bl n-1,by omega⟩
  have h2:=Lu n
  rw[hk] at h2 ⊢
  have h3:2^(k+1)≤10^(k+1):=Nat.pow_le_pow_left (by decide) _
  have:=wT n k (by omega)
  omega
end Go.PM
namespace Go.PM
open Go.Lib
theorem Nk (a b:List UInt8):cU .neq (.string ⟨a.toArray⟩) (.string ⟨b.toArray⟩)=some (.bool (!decide (a=b))):=by
 have h:∀l:List UInt8,(ByteArray.toList ⟨l.toArray⟩)=l:=fun l=>by rw[ByteArray.toList_eq]
 show some (Value.bool (!(ByteArray.toList ⟨a.toArray⟩ == ByteArray.toList ⟨b.toArray⟩)))=_
 rw[h,h]
 congr 3
 cases h2:a == b
 ·rw[decide_eq_false (by simpa using h2)]
 ·rw[decide_eq_true (by simpa using h2)]
theorem TJ (a b:List UInt8):cU .eql (.string ⟨a.toArray⟩) (.string ⟨b.toArray⟩)=some (.bool (decide (a=b))):=by
 have h:∀l:List UInt8,(ByteArray.toList ⟨l.toArray⟩)=l:=fun l=>by rw[ByteArray.toList_eq]
 show some (Value.bool (ByteArray.toList ⟨a.toArray⟩ == ByteArray.toList ⟨b.toArray⟩))=_
 rw[h,h]
 congr 2
 cases h2:a == b
 ·rw[decide_eq_false (by simpa using h2)]
 ·rw[decide_eq_true (by simpa using h2)]
theorem Kd {n:Nat}:(decDigits n=[49])↔n=1:=by
 have e:decDigits 1=[49]:=by rw[gI (by decide)];rfl
 rw[←e]
 exact⟨aaF,fun h=>by rw[h]⟩
theorem Ij (q:Rat) (hk:dT q≤1099511627776):TC 172 [bR q] (.dY [aR (Ds q),VB (uK q)]):=by
 refine TC.walk ⟨true,false⟩ ED rfl (Nat.le_of_ble_eq_true rfl) (by simp[aL,kE]) rfl ?_
 have la:=AR hk
 have lb:=AJ hk
 have t1:=Bw q.num.natAbs (akM (by omega))
 have t2:=Bw q.den (akM (by omega))
 have d1:=Ah q.num.natAbs
 have d2:=Ah q.den
 have a1:cU .add (.string ⟨#[45]⟩) (.string ⟨(decDigits q.num.natAbs).toArray⟩)=some (.string ⟨(45::decDigits q.num.natAbs).toArray⟩):=pI [45] _ (by simp only[List.length_cons,List.length_nil];omega)
 have a2:cU .add (.string ⟨#[47]⟩) (.string ⟨(decDigits q.den).toArray⟩)=some (.string ⟨(47::decDigits q.den).toArray⟩):=pI [47] (decDigits q.den) (by simp only[List.length_cons,List.length_nil];omega)
 have a3:=pI (45::decDigits q.num.natAbs) (47::decDigits q.den) (by simp only[List.length_cons];omega)
 have a4:=pI (decDigits q.num.natAbs) (47::decDigits q.den) (by simp only[List.length_cons];omega)
 have ne:cU .neq (.string ⟨(decDigits q.den).toArray⟩) (.string ⟨#[49]⟩)=_:=Nk (decDigits q.den) [49]
 have hf:uK q=(decide (((decDigits q.num.natAbs).length:Int)≤200)&&decide (((decDigits q.den).length:Int)≤200)):=by
  unfold uK
  congr 1<;>exact decide_eq_decide.2 (by omega)
 rw[hf]
 have hs:Ds q=(if q.num<0 then (45::decDigits q.num.natAbs) else decDigits q.num.natAbs)++(if q.den=1 then [] else 47::decDigits q.den):=by
  unfold Ds
  by_cases hn:q.num<0
  ·rw[if_pos hn,if_pos hn];rfl
  ·rw[if_neg hn,if_neg hn];rfl
 rw[hs]
 by_cases hd:q.den=1
 ·rw[decide_eq_true (Kd.2 hd)] at ne
  rw[if_pos hd,List.append_nil]
  by_cases hn:q.num<0<;>by_cases hl:((decDigits q.num.natAbs).length:Int)≤200
  all_goals
   simp only[uB,rO,t1,t2,a1,a2,a3,a4,ne,hn,hl,bB,aG,eZ,mN,mJ,rQ,dC,aY,aX,aP,jX,Nat.reduceLeDiff,Nat.reduceLT,Nat.reduceSub,VX,Nat.reduceEqDiff,Nat.reduceAdd]
   exact aI rfl
 ·rw[decide_eq_false (mt Kd.1 hd)] at ne
  rw[if_neg hd]
  by_cases hn:q.num<0<;>by_cases hl:((decDigits q.num.natAbs).length:Int)≤200
  all_goals
   simp only[uB,rO,t1,t2,a1,a2,a3,a4,ne,hn,hl,bB,aG,eZ,mN,mJ,rQ,dC,aY,aX,aP,jX,Nat.reduceLeDiff,Nat.reduceLT,Nat.reduceSub,VX,Nat.reduceEqDiff,Nat.reduceAdd]
   exact aI rfl
def OJ (q:Rat):VV:=if uK q=true then .dY [aR (Ds q),VB true] else .dY [aR [],VB false]
theorem UB (q:Rat):gH (OJ q)=true:=by unfold OJ;split<;>rfl
end Go.PM
namespace Go.PM
open Go.Lib
abbrev bV (b:UInt8):VV := .sc (.int .u8 (b.toNat:Int))
theorem I6:∀bs:List UInt8,Ge (bs.map bV)=some bs
 | []=>rfl
 |
  b::bs=>by
  rw[List.map_cons]
  show (Ge (bs.map bV)).map (UInt8.ofNat ((b.toNat:Int)).toNat :: ·)=_
  rw[I6 bs]
  simp
structure Ep (v:VV) (H:aA) (bs:List UInt8):Prop where
 len:nS v H=some (VI bs.length)
 src:dD 1 v H=some (bs.map bV)
 nsc:∀x,v ≠ .sc x
theorem Ep.str {v:VV} {H:aA} {bs:List UInt8} (h:Ep v H bs) {fl:Fl} {lo:Nat} {x:Operand} {ρ:cM} (hx:dK ρ x=v):vop fl lo (.b2s x) ρ H=some (aR bs,H):=by
 have h1:=h.nsc
 have h2:=h.src
 unfold vop
 dsimp only
 rw[hx]
 cases v with
 | sc x=>exact absurd rfl (h1 x)
 | _=>simp only[h2,I6,Option.map_some]
theorem VM {bs:List UInt8} {k:TK} {H:aA}:dD 1 (.tree (bs.map bV) k) H=some (bs.map bV):=by
 have:((bs.map bV).all fun x=>(aB x).length == 1&&(aB x).all bQ)=true:=by
  rw[List.all_eq_true]
  intro x hx
  obtain⟨d,_,rfl⟩:=List.mem_map.1 hx
  rfl
 simp only[dD,this,if_true]
theorem Ep.tree {bs:List UInt8} {k:TK} {H:aA}:Ep (.tree (bs.map bV) k) H bs:=⟨dH,VM,fun x=>by simp⟩
theorem Ep.row {bs:List UInt8} {H:aA} {b g:Nat} {w:Bool} (h:aK H b g=some (bs.map bV,1,w)):Ep (.ref b g 0 bs.length bs.length) H bs:=by
 refine⟨cT h,?_,fun x=>by simp⟩
 have kB:(((bs.map bV).drop 0).take bs.length).all (fun x=>(aB x).all bQ)=true:=by
  rw[List.all_eq_true]
  intro x hx
  obtain⟨d,_,rfl⟩:=List.mem_map.1 (List.mem_of_mem_drop (List.mem_of_mem_take hx))
  rfl
 simp only[dD,h]
 rw[if_pos ⟨trivial,by simp,kB⟩,List.drop_zero,List.take_of_length_le (by simp)]
theorem Ep.cons {v:VV} {H:aA} {bs:List UInt8} (h:Ep v H bs) (x:UInt8) (hl:bs.length≤1000000) (lo:Nat):∃v' H',eJ lo 1 1 (.tree [bV x] (.cl 1)) (bs.map bV) H=some (v',H')∧Ep v' H' (x::bs):=by
 by_cases hb:bs=[]
 ·subst hb
  exact⟨_,_,rfl,Ep.tree (bs:=[x])⟩
 ·have eW:bs.length≠0:=fun h=>hb (List.length_eq_zero_iff.1 h)
  refine⟨.ref H.length 0 0 (x::bs).length (x::bs).length,H++[.row 0 ((x::bs).map bV) 1 true],?_,Ep.row (Qt rfl)⟩
  simp only[eJ,List.length_map]
  rw[if_pos ⟨by decide,by decide⟩,if_pos trivial,if_neg eW,if_pos (by simp;omega)]
  simp[Nat.add_comm]
theorem Pb (r:Int):cU .rem (.int .i64 r) (.int .i64 10)=some (.int .i64 (r.tmod 10)):=rfl
theorem adK (r:Int) (h0 : -9223372036854775808≤r) (h1:r≤9223372036854775807):cU .quo (.int .i64 r) (.int .i64 10)=some (.int .i64 (r.tdiv 10)):=by
 show some (Value.int .i64 (IntKind.i64.wrap (r.tdiv 10)))=_
 have h2:(r.tdiv 10).natAbs=r.natAbs / 10:=by rw[Int.natAbs_tdiv];rfl
 rw[wrap64 (by omega) (by omega)]
theorem Lt {d:Nat} (h:d<10):(d10 d).toNat=48+d:=by
 unfold d10
 simp
 omega
theorem GI {n r:Nat} {bs:List UInt8} (h:decDigits n=decDigits r++bs):decDigits n=jZ (r / 10)++d10 (r % 10)::bs:=by
 rw[h]
 by_cases hr:r<10
 ·rw[gI hr,jZ,if_pos (by omega),Nat.mod_eq_of_lt hr];rfl
 ·rw[yI hr,jZ,if_neg (by omega),List.append_assoc];rfl
theorem K9 (n:Int) (h0 : -9223372036854775808≤n) (h1:n≤9223372036854775807):TC 235 [VI n] (aR ((if n<0 then [45] else [])++decDigits n.natAbs)):=by
 refine TC.walk ⟨true,false⟩ K0 rfl (Nat.le_of_ble_eq_true rfl) rfl rfl ?_
 have e0:∀lr,mV lr [.int .u8 0] 0 [] []=some (.ref 0 0 0 0 0,[.row 0 (([]:List UInt8).map bV) 1 true]):=fun lr=>jJ (H:=[]) rfl
 have e1:∀(x:UInt8) (H:aA),mV false [.int .u8 0] 1 [(0,bV x)] H=some (.tree [bV x] (.cl 1),H):=fun x H=>kH rfl rfl rfl
 have hdl:=wT n.natAbs 19 (by omega)
 simp only[He,DK,e0,VX,Nat.reduceEqDiff,Nat.reduceAdd]
 refine aN (fun(s:Int×List UInt8) ρ H => -9223372036854775808≤s.1∧s.1≤9223372036854775807∧(s.2=[]→s.1=n)∧(s.2≠[]→decDigits n.natAbs=jZ s.1.natAbs++s.2)∧Ep (ρ 3) H s.2∧ρ 0=VI n∧ρ 4=VI s.1) (fun s=>s.1.natAbs+(if s.2=[] then 1 else 0)) (n,[]) ⟨h0,h1,fun _=>rfl,fun h=>absurd rfl h,by simp only[VX,Nat.reduceEqDiff,Nat.reduceAdd];exact Ep.row (bs:=[]) bG,rfl,rfl⟩ ?_
 rintro⟨r,bs⟩ ρ H ⟨Mj,Om,hn,hd,ho,g0,g4⟩
 simp only at Mj Om hn hd ho g4
 generalize hv3:ρ 3=v3 at ho
 have hlen:=ho.len
 have Ac:=ho.src
 by_cases JQ:bs≠[]∧r=0
 ·obtain⟨hb,hr⟩:=JQ
  subst hr
  have hl:¬(bs.length:Int)=0:=by have:=List.length_pos_iff.2 hb;omega
  have XR:=hd hb
  simp only[jZ,Int.natAbs_zero,if_true,List.nil_append] at XR
  by_cases mD:n<0
  ·obtain⟨v',H',ap,Zp⟩:=ho.cons 45 (by rw[←XR];omega) 0
   have Uf:mV false [.int .u8 0] 1 [(0,.sc (.int .u8 45))] H=some (.tree [bV 45] (.cl 1),H):=e1 45 H
   have bs2:=fun aU (h:dK aU (.tmp 34)=v')=>Zp.str (fl:=⟨true,false⟩) (lo:=0) h
   simp only[iP,g0,g4,hv3,hlen,hl,VX,Nat.reduceEqDiff,Nat.reduceAdd]
   simp only[g0,mD,hv3,Uf,Ac,ap,Ny,VX,Nat.reduceEqDiff,Nat.reduceAdd]
   rw[bs2 _ (by rfl)]
   simp only[VX,Nat.reduceEqDiff,Nat.reduceAdd]
   rw[XR]
   exact aI rfl
  ·have bs2:=fun aU (h:dK aU (.tmp 34)=v3)=>ho.str (fl:=⟨true,false⟩) (lo:=0) h
   simp only[iP,g0,g4,hv3,hlen,hl,VX,Nat.reduceEqDiff,Nat.reduceAdd]
   simp only[g0,mD,hv3,Ny,VX,Nat.reduceEqDiff,Nat.reduceAdd]
   rw[bs2 _ (by simp only[VX,Nat.reduceEqDiff,Nat.reduceAdd];try exact hv3)]
   simp only[VX,Nat.reduceEqDiff,Nat.reduceAdd]
   rw[XR]
   exact aI rfl
 ·have hm:r.tmod 10=if r<0 then -((r.natAbs % 10:Nat):Int) else ((r.natAbs % 10:Nat):Int):=by
   have:=Int.tmod_eq_emod_of_nonneg (a:=r) (b:=10)
   by_cases h:r<0
   ·rw[if_pos h]
    have h2:=Int.neg_tmod (-r) 10
    rw[Int.neg_neg] at h2
    rw[h2,Int.tmod_eq_emod_of_nonneg (by omega)]
    omega
   ·rw[if_neg h,this (by omega)]
    omega
  have hq:(r.tdiv 10).natAbs=r.natAbs / 10:=by rw[Int.natAbs_tdiv];rfl
  have hmd:=Nat.mod_lt r.natAbs (show 0<10 by decide)
  have q1:=adK r Mj Om
  have tG:bs.length≤19:=by
   by_cases hb:bs=[]
   ·subst hb;simp
   ·have h2:=hd hb
    have h3:=congrArg List.length h2
    rw[List.length_append] at h3
    have h4:r≠0:=fun h=>JQ ⟨hb,h⟩
    have h5:=List.length_pos_iff.2 (No r.natAbs)
    rw[jZ,if_neg (by omega)] at h3
    omega
  obtain⟨v',H',ap,Zp⟩:=ho.cons (d10 (r.natAbs % 10)) (by omega) 0
  have w2:IntKind.i64.wrap (48+((r.natAbs % 10:Nat):Int))=((48+r.natAbs % 10:Nat):Int):=wrapN _ (by omega) (by omega)
  have w3:IntKind.u8.wrap ((48+r.natAbs % 10:Nat):Int)=((48+r.natAbs % 10:Nat):Int):=by
   simp[IntKind.wrap,IntKind.bits,IntKind.signed]
   omega
  have hx:VV.sc (.int .u8 ((48+r.natAbs % 10:Nat):Int))=bV (d10 (r.natAbs % 10)):=by rw[bV,Lt hmd]
  have Uf:=e1 (d10 (r.natAbs % 10)) H
  rw[←hx] at Uf ap
  have next:∃s':Int×List UInt8,s'.1.natAbs+(if s'.2=[] then 1 else 0)<r.natAbs+(if bs=[] then 1 else 0) ∧ -9223372036854775808≤s'.1∧s'.1≤9223372036854775807∧(s'.2=[]→s'.1=n)∧(s'.2≠[]→decDigits n.natAbs=jZ s'.1.natAbs++s'.2)∧Ep v' H' s'.2∧r.tdiv 10=s'.1:=by
   refine⟨(r.tdiv 10,d10 (r.natAbs % 10)::bs),?_,by simp only;omega,by simp only;omega,fun h=>(by simp at h),fun _ => ?_,Zp,rfl⟩
   ·simp only[hq,List.cons_ne_nil,if_false]
    by_cases hb:bs=[]
    ·rw[if_pos hb];omega
    ·have h4:r≠0:=fun h=>JQ ⟨hb,h⟩
     rw[if_neg hb];omega
   ·simp only[hq]
    by_cases hb:bs=[]
    ·subst hb
     refine GI ?_
     rw[hn rfl,List.append_nil]
    ·have h4:r≠0:=fun h=>JQ ⟨hb,h⟩
     have h2:=hd hb
     rw[jZ,if_neg (by omega)] at h2
     exact GI h2
  by_cases hrn:r.tmod 10<0
  ·have w1:IntKind.i64.wrap (0-r.tmod 10)=((r.natAbs % 10:Nat):Int):=by
    have:r.tmod 10 = -((r.natAbs % 10:Nat):Int):=by
     by_cases h:r<0
     ·rw[if_pos h] at hm;exact hm
     ·rw[if_neg h] at hm;omega
    rw[this]
    exact wrapN _ (by omega) (by omega)
   by_cases hb:bs=[]
   ·have hl:(bs.length:Int)=0:=by rw[hb];rfl
    simp only[iP,g0,g4,hv3,hlen,hl,Pb,q1,hrn,w1,w2,w3,Uf,Ac,ap,VX,Nat.reduceEqDiff,Nat.reduceAdd]
    obtain⟨s',n1,n2,n3,n4,n5,n6,n7⟩:=next
    exact⟨s',n1,n2,n3,n4,n5,n6,by rw[n7]⟩
   ·have hl:¬(bs.length:Int)=0:=by have:=List.length_pos_iff.2 hb;omega
    have hr:¬r=0:=fun h=>JQ ⟨hb,h⟩
    simp only[iP,g0,g4,hv3,hlen,hl,hr,Pb,q1,hrn,w1,w2,w3,Uf,Ac,ap,VX,Nat.reduceEqDiff,Nat.reduceAdd]
    obtain⟨s',n1,n2,n3,n4,n5,n6,n7⟩:=next
    exact⟨s',n1,n2,n3,n4,n5,n6,by rw[n7]⟩
  ·have hmm:r.tmod 10=((r.natAbs % 10:Nat):Int):=by
    rw[hm] at hrn ⊢
    split
    ·rename_i h;rw[if_pos h] at hrn;omega
    ·rfl
   have ajQ:¬((r.natAbs % 10:Nat):Int)<0:=by omega
   by_cases hb:bs=[]
   ·have hl:(bs.length:Int)=0:=by rw[hb];rfl
    simp only[iP,g0,g4,hv3,hlen,hl,Pb,hmm,q1,ajQ,w2,w3,Uf,Ac,ap,VX,Nat.reduceEqDiff,Nat.reduceAdd]
    obtain⟨s',n1,n2,n3,n4,n5,n6,n7⟩:=next
    exact⟨s',n1,n2,n3,n4,n5,n6,by rw[n7]⟩
   ·have hl:¬(bs.length:Int)=0:=by have:=List.length_pos_iff.2 hb;omega
    have hr:¬r=0:=fun h=>JQ ⟨hb,h⟩
    simp only[iP,g0,g4,hv3,hlen,hl,hr,Pb,hmm,q1,ajQ,w2,w3,Uf,Ac,ap,VX,Nat.reduceEqDiff,Nat.reduceAdd]
    obtain⟨s',n1,n2,n3,n4,n5,n6,n7⟩:=next
    exact⟨s',n1,n2,n3,n4,n5,n6,by rw[n7]⟩
end Go.PM
namespace Go.PM
abbrev chV (c:List (List ByteArray)):VV := .agg [FX c]
def BV (n:Nat) (H:aA) (bare:Bool) (c:List (List ByteArray)) (r:VV):Prop:=∃c0,r = .agg [c0]∧vU n H bare c c0
theorem BV.cL {n:Nat} {H H':aA} {bare:Bool} {s:List (List ByteArray)} {c:VV} (h:BV n H bare s c) (hk:∀b g x,n<b→aK H b g=some x→aK H' b g=some x):BV n H' bare s c:=by
 obtain⟨c0,rfl,h0⟩:=h
 exact⟨c0,rfl,h0.cL hk⟩
theorem BV.pre {n:Nat} {H H':aA} {bare:Bool} {s:List (List ByteArray)} {c:VV} (h:BV n H bare s c) (hh:H <+: H'):BV n H' bare s c:=h.cL fun _ _ _ _=>fS hh
theorem BV.fz {n:Nat} {H:aA} {bare:Bool} {s:List (List ByteArray)} {c:VV} (h:BV n H bare s c):PM.fz depth H c=some (chV s):=by
 obtain⟨c0,rfl,h0⟩:=h
 have f0:=h0.fz (d:=4)
 have e:PM.fz (7+1) H (.agg [c0])=if aO (.agg [c0])=true then some (.agg [c0]) else ([c0].mapM (PM.fz 7 H)).map .agg:=rfl
 show PM.fz (7+1) H (.agg [c0])=_
 rw[e]
 by_cases hp:aO (.agg [c0])=true
 ·rw[if_pos hp]
  have hu:aO c0=true:=by simpa[aO,aL] using hp
  rw[aH hu] at f0
  cases f0
  rfl
 ·rw[if_neg hp,List.mapM_cons,f0]
  rfl
end Go.PM
namespace Go.PM
open Go.Lib
def gG (c:UInt8):Bool:=decide (48≤c.toNat)&&decide (c.toNat≤57)
def dv (c:UInt8):Nat:=c.toNat-48
def Jr (a:Nat) (l:List UInt8):Nat:=l.foldl (fun a c=>a*10+dv c) a
def bJ (l:List UInt8):Nat:=Jr 0 l
theorem T3 (l:List UInt8):∀a,Jr a l=a*10^l.length+bJ l:=by
 induction l with
 | nil=>intro a;simp[Jr,bJ]
 |
  cons c l ih =>
  intro a
  have h1:Jr a (c::l)=Jr (a*10+dv c) l:=rfl
  have h2:bJ (c::l)=Jr (0*10+dv c) l:=rfl
  rw[h1,h2,ih,ih (0*10+dv c),List.length_cons,Nat.pow_succ]
  grind
theorem Jh (a b:List UInt8):bJ (a++b)=bJ a*10^b.length+bJ b:=by
 have:bJ (a++b)=Jr (bJ a) b:=by unfold bJ Jr;rw[List.foldl_append]
 rw[this,T3]
theorem Jm:bJ []=0:=rfl
theorem VY (a:List UInt8) (c:UInt8):bJ (a++[c])=bJ a*10+dv c:=by
 rw[Jh]
 simp[bJ,Jr]
theorem adO {c:UInt8} (h:gG c=true):dv c<10:=by
 simp only[gG,Bool.and_eq_true,decide_eq_true_eq] at h
 unfold dv
 omega
theorem Fp:∀ {l:List UInt8},l.all gG=true→bJ l<10^l.length:=by
 intro l
 induction l with
 | nil=>intro _;decide
 |
  cons c l ih =>
  intro h
  rw[List.all_cons,Bool.and_eq_true] at h
  have h1:=adO h.1
  have h2:=ih h.2
  have h3:bJ (c::l)=Jr (0*10+dv c) l:=rfl
  rw[h3,T3,List.length_cons,Nat.pow_succ]
  have h4:(0*10+dv c)*10^l.length≤9*10^l.length:=Nat.mul_le_mul_right _ (by omega)
  omega
theorem agX {M:Nat} (hM:1000000000000000000≤M):∀(l:List UInt8) (k acc:Nat),l.all gG=true→acc<10^k→k+l.length≤18→parseUintM M acc l = .ok (Jr acc l):=by
 intro l
 induction l with
 | nil=>intro k acc _ _ _;rfl
 |
  cons c l ih =>
  intro k acc h hk hl
  rw[List.all_cons,Bool.and_eq_true] at h
  have h1:=adO h.1
  have h0:=h.1
  simp only[gG,Bool.and_eq_true,decide_eq_true_eq] at h0
  rw[List.length_cons] at hl
  have h18:acc<10^17:=Nat.lt_of_lt_of_le hk (Nat.pow_le_pow_right (by decide) (by omega))
  have e17:(10:Nat)^17=100000000000000000:=by decide
  rw[e17] at h18
  have hd:c.toNat-48=dv c:=rfl
  rw[parseUintM,if_pos h0,if_neg (by omega),hd,if_neg (by omega),ih (k+1) _ h.2 (by rw[Nat.pow_succ];omega) (by omega)]
  rfl
theorem agC {l:List UInt8} (h:l.all gG=true) (h0:l≠[]) (hl:l.length≤18):parseUintB 64 l = .ok (bJ l):=by
 unfold parseUintB
 rw[if_neg h0]
 exact agX (by decide) l 0 0 h (by decide) (by omega)
def gB (l:List UInt8):Bool:=l.all gG&&decide (1≤l.length)&&decide (l.length≤200)&&(decide (l.length=1) || !decide (l.getD 0 0=48))
theorem iI {l:List UInt8}:gB l=true↔l.all gG=true∧1≤l.length∧l.length≤200∧(l.length=1∨l.getD 0 0≠48):=by
 unfold gB
 simp only[Bool.and_eq_true,Bool.or_eq_true,Bool.not_eq_true',decide_eq_true_eq,decide_eq_false_iff_not,ne_eq,and_assoc]
theorem vX {l:List UInt8} (h:gB l=true):bl (bJ l)≤665:=by
 obtain⟨h1,h2,h3,_⟩:=iI.1 h
 refine Fe (Nat.lt_of_lt_of_le (Fp h1) ?_)
 exact Nat.le_trans (Nat.pow_le_pow_right (by decide) h3) (by decide +kernel)
def kS (c:UInt8):List UInt8→List UInt8×Option (List UInt8)
 | []=>([],none)
 | x::r=>if x=c then ([],some r) else (x::(kS c r).1,(kS c r).2)
theorem zM {c:UInt8}:∀ {l:List UInt8},(kS c l).2=none→indexByte l c = -1∧(kS c l).1=l∧c∉l:=by
 intro l
 induction l with
 | nil=>intro _;exact⟨rfl,rfl,by simp⟩
 |
  cons x l ih =>
  intro h
  unfold kS at h ⊢
  by_cases hx:x=c
  ·rw[if_pos hx] at h
   cases h
  ·rw[if_neg hx] at h ⊢
   obtain⟨h1,h2,h3⟩:=ih h
   refine⟨?_,by rw[h2],?_⟩
   ·rw[indexByte,if_neg (by simpa using hx),h1]
    rfl
   ·rw[List.mem_cons,not_or]
    exact⟨fun h=>hx h.symm,h3⟩
theorem Gt {c:UInt8}:∀ {l r:List UInt8},(kS c l).2=some r→indexByte l c=((kS c l).1.length:Int)∧l=(kS c l).1++c::r∧c∉(kS c l).1:=by
 intro l
 induction l with
 | nil=>intro r h;cases h
 |
  cons x l ih =>
  intro r h
  unfold kS at h ⊢
  by_cases hx:x=c
  ·rw[if_pos hx] at h ⊢
   cases h
   subst hx
   refine⟨?_,rfl,by simp⟩
   rw[indexByte,if_pos (by simp)]
   rfl
  ·rw[if_neg hx] at h ⊢
   obtain⟨h1,h2,h3⟩:=ih h
   refine⟨?_,?_,?_⟩
   ·rw[indexByte,if_neg (by simpa using hx),h1,if_neg]
    ·simp
    ·simp
   ·conv=>lhs;rw[h2]
    rfl
   ·rw[List.mem_cons,not_or]
    exact⟨fun h=>hx h.symm,h3⟩
def nJ (neg:Bool) (d:List UInt8) (s:Option (List UInt8)):Option Rat :=
 if gB d=false∨(neg=true∧bJ d=0) then none else
 match s with
 | none=>some (mkRat (oO neg (bJ d)) 1)
 | some t=>if gB t=true∧1<bJ t∧Nat.gcd (bJ d) (bJ t)=1 then some (mkRat (oO neg (bJ d)) (bJ t)) else none
def isNeg (l:List UInt8):Bool:=decide (1≤l.length)&&decide (l.getD 0 0=45)
def vW (l:List UInt8):Option Rat:=nJ (isNeg l) ((kS 47 (if isNeg l then l.drop 1 else l)).1) ((kS 47 (if isNeg l then l.drop 1 else l)).2)
theorem Rq {neg:Bool} {d:List UInt8} {s:Option (List UInt8)} {q:Rat} (h:nJ neg d s=some q):gB d=true∧¬(neg=true∧bJ d=0)∧((s=none∧q=mkRat (oO neg (bJ d)) 1)∨∃t,s=some t∧gB t=true∧1<bJ t∧Nat.gcd (bJ d) (bJ t)=1∧q=mkRat (oO neg (bJ d)) (bJ t)):=by
 unfold nJ at h
 split at h
 ·cases h
 ·rename_i hc
  rw[not_or] at hc
  refine⟨by simpa using hc.1,hc.2,?_⟩
  split at h
  ·exact .inl ⟨rfl,(Option.some.inj h).symm⟩
  ·rename_i t
   split at h
   ·rename_i ht
    exact .inr ⟨t,rfl,ht.1,ht.2.1,ht.2.2,(Option.some.inj h).symm⟩
   ·cases h
theorem PT {neg:Bool} {d:List UInt8} {s:Option (List UInt8)} {q:Rat} (h:nJ neg d s=some q):dT q≤665:=by
 obtain⟨h1,_,h3⟩:=Rq h
 have hb:=vX h1
 rcases h3 with⟨_,rfl⟩ | ⟨t,_,h4,h5,_,rfl⟩
 ·exact Jk (by rw[xQ];exact hb) (Fe (by decide +kernel)) (by decide)
 ·exact Jk (by rw[xQ];exact hb) (vX h4) (by omega)
theorem SJ {l:List UInt8} {q:Rat} (h:vW l=some q):dT q≤665:=PT h
theorem Hw {neg:Bool} {t b:Nat} (hb:b≠0) (hg:Nat.gcd t b=1):(mkRat (oO neg t) b).num=oO neg t∧(mkRat (oO neg t) b).den=b:=by
 rw[Jl hb,Ro hb,hg,Nat.div_one,Nat.div_one]
 exact⟨rfl,rfl⟩
theorem DZ {c:UInt8} {l:List UInt8}:isNeg (c::l)=decide (c=45):=by simp[isNeg]
theorem Y3 {l:List UInt8} (h:l.all gG=true):(47:UInt8)∉l:=by
 intro hm
 have:=List.all_eq_true.1 h _ hm
 exact absurd this (by decide)
end Go.PM
namespace Go.PM
open Go.Lib
theorem CL (l:List UInt8) {i:Nat} (h:i<l.length):E2 (.string ⟨l.toArray⟩) (.int .i64 (i:Int))=some (.int .u8 ((l.getD i 0).toNat:Int)):=by
 have hs:(⟨l.toArray⟩:ByteArray).size=l.length:=by simp[ByteArray.size]
 have e1:(0:Int)≤i∧(i:Int)<(l.length:Int):=by omega
 simp only[E2,hs,e1,and_self,if_true,Int.toNat_natCast]
theorem GZ (l:List UInt8) (h:0<l.length):E2 (.string ⟨l.toArray⟩) (.int .i64 0)=some (.int .u8 ((l.getD 0 0).toNat:Int)):=CL l h
theorem EB (l:List UInt8) (a b:Nat):(⟨l.toArray⟩:ByteArray).extract a b=⟨((l.drop a).take (b-a)).toArray⟩:=by
 rw[ByteArray.ext_iff,ByteArray.data_extract]
 simp[List.extract_toArray,List.extract_eq_take_drop]
theorem Ev (l:List UInt8) {a:Nat} (h:a≤l.length):tN (aR l) (some (VI (a:Int))) none=some (aR (l.drop a)):=by
 have hs:(⟨l.toArray⟩:ByteArray).size=l.length:=by simp[ByteArray.size]
 have e2:(0:Int)≤a∧(a:Int)≤(l.length:Int):=by omega
 simp only[tN,FH,xZ,hs,dV,e2,and_self,if_true,Int.toNat_natCast,EB]
 rw[List.take_of_length_le (by simp)]
theorem Jq (l:List UInt8) {b:Nat} (hb:b≤l.length):tN (aR l) none (some (VI (b:Int)))=some (aR (l.take b)):=by
 have hs:(⟨l.toArray⟩:ByteArray).size=l.length:=by simp[ByteArray.size]
 have e1:(0:Int)≤b∧(b:Int)≤(l.length:Int):=by omega
 simp only[tN,FH,xZ,hs,dV,e1,and_self,if_true,Int.toNat_natCast,EB]
 rw[List.drop_zero,Nat.sub_zero]
theorem PY (l:List UInt8):cU .eql (.string ⟨l.toArray⟩) (.string ⟨#[]⟩)=some (.bool (decide (l=[]))):=TJ l []
theorem HO (l:List UInt8):cU .neq (.string ⟨l.toArray⟩) (.string ⟨#[]⟩)=some (.bool (!decide (l=[]))):=Nk l []
theorem OD (l:List UInt8):TC 229 [aR l,aR [45]] (VB (isNeg l)):=by
 refine TC.walk ⟨true,false⟩ qN rfl (Nat.le_of_ble_eq_true rfl) rfl rfl ?_
 have e1:Ae (.string ⟨#[45]⟩)=some (.int .i64 1):=rfl
 by_cases h:(1:Int)≤(l.length:Int)
 ·have e2:=Jq l (b:=1) (by omega)
  have e2:tN (aR l) none (some (VI 1))=some (aR (l.take 1)):=e2
  have e3:cU .eql (.string ⟨(l.take 1).toArray⟩) (.string ⟨#[45]⟩)=some (.bool (decide (l.take 1=[45]))):=TJ (l.take 1) [45]
  have e4:isNeg l=decide (l.take 1=[45]):=by
   cases l with
   | nil=>exact absurd h (by decide)
   | cons c l=>rw[DZ];simp
  rw[e4]
  simp only[fY,fJ,bB,e1,ge_iff_le,h,e2,e3,VX,Nat.reduceEqDiff,Nat.reduceAdd]
  exact aI rfl
 ·have e4:isNeg l=false:=by unfold isNeg;rw[decide_eq_false (by omega)];rfl
  rw[e4]
  simp only[fY,fJ,bB,e1,ge_iff_le,h,VX,Nat.reduceEqDiff,Nat.reduceAdd]
  exact aI rfl
theorem NZ (l:List UInt8):TC 216 [aR l,aR [45]] (.dY [aR (if isNeg l then l.drop 1 else l),VB (isNeg l)]):=by
 refine TC.walk ⟨true,false⟩ qW rfl (Nat.le_of_ble_eq_true rfl) rfl rfl ?_
 have e0:=OD l
 have e1:Ae (.string ⟨#[45]⟩)=some (.int .i64 1):=rfl
 cases h:isNeg l with
 |
  true =>
  rw[h] at e0
  have hl:1≤l.length:=by
   cases l with
   | nil=>cases h
   | cons c l=>simp
  have e2:tN (aR l) (some (VI 1)) none=some (aR (l.drop 1)):=Ev l (a:=1) hl
  simp only[fW,fG,e0,e1,e2,VX,Nat.reduceEqDiff,Nat.reduceAdd]
  exact aI rfl
 |
  false =>
  rw[h] at e0
  simp only[fW,fG,e0,Bool.false_eq_true,if_false,VX,Nat.reduceEqDiff,Nat.reduceAdd]
  exact aI rfl
theorem Qf (l:List UInt8):TC 168 [aR l,aR [45]] (.dY [aR (if isNeg l then l.drop 1 else l),VB (isNeg l)]):=by
 refine TC.walk ⟨true,false⟩ Dh rfl (Nat.le_of_ble_eq_true rfl) rfl rfl ?_
 have e0:=NZ l
 simp only[yK,uL,e0,VX,Nat.reduceEqDiff,Nat.reduceAdd]
 exact aI rfl
theorem afL (l:List UInt8) (hl:l.length≤1000000000000):TC 215 [aR l,aR [47]] (.dY [aR (kS 47 l).1,aR ((kS 47 l).2.getD []),VB (kS 47 l).2.isSome]):=by
 refine TC.walk ⟨true,false⟩ xJ rfl (Nat.le_of_ble_eq_true rfl) rfl rfl ?_
 have e0:=acG l 47
 have e1:Ae (.string ⟨#[47]⟩)=some (.int .i64 1):=rfl
 cases h:(kS 47 l).2 with
 |
  none =>
  obtain⟨h1,h2,_⟩:=zM h
  rw[h1] at e0
  rw[h2]
  simp only[jO,iN,e0,ge_iff_le,Int.reduceNeg,Int.reduceLE,VX,Nat.reduceEqDiff,Nat.reduceAdd]
  exact aI rfl
 |
  some r =>
  obtain⟨h1,h2,_⟩:=Gt h
  rw[h1] at e0
  generalize (kS 47 l).1=a at *
  subst h2
  rw[List.length_append,List.length_cons] at hl
  have h0:(0:Int)≤(a.length:Int):=by omega
  have e2:=Jq (a++47::r) (b:=a.length) (by simp)
  have e3:=Ev (a++47::r) (a:=a.length+1) (by simp)
  rw[List.take_left] at e2
  have ed:(a++47::r).drop (a.length+1)=r:=by rw[List.drop_append];simp
  rw[ed] at e3
  have w:IntKind.i64.wrap ((a.length:Int)+1)=((a.length+1:Nat):Int):=wrapN _ (by omega) (by omega)
  simp only[jO,iN,e0,e1,ge_iff_le,h0,w,e2,e3,VX,Nat.reduceEqDiff,Nat.reduceAdd]
  exact aI rfl
theorem amV (l:List UInt8) (hl:l.length≤1000000000000):TC 167 [aR l,aR [47]] (.dY [aR (kS 47 l).1,aR ((kS 47 l).2.getD []),VB (kS 47 l).2.isSome]):=by
 refine TC.walk ⟨true,false⟩ Lk rfl (Nat.le_of_ble_eq_true rfl) rfl rfl ?_
 have e0:=afL l hl
 simp only[Hs,DF,e0,VX,Nat.reduceEqDiff,Nat.reduceAdd]
 exact aI rfl
def Av (l:List UInt8):VV:=if gB l=true then .dY [bE (bJ l),VB true] else .dY [bE 0,VB false]
theorem U6 (l:List UInt8):gH (Av l)=true:=by
 unfold Av
 split<;>simp[gH,qI,oY,jS]
theorem afT {d:Nat}:fz (d+1) [.row 0 [] 1 true] (.ref 0 0 0 0 0)=some (bE 0):=by
 rw[C6]
 cases d with
 | zero=>rfl
 | succ d=>rfl
theorem JL {n:Nat} (hn:n≤9) {lo:Nat} {H:aA} {ρ:cM} {Q:VQ} (h58:ρ 58=VI n) (h59:ρ 59=VI 0) (h9:ρ 9=VK .u64 1) (hQ:∀aU,(∀t,t<9→aU t=ρ t)→aU 9=VK .u64 ((10^n:Nat):Int)→Q .normal aU H):VW ⟨true,false⟩ lo (.loop pR) (yV 4 Q) ρ H:=by
 refine aN (fun(i:Nat) aU H'=>i≤n∧H'=H∧(∀t,t<9→aU t=ρ t)∧aU 58=VI n∧aU 59=VI i∧aU 9=VK .u64 ((10^i:Nat):Int)) (fun i=>n-i) 0 ⟨Nat.zero_le _,rfl,fun _ _=>rfl,h58,h59,h9⟩ ?_
 rintro i aU H' ⟨hi,rfl,hk,g58,g59,g9⟩
 by_cases cC:(i:Int)<(n:Int)
 ·have wi:IntKind.i64.wrap ((i:Int)+1)=((i+1:Nat):Int):=wrapN (i+1) (by omega) (by omega)
  have hp:10^i≤10^8:=Nat.pow_le_pow_right (by decide) (by omega)
  have e8:(10:Nat)^8=100000000:=by decide
  have wp:IntKind.u64.wrap (((10^i:Nat):Int)*10)=((10^(i+1):Nat):Int):=by
   rw[Nat.pow_succ]
   generalize 10^i=p at *
   have:=eO (p*10) (by omega)
   rw[Int.natCast_mul] at this
   rw[Int.natCast_mul]
   exact this
  simp only[pR,g58,g59,g9,cC,wi,wp,VX,Nat.reduceEqDiff,Nat.reduceAdd]
  refine⟨i+1,by omega,by omega,fun t ht => ?_,rfl,rfl⟩
  try simp only[tO]
  repeat rw[if_neg (by omega)]
  exact hk t ht
 ·have oU:i=n:=by omega
  subst oU
  simp only[pR,g58,g59,cC,VX,Nat.reduceEqDiff,Nat.reduceAdd]
  refine hQ _ (fun t ht => ?_) ?_
  ·try simp only[tO]
   repeat rw[if_neg (by omega)]
   exact hk t ht
  ·simp only[g9,VX,Nat.reduceEqDiff,Nat.reduceAdd]
theorem Zu {l:List UInt8} {i:Nat} (h:i<l.length):(l.take (i+1)).all gG=((l.take i).all gG&&gG (l.getD i 0)):=by
 rw[List.take_add_one,List.all_append]
 have:l[i]? = some (l.getD i 0):=by rw[List.getElem?_eq_getElem h,List.getD_eq_getElem?_getD,List.getElem?_eq_getElem h];rfl
 rw[this]
 simp
theorem Ko {l:List UInt8} (hl:l.length≤1000000000000) {lo:Nat} {H:aA} {ρ:cM} {Q:VQ} (h0:ρ 0=aR l) (h29:ρ 29=VI l.length) (h30:ρ 30=VI 0)
  (hR:l.all gG=false→∀aU:cM,aU 2 = .tree [] .nil→aU 3=VB false→Q .ret aU H) (hN:l.all gG=true→∀aU:cM,(∀t,t<5→aU t=ρ t)→Q .normal aU H):VW ⟨true,false⟩ lo (.loop iY) (yV 0 Q) ρ H:=by
 refine aN (fun(i:Nat) aU H'=>i≤l.length∧H'=H∧(l.take i).all gG=true∧(∀t,t<5→aU t=ρ t)∧aU 29=VI l.length∧aU 30=VI i) (fun i=>l.length-i) 0 ⟨Nat.zero_le _,rfl,rfl,fun _ _=>rfl,h29,h30⟩ ?_
 rintro i aU H' ⟨hi,rfl,hd,hk,g29,g30⟩
 have g0:=(hk 0 (by decide)).trans h0
 by_cases cC:(i:Int)<(l.length:Int)
 ·have Sj:i<l.length:=by omega
  have e1:=CL l Sj
  have wi:IntKind.i64.wrap ((i:Int)+1)=((i+1:Nat):Int):=wrapN (i+1) (by omega) (by omega)
  have ht:=Zu Sj
  rw[hd,Bool.true_and] at ht
  have RM:gG (l.getD i 0)=(decide (48≤(l.getD i 0).toNat)&&decide ((l.getD i 0).toNat≤57)):=rfl
  have kB:gG (l.getD i 0)=false→l.all gG=false:=by
   intro h
   rw[h] at ht
   rw[←List.take_append_drop (i+1) l,List.all_append,ht,Bool.false_and]
  generalize (l.getD i 0).toNat=c at *
  by_cases q1:(c:Int)<48
  ·have:=kB (by rw[RM,decide_eq_false (by omega)];rfl)
   simp only[iY,g0,g29,g30,cC,e1,q1,VX,Nat.reduceEqDiff,Nat.reduceAdd]
   exact hR this _ (by simp only[VX,Nat.reduceEqDiff,Nat.reduceAdd]) (by simp only[VX,Nat.reduceEqDiff,Nat.reduceAdd])
  ·by_cases q2:(57:Int)<(c:Int)
   ·have:=kB (by rw[RM,decide_eq_false (show ¬c≤57 by omega),Bool.and_false])
    simp only[iY,g0,g29,g30,cC,e1,q1,q2,VX,Nat.reduceEqDiff,Nat.reduceAdd]
    exact hR this _ (by simp only[VX,Nat.reduceEqDiff,Nat.reduceAdd]) (by simp only[VX,Nat.reduceEqDiff,Nat.reduceAdd])
   ·rw[RM,decide_eq_true (by omega),decide_eq_true (by omega),Bool.and_self] at ht
    simp only[iY,g0,g29,g30,cC,e1,q1,q2,wi,VX,Nat.reduceEqDiff,Nat.reduceAdd]
    refine⟨i+1,by omega,by omega,ht,fun t ht => ?_,rfl⟩
    try simp only[tO]
    repeat rw[if_neg (by omega)]
    exact hk t ht
 ·have oU:i=l.length:=by omega
  subst oU
  rw[List.take_length] at hd
  simp only[iY,g29,g30,cC,VX,Nat.reduceEqDiff,Nat.reduceAdd]
  refine hN hd _ fun t ht => ?_
  try simp only[tO]
  repeat rw[if_neg (by omega)]
  exact hk t ht
set_option maxHeartbeats 2000000 in
theorem JM {l:List UInt8} (hd:l.all gG=true) (hl:l.length≤200) (eW:l≠[]) {ρ:cM} {Q:VQ} (h0:ρ 0=aR l) (h4:ρ 4 = .ref 0 0 0 0 0)
  (hQ:∀(aU:cM),aU 4=bE (bJ l)→Q .normal aU [.row 0 [] 1 false]):VW ⟨true,false⟩ 0 (.loop lP) (yV 2 Q) ρ [.row 0 [] 1 true]:=by
 refine aN (fun(s:List UInt8×List UInt8) aU H'=>l=s.1++s.2∧aU 0=aR s.2∧((H'=[.row 0 [] 1 true]∧aU 4 = .ref 0 0 0 0 0∧s.1=[])∨(H'=[.row 0 [] 1 false]∧aU 4=bE (bJ s.1)))) (fun s=>s.2.length) ([],l) ⟨rfl,h0,.inl ⟨rfl,h4,rfl⟩⟩ ?_
 rintro⟨pre,rest⟩ aU H' ⟨QJ,g0,hv⟩
 simp only at QJ g0 hv
 have e1:=HO rest
 by_cases he:rest=[]
 ·subst he
  rw[List.append_nil] at QJ
  subst QJ
  rcases hv with⟨_,_,h⟩ | ⟨rfl,g4⟩
  ·exact absurd h eW
  have Uf:cU .neq (.string ⟨#[]⟩) (.string ⟨#[]⟩)=some (.bool false):=by
   have:=HO []
   rw[decide_eq_true rfl] at this
   exact this
  simp only[lP,g0,Uf,VX,Nat.reduceEqDiff,Nat.reduceAdd]
  exact hQ _ (by simp only[g4,VX,Nat.reduceEqDiff,Nat.reduceAdd])
 ·rw[QJ,List.all_append,Bool.and_eq_true] at hd
  obtain⟨hd1,hd2⟩:=hd
  rw[QJ,List.length_append] at hl
  have iU:0<rest.length:=List.length_pos_iff.2 he
  have Uf:cU .neq (.string ⟨rest.toArray⟩) (.string ⟨#[]⟩)=some (.bool true):=by rw[e1,decide_eq_false he];rfl
  have wm:(rest.length:Int).tmod 9=((rest.length % 9:Nat):Int):=by rw[Int.tmod_eq_emod_of_nonneg (by omega)];simp
  have er:cU .rem (.int .i64 (rest.length:Int)) (.int .i64 9)=some (.int .i64 ((rest.length % 9:Nat):Int)):=by
   rw[←wm]
   rfl
  obtain⟨n,hn⟩:∃n,n=if rest.length % 9=0 then 9 else rest.length % 9:=⟨_,rfl⟩
  have hn1:1≤n∧n≤9∧n≤rest.length:=by
   rw[hn]
   split<;>omega
  obtain⟨n1,n9,nl⟩:=hn1
  have e2:=Jq rest nl
  have e3:=Ev rest nl
  have hch:(rest.take n).length=n:=by rw[List.length_take];omega
  have hcd:(rest.take n).all gG=true:=by
   rw[←List.take_append_drop n rest,List.all_append,Bool.and_eq_true] at hd2
   exact hd2.1
  have hp:=abU (rest.take n) (bJ (rest.take n)) (by omega) (agC hcd (fun h=>by rw[h] at hch;simp at hch;omega) (by omega))
  have DS:=Fp hcd
  rw[hch] at DS
  have hp9:10^n≤10^9:=Nat.pow_le_pow_right (by decide) n9
  have e9:(10:Nat)^9=1000000000:=by decide
  have axP:bJ (rest.take n)<1000000000:=by omega
  have c1:=lG (10^n) (by omega)
  have c2:=lG (bJ (rest.take n)) (by omega)
  have hbp:bl (bJ pre)≤665:=by
   refine Fe (Nat.lt_of_lt_of_le (Fp hd1) ?_)
   exact Nat.le_trans (Nat.pow_le_pow_right (by decide) (by omega:pre.length≤200)) (by decide +kernel)
  have hb9:bl (10^n)≤64:=Fe (by omega)
  have hbm:=qQ (bJ pre) (10^n)
  have hbc:bl (bJ (rest.take n))≤64:=Fe (by omega)
  have tm:=kL (bJ pre) (10^n) (fM (by omega)) (fM (by omega))
  have c4:=Co (bJ pre*10^n) (bJ (rest.take n)) (fM (by omega)) (fM (by omega))
  have sT:bJ pre*10^n+bJ (rest.take n)=bJ (pre++rest.take n):=by rw[Jh,hch]
  rw[sT] at c4
  have fin:(rest.drop n).length<rest.length∧pre++rest=(pre++rest.take n)++rest.drop n:=⟨by rw[List.length_drop];omega,by rw[List.append_assoc,List.take_append_drop]⟩
  obtain⟨v4,g4,c3⟩:∃v4,aU 4=v4∧∀lo K,cB 180 [v4,bE (10^n)] lo H' K=K (bE (bJ pre*10^n)) [.row 0 [] 1 false]:=by
   rcases hv with⟨rfl,g4,hp0⟩ | ⟨rfl,g4⟩
   ·refine⟨_,g4,fun lo K => ?_⟩
    subst hp0
    have:=tm.Fi (H:=[.row 0 [] 1 true]) (args:=[.ref 0 0 0 0 0,bE (10^n)]) (lo:=lo) (k:=K) rfl (by simp[aL,bH]) (WA afT (aH (bH _))) rfl
    rw[this,show J5 (bE (bJ []*10^n))=false from rfl,if_neg (by decide),List.flatMap_cons,List.flatMap_cons,List.flatMap_nil,D9 (bH _),Mb (n:=0) (c:=0) (es:=[]) (e:=1) (w:=true) bG rfl rfl]
    rfl
   ·exact⟨_,g4,fun lo K=>tm lo [.row 0 [] 1 false] K⟩
  clear hv
  obtain⟨P,hP⟩:∃P,P=10^n:=⟨_,rfl⟩
  rw[←hP] at c1 c4 c3
  have hnI:(rest.length % 9:Nat)=0∨¬(rest.length % 9:Nat)=0:=by omega
  rcases hnI with h9 | h9
  ·rw[if_pos h9] at hn
   subst hn
   have q:((rest.length % 9:Nat):Int)=0:=by omega
   have e2':tN (aR rest) none (some (VI 9))=some (aR (rest.take 9)):=e2
   have e3':tN (aR rest) (some (VI 9)) none=some (aR (rest.drop 9)):=e3
   simp only[lP,g0,g4,Uf,bB,er,q,e2',hp,VX,Nat.reduceEqDiff,Nat.reduceAdd]
   refine JL (n:=9) (by decide) ?_ ?_ ?_ fun vI k1 q9 => ?_
   ·simp only[VX,Nat.reduceEqDiff,Nat.reduceAdd];rfl
   ·simp only[VX,Nat.reduceEqDiff,Nat.reduceAdd]
   ·simp only[VX,Nat.reduceEqDiff,Nat.reduceAdd]
   rw[←hP] at q9
   have u0:vI 0=aR rest:=by rw[k1 0 (by decide)];simp only[g0,VX,Nat.reduceEqDiff,Nat.reduceAdd]
   have u4:vI 4=v4:=by rw[k1 4 (by decide)];simp only[g4,VX,Nat.reduceEqDiff,Nat.reduceAdd]
   have u6:vI 6=VI 9:=by rw[k1 6 (by decide)];simp only[VX,Nat.reduceEqDiff,Nat.reduceAdd]
   have u7:vI 7=VK .u64 (bJ (rest.take 9)):=by rw[k1 7 (by decide)];simp only[VX,Nat.reduceEqDiff,Nat.reduceAdd]
   simp only[u0,u4,u6,u7,q9,c1,c2,c3,c4,e3',VX,Nat.reduceEqDiff,Nat.reduceAdd]
   exact⟨(pre++rest.take 9,rest.drop 9),fin.1,QJ.trans fin.2,rfl,.inr rfl⟩
  ·rw[if_neg h9] at hn
   rw[←hn] at er
   have q:¬(n:Int)=0:=by omega
   simp only[lP,g0,g4,Uf,bB,er,q,e2,hp,VX,Nat.reduceEqDiff,Nat.reduceAdd]
   refine JL (n:=n) n9 ?_ ?_ ?_ fun vI k1 q9 => ?_
   ·simp only[VX,Nat.reduceEqDiff,Nat.reduceAdd]
   ·simp only[VX,Nat.reduceEqDiff,Nat.reduceAdd]
   ·simp only[VX,Nat.reduceEqDiff,Nat.reduceAdd]
   rw[←hP] at q9
   have u0:vI 0=aR rest:=by rw[k1 0 (by decide)];simp only[g0,VX,Nat.reduceEqDiff,Nat.reduceAdd]
   have u4:vI 4=v4:=by rw[k1 4 (by decide)];simp only[g4,VX,Nat.reduceEqDiff,Nat.reduceAdd]
   have u6:vI 6=VI n:=by rw[k1 6 (by decide)];simp only[VX,Nat.reduceEqDiff,Nat.reduceAdd]
   have u7:vI 7=VK .u64 (bJ (rest.take n)):=by rw[k1 7 (by decide)];simp only[VX,Nat.reduceEqDiff,Nat.reduceAdd]
   simp only[u0,u4,u6,u7,q9,c1,c2,c3,c4,e3,VX,Nat.reduceEqDiff,Nat.reduceAdd]
   exact⟨(pre++rest.take n,rest.drop n),fin.1,QJ.trans fin.2,rfl,.inr rfl⟩
set_option maxHeartbeats 2000000 in
theorem Ce (l:List UInt8) (hl:l.length≤1000000000000):TC 169 [aR l] (Av l):=by
 refine TC.walk ⟨true,false⟩ JG rfl (Nat.le_of_ble_eq_true rfl) rfl (U6 l) ?_
 have e1:=PY l
 by_cases he:l=[]
 ·have hk:gB l=false:=by rw[he];rfl
  have Uf:cU .eql (.string ⟨l.toArray⟩) (.string ⟨#[]⟩)=some (.bool true):=by rw[e1,decide_eq_true he]
  unfold Av
  rw[hk]
  simp only[oF,kP,Uf,Bool.false_eq_true,if_false,VX,Nat.reduceEqDiff,Nat.reduceAdd]
  exact bF (d:=6) uT (aH (v:=VB false) rfl)
 have iU:0<l.length:=List.length_pos_iff.2 he
 by_cases ZU:(200:Int)<(l.length:Int)
 ·have hk:gB l=false:=by
   cases h:gB l with
   | false=>rfl
   | true=>have:=(iI.1 h).2.2.1;omega
  unfold Av
  rw[hk]
  simp only[oF,kP,e1,he,decide_false,bB,ZU,Bool.false_eq_true,if_false,VX,Nat.reduceEqDiff,Nat.reduceAdd]
  exact bF (d:=6) uT (aH (v:=VB false) rfl)
 have e2:=GZ l iU
 by_cases hz:(((l.getD 0 0).toNat:Int)=48∧1<(l.length:Int))
 ·obtain⟨Gr,Q0⟩:=hz
  have hk:gB l=false:=by
   cases h:gB l with
   | false=>rfl
   |
    true =>
    rcases(iI.1 h).2.2.2 with h1 | h1
    ·omega
    ·exact absurd (UInt8.toNat_inj.1 (by rw[show (48:UInt8).toNat=48 from rfl];omega)) h1
  unfold Av
  rw[hk]
  simp only[oF,kP,e1,he,decide_false,bB,ZU,e2,Gr,Q0,Bool.false_eq_true,if_false,VX,Nat.reduceEqDiff,Nat.reduceAdd]
  exact bF (d:=6) uT (aH (v:=VB false) rfl)
 have ajK:l.length=1∨l.getD 0 0≠48:=by
  by_cases h1:l.length=1
  ·exact .inl h1
  ·right
   intro h2
   apply hz
   rw[h2]
   exact⟨rfl,by omega⟩
 have e3:∀lr,mV lr [.int .u32 0] 0 [] []=some (.ref 0 0 0 0 0,[.row 0 [] 1 true]):=fun lr=>jJ (H:=[]) (lr:=lr) (z:=[.int .u32 0]) rfl
 have kN:l.all gG=true→gB l=true:=fun h=>iI.2 ⟨h,iU,by omega,ajK⟩
 have kF:l.all gG=false→gB l=false:=fun h=>by unfold gB;rw[h];rfl
 have rF:gB l=false→Av l = .dY [bE 0,VB false]:=fun h=>by unfold Av;rw[h];rfl
 have rT:gB l=true→Av l = .dY [bE (bJ l),VB true]:=fun h=>if_pos h
 by_cases hA:(((l.getD 0 0).toNat:Int)=48)
 ·have hB:¬1<(l.length:Int):=fun h=>hz ⟨hA,h⟩
  simp only[oF,kP,e1,e3,he,decide_false,bB,ZU,e2,hA,hB,Bool.false_eq_true,if_false,VX,Nat.reduceEqDiff,Nat.reduceAdd]
  refine Ko hl ?_ ?_ ?_ (fun hd vI g2 g3 => ?_) fun hd vI k1 => ?_
  ·simp only[VX,Nat.reduceEqDiff,Nat.reduceAdd]
  ·simp only[VX,Nat.reduceEqDiff,Nat.reduceAdd]
  ·simp only[VX,Nat.reduceEqDiff,Nat.reduceAdd]
  ·rw[rF (kF hd)]
   simp only[g2,g3,VX,Nat.reduceEqDiff,Nat.reduceAdd]
   exact bF (d:=6) uT (aH (v:=VB false) rfl)
  ·rw[rT (kN hd)]
   simp only[VX,Nat.reduceEqDiff,Nat.reduceAdd]
   refine JM hd (by omega) he ?_ ?_ fun Mm g4 => ?_
   ·rw[k1 0 (by decide)];simp only[VX,Nat.reduceEqDiff,Nat.reduceAdd]
   ·rw[k1 4 (by decide)];simp only[VX,Nat.reduceEqDiff,Nat.reduceAdd]
   ·simp only[g4,VX,Nat.reduceEqDiff,Nat.reduceAdd]
    exact bF (d:=6) (aH (bH _)) (aH (v:=VB true) rfl)
 ·simp only[oF,kP,e1,e3,he,decide_false,bB,ZU,e2,hA,Bool.false_eq_true,if_false,VX,Nat.reduceEqDiff,Nat.reduceAdd]
  refine Ko hl ?_ ?_ ?_ (fun hd vI g2 g3 => ?_) fun hd vI k1 => ?_
  ·simp only[VX,Nat.reduceEqDiff,Nat.reduceAdd]
  ·simp only[VX,Nat.reduceEqDiff,Nat.reduceAdd]
  ·simp only[VX,Nat.reduceEqDiff,Nat.reduceAdd]
  ·rw[rF (kF hd)]
   simp only[g2,g3,VX,Nat.reduceEqDiff,Nat.reduceAdd]
   exact bF (d:=6) uT (aH (v:=VB false) rfl)
  ·rw[rT (kN hd)]
   simp only[VX,Nat.reduceEqDiff,Nat.reduceAdd]
   refine JM hd (by omega) he ?_ ?_ fun Mm g4 => ?_
   ·rw[k1 0 (by decide)];simp only[VX,Nat.reduceEqDiff,Nat.reduceAdd]
   ·rw[k1 4 (by decide)];simp only[VX,Nat.reduceEqDiff,Nat.reduceAdd]
   ·simp only[g4,VX,Nat.reduceEqDiff,Nat.reduceAdd]
    exact bF (d:=6) (aH (bH _)) (aH (v:=VB true) rfl)
def JV:VV := .agg [VB false,bE 0,bE 0]
def CF (l:List UInt8):VV:=match vW l with
 | some q => .dY [bR q,VB true]
 | none => .dY [JV,VB false]
theorem QA:gH JV=true:=by simp[JV,gH,qI,oY,jS]
theorem SD (l:List UInt8):gH (CF l)=true:=by
 unfold CF
 split<;>simp[gH,qI,CJ,QA,jS]
theorem fK {d:Nat} {H:aA}:fz (d+2) H (.agg [VB false,.tree [] .nil,.tree [] .nil])=some JV:=pN (aH (v:=VB false) rfl) uT uT
theorem JB {neg:Bool} {t b:Nat} (hb:b≠0) (hg:Nat.gcd t b=1) (hn:¬(neg=true∧t=0)):bR (mkRat (oO neg t) b) = .agg [VB neg,bE t,bE b]:=by
 obtain⟨e1,e2⟩:=Hw (neg:=neg) hb hg
 refine IY ?_ (by rw[e1,xQ]) e2
 rw[e1]
 cases neg with
 | false=>unfold oO;simp
 |
  true =>
  have:t≠0:=fun h=>hn ⟨rfl,h⟩
  unfold oO
  simp
  omega
theorem RQ (l:List UInt8):vW l=nJ (isNeg (kS 47 l).1) (if isNeg (kS 47 l).1 then (kS 47 l).1.drop 1 else (kS 47 l).1) (kS 47 l).2:=by
 cases l with
 | nil=>rfl
 |
  cons c r =>
  unfold vW
  by_cases h47:c=47
  ·subst h47
   rfl
  ·have e:kS 47 (c::r)=(c::(kS 47 r).1,(kS 47 r).2):=by rw[kS,if_neg h47]
   by_cases h45:c=45
   ·subst h45
    rw[e]
    rfl
   ·rw[e,DZ,DZ,decide_eq_false h45]
    simp only[Bool.false_eq_true,if_false,e]
theorem OO {c:UInt8}:∀ {l:List UInt8},(kS c l).1.length≤l.length∧∀t,(kS c l).2=some t→t.length≤l.length:=by
 intro l
 cases h:(kS c l).2 with
 | none=>rw[(zM h).2.1];exact⟨Nat.le_refl _,fun t ht=>by cases ht⟩
 |
  some r =>
  have:=congrArg List.length (Gt h).2.1
  rw[List.length_append,List.length_cons] at this
  exact⟨by omega,fun t ht=>by cases ht;omega⟩
theorem Mh {n:Nat}:(((aC 4294967296 n).length:Nat):Int)=0↔n=0:=by
 rw[←kK (b:=4294967296) (n:=n) (by decide),←List.length_eq_zero_iff]
 omega
set_option maxRecDepth 100000 in
set_option maxHeartbeats 4000000 in
theorem Kj (l:List UInt8) (hl:l.length≤1000000000000):TC 89 [aR l] (CF l):=by
 refine TC.walk ⟨true,false⟩ JT rfl (Nat.le_of_ble_eq_true rfl) rfl (SD l) ?_
 have e1:=amV l hl
 obtain⟨l1,l2⟩:=OO (c:=47) (l:=l)
 have hq:=RQ l
 unfold CF
 rw[hq]
 clear hq
 generalize (kS 47 l).1=f at *
 generalize (kS 47 l).2=s2 at *
 have e2:=Qf f
 have ld:(if isNeg f=true then f.drop 1 else f).length≤f.length:=by split<;>simp
 generalize (if isNeg f=true then f.drop 1 else f)=d at *
 generalize isNeg f=neg at *
 have e3:=Ce d (by omega)
 have c1:TC 101 [.sc (.int .u64 1)] (bE 1):=lG 1 (by decide)
 cases hd:gB d with
 |
  false =>
  have hp:nJ neg d s2=none:=if_pos (.inl hd)
  rw[hp]
  unfold Av at e3
  rw[hd,if_neg (by decide)] at e3
  simp only[dP,cP,e1,e2,e3,aG,jX,Nat.reduceLeDiff,Nat.reduceLT,Nat.reduceSub,VX,Nat.reduceEqDiff,Nat.reduceAdd]
  exact bF (d:=6) fK (aH (v:=VB false) rfl)
 |
  true =>
  unfold Av at e3
  rw[hd,if_pos rfl] at e3
  by_cases hz:neg=true∧bJ d=0
  ·have hp:nJ neg d s2=none:=if_pos (.inr hz)
   rw[hp]
   obtain⟨rfl,Dm⟩:=hz
   rw[Dm] at e3
   have zF:(((aC 4294967296 0).length:Nat):Int)=0:=Mh.2 rfl
   simp only[dP,cP,e1,e2,e3,dI,zF,aG,jX,Nat.reduceLeDiff,Nat.reduceLT,Nat.reduceSub,VX,Nat.reduceEqDiff,Nat.reduceAdd]
   exact bF (d:=6) fK (aH (v:=VB false) rfl)
  ·have hbt:=vX hd
   have zF:neg=true→¬(((aC 4294967296 (bJ d)).length:Nat):Int)=0:=fun h h0=>hz ⟨h,Mh.1 h0⟩
   cases s2 with
   |
    none =>
    have hp:nJ neg d none=some (mkRat (oO neg (bJ d)) 1):=if_neg (by rw[hd];rintro(h | h);exact absurd h (by decide);exact hz h)
    rw[hp]
    simp only[]
    rw[JB (by decide) (Nat.gcd_one_right _) hz]
    cases neg with
    |
     false =>
     simp only[dP,cP,e1,e2,e3,c1,Option.isSome_none,Option.getD_none,aG,aX,aY,aP,jX,Nat.reduceLeDiff,Nat.reduceLT,Nat.reduceSub,VX,Nat.reduceEqDiff,Nat.reduceAdd]
     exact bF (d:=6) (pN (aH (v:=VB false) rfl) (aH (bH _)) (aH (bH _))) (aH (v:=VB true) rfl)
    |
     true =>
     have zF:=zF rfl
     simp only[dP,cP,e1,e2,e3,c1,dI,zF,Option.isSome_none,Option.getD_none,aG,aX,aY,aP,jX,Nat.reduceLeDiff,Nat.reduceLT,Nat.reduceSub,VX,Nat.reduceEqDiff,Nat.reduceAdd]
     exact bF (d:=6) (pN (aH (v:=VB true) rfl) (aH (bH _)) (aH (bH _))) (aH (v:=VB true) rfl)
   |
    some t =>
    have e4:=Ce t (by have:=l2 t rfl;omega)
    have hp:nJ neg d (some t)=if gB t=true∧1<bJ t∧Nat.gcd (bJ d) (bJ t)=1 then some (mkRat (oO neg (bJ d)) (bJ t)) else none:=if_neg (by rw[hd];rintro(h | h);exact absurd h (by decide);exact hz h)
    rw[hp]
    cases ht:gB t with
    |
     false =>
     rw[if_neg (fun h=>absurd h.1 (by decide))]
     unfold Av at e4
     rw[ht,if_neg (by decide)] at e4
     cases neg with
     |
      false =>
      simp only[dP,cP,e1,e2,e3,e4,c1,Option.isSome_some,Option.getD_some,aG,aX,aY,aP,jX,Nat.reduceLeDiff,Nat.reduceLT,Nat.reduceSub,VX,Nat.reduceEqDiff,Nat.reduceAdd]
      exact bF (d:=6) fK (aH (v:=VB false) rfl)
     |
      true =>
      have zF:=zF rfl
      simp only[dP,cP,e1,e2,e3,e4,c1,dI,zF,Option.isSome_some,Option.getD_some,aG,aX,aY,aP,jX,Nat.reduceLeDiff,Nat.reduceLT,Nat.reduceSub,VX,Nat.reduceEqDiff,Nat.reduceAdd]
      exact bF (d:=6) fK (aH (v:=VB false) rfl)
    |
     true =>
     have KM:=vX ht
     unfold Av at e4
     rw[ht,if_pos rfl] at e4
     have c2:=iO (bJ t) 1 (fM (by omega)) (fM (Nat.le_trans (Fe (n:=1) (k:=1) (by decide)) (by decide)))
     have c3:=BW (bJ d) (bJ t) (fM (by omega)) (fM (by omega))
     by_cases h1:eH (bJ t) 1≤0
     ·have hle:¬1<bJ t:=fun h=>by unfold eH at h1;rw[if_neg (by omega),if_neg (by omega)] at h1;exact absurd h1 (by decide)
      rw[if_neg (fun h=>hle h.2.1)]
      cases neg with
      |
       false =>
       simp only[dP,cP,e1,e2,e3,e4,c1,c2,h1,Option.isSome_some,Option.getD_some,aG,aX,aY,aP,jX,Nat.reduceLeDiff,Nat.reduceLT,Nat.reduceSub,VX,Nat.reduceEqDiff,Nat.reduceAdd]
       exact bF (d:=6) fK (aH (v:=VB false) rfl)
      |
       true =>
       have zF:=zF rfl
       simp only[dP,cP,e1,e2,e3,e4,c1,c2,h1,dI,zF,Option.isSome_some,Option.getD_some,aG,aX,aY,aP,jX,Nat.reduceLeDiff,Nat.reduceLT,Nat.reduceSub,VX,Nat.reduceEqDiff,Nat.reduceAdd]
       exact bF (d:=6) fK (aH (v:=VB false) rfl)
     ·have aV:1<bJ t:=by
       rcases Nat.lt_or_ge 1 (bJ t) with h | h
       ·exact h
       ·exfalso
        apply h1
        unfold eH
        split
        ·decide
        ·rw[if_pos (by omega)];decide
      have XV:bl (Nat.gcd (bJ d) (bJ t))≤665:=Nat.le_trans (oG (Nat.le_of_dvd (by omega) (Nat.gcd_dvd_right _ _))) KM
      have c4:=iO (Nat.gcd (bJ d) (bJ t)) 1 (fM (by omega)) (fM (Nat.le_trans (Fe (n:=1) (k:=1) (by decide)) (by decide)))
      by_cases hg:Nat.gcd (bJ d) (bJ t)=1
      ·have h4:eH (Nat.gcd (bJ d) (bJ t)) 1=0:=by rw[hg];rfl
       rw[if_pos ⟨rfl,aV,hg⟩]
       simp only[]
       rw[JB (by omega) hg hz]
       cases neg with
       |
        false =>
        simp only[dP,cP,e1,e2,e3,e4,c1,c2,c3,c4,h1,h4,Option.isSome_some,Option.getD_some,aG,aX,aY,aP,jX,Nat.reduceLeDiff,Nat.reduceLT,Nat.reduceSub,VX,Nat.reduceEqDiff,Nat.reduceAdd]
        exact bF (d:=6) (pN (aH (v:=VB false) rfl) (aH (bH _)) (aH (bH _))) (aH (v:=VB true) rfl)
       |
        true =>
        have zF:=zF rfl
        simp only[dP,cP,e1,e2,e3,e4,c1,c2,c3,c4,h1,h4,dI,zF,Option.isSome_some,Option.getD_some,aG,aX,aY,aP,jX,Nat.reduceLeDiff,Nat.reduceLT,Nat.reduceSub,VX,Nat.reduceEqDiff,Nat.reduceAdd]
        exact bF (d:=6) (pN (aH (v:=VB true) rfl) (aH (bH _)) (aH (bH _))) (aH (v:=VB true) rfl)
      ·have h4:¬eH (Nat.gcd (bJ d) (bJ t)) 1=0:=by
        unfold eH
        split<;>(try split)<;>first | decide | omega
       rw[if_neg (fun h=>hg h.2.2)]
       cases neg with
       |
        false =>
        simp only[dP,cP,e1,e2,e3,e4,c1,c2,c3,c4,h1,h4,Option.isSome_some,Option.getD_some,aG,aX,aY,aP,jX,Nat.reduceLeDiff,Nat.reduceLT,Nat.reduceSub,VX,Nat.reduceEqDiff,Nat.reduceAdd]
        exact bF (d:=6) fK (aH (v:=VB false) rfl)
       |
        true =>
        have zF:=zF rfl
        simp only[dP,cP,e1,e2,e3,e4,c1,c2,c3,c4,h1,h4,dI,zF,Option.isSome_some,Option.getD_some,aG,aX,aY,aP,jX,Nat.reduceLeDiff,Nat.reduceLT,Nat.reduceSub,VX,Nat.reduceEqDiff,Nat.reduceAdd]
        exact bF (d:=6) fK (aH (v:=VB false) rfl)
end Go.PM
namespace Go.PM
open Go.Lib
theorem Pm {l:List UInt8} {q:Rat} (h:vW l=some q):CF l = .dY [bR q,VB true]:=by unfold CF;rw[h]
theorem Qa {l:List UInt8} (h:vW l=none):CF l = .dY [JV,VB false]:=by unfold CF;rw[h]
theorem Hy:aB JV=[VB false,bE 0,bE 0]:=rfl
theorem Ja:isAny JV=false:=rfl
theorem PG:dW true 3 JV 0=some JV:=rfl
end Go.PM
namespace Go.PM
open Go.Lib
end Go.PM