/- Texts of a claim, in one: part 10. -/
import Derived.Test.YtodamlihdkalfaaGreatDoorKQi
set_option linter.unusedSimpArgs false
set_option linter.unusedVariables false
namespace Go.PM
abbrev tV (d:Nat):VV:=VI (d:Int)
abbrev gA (ds:List Nat):VV:=bT tV ds
def bP (n:Nat):VV:=gA (aC 1000000000 n)
theorem Dh:∀d:Nat,(aA (tV d)).length=1:=fun _=>rfl
theorem vF (ds:List Nat):aW (gA ds)=true:=jC Dh fun _=>rfl
theorem SV (ds:List Nat):gH (gA ds)=true:=Bx Dh (fun _=>rfl) fun _=>rfl
theorem bU (n:Nat):aW (bP n)=true:=vF _
theorem lE (n:Nat):gH (bP n)=true:=SV _
theorem E6:bP 0 = .tree [] .op:=by rw[bP,bR];rfl
theorem UM:bP 1=gA [1]:=by rw[bP,iB (by decide) (by decide),bR]
theorem cI (n:Nat) {H:aB}:pF (bP n) H=some (VI (aC 1000000000 n).length):=dZ
section
variable {α:Type} {f:α→VV} {xs:List α} {x:α} {H:aB}
theorem Hw {g e:Nat} {es:List VV} {w:Bool}:aV [.row g es e w] 0 g=some (es,e,w):=cE
theorem ajR {e bytes:Nat} (he:1≤e) (hb:1≤bytes) (BH:(xs.length+1)*bytes≤140737488355328):gF 0 e bytes (.ref 0 xs.length 0 xs.length xs.length) [f x] [.row xs.length (xs.map f) e true]=some (.ref 0 (xs.length+1) 0 (xs.length+1) (xs.length+1),[.row (xs.length+1) ((xs++[x]).map f) e true]):=by
 rw[oW (f:=f) (x:=x) cE rfl (Nat.le_refl _) he hb BH]
 rfl
theorem Po {n g e:Nat} {w:Bool} (hp:∀x,aW (f x)=true) (hn:n=xs.length):fz depth [.row g (xs.map f) e w] (.ref 0 g 0 n n)=some (bT f xs):=Dv cE (by simpa using hn) (Nat.le_refl _) (dW hp)
end
theorem HZ {lr:Bool}:qY lr [.int .i64 0] 0 [] []=some (.ref 0 0 0 0 0,[.row 0 (([]:List Nat).map tV) 1 true]):=nS (H:=[]) rfl
theorem qA {d:Int} {H:aB}:qY false [.int .i64 0] 1 [(0,VI d)] H=some (.tree [VI d] (.cl 1),H):=sE rfl rfl rfl
theorem sI {d:Int} {H:aB} {t:TK}:eY 1 (.tree [VI d] t) H=some [VI d]:=pC rfl rfl
theorem Yf {ds:List Nat} {d:Nat} (h:ds.length<17592186044416):gF 0 1 8 (.ref 0 ds.length 0 ds.length ds.length) [VI (d:Int)] [.row ds.length (ds.map tV) 1 true]=some (.ref 0 (ds.length+1) 0 (ds.length+1) (ds.length+1),[.row (ds.length+1) ((ds++[d]).map tV) 1 true]):=ajR (f:=tV) (by decide) (by decide) (by omega)
theorem Kz (n:Nat):cU .rem (.int .i64 (n:Int)) (.int .i64 1000000000)=some (.int .i64 ((n % 1000000000:Nat):Int)):=by
 have h2:(n:Int).tmod 1000000000=((n % 1000000000:Nat):Int):=by rw[Int.tmod_eq_emod_of_nonneg (by omega)];simp
 simp only[cU,if_true,h2]
 rfl
theorem Kf (n:Nat) (h:n≤9223372036854775807):cU .quo (.int .i64 (n:Int)) (.int .i64 1000000000)=some (.int .i64 ((n / 1000000000:Nat):Int)):=by
 have h2:(n:Int).tdiv 1000000000=((n / 1000000000:Nat):Int):=by rw[Int.tdiv_eq_ediv_of_nonneg (by omega)];simp
 simp only[cU,if_true,h2]
 rw[wrap64 (by omega) (by omega)]
 rfl
theorem pJ (ds:List Nat) (h:∀d∈ds,d<1000000000) (hlen:ds.length≤70368744177664):TC 211 [gA ds] (bP (val 1000000000 ds)):=by
 refine TC.walk ⟨true,false⟩ H9 rfl (Nat.le_of_ble_eq_true rfl) (by simp[aK,vF]) (lE _) ?_
 simp only[Eb,Bi,VX,Nat.reduceEqDiff,Nat.reduceAdd]
 refine bB (fun(xs:List Nat) ρ H'=>(∀d∈xs,d<1000000000)∧val 1000000000 xs=val 1000000000 ds∧xs.length≤ds.length∧H'=[]∧ρ 0=gA xs) (fun s=>s.length) ds ⟨h,rfl,Nat.le_refl _,rfl,rfl⟩ ?_
 rintro xs ρ H' ⟨hx,hv,hl,rfl,h0⟩
 have done:xs.getLast? ≠ some 0→fz depth [] (gA xs)=some (bP (val 1000000000 ds)):=fun eW=>by rw[bP,←hv,Jj (by decide) hx eW];exact aH (vF _)
 rcases Nat.eq_zero_or_pos xs.length with hz | hp
 ·have hxn:xs=[]:=List.length_eq_zero_iff.1 hz
  subst hxn
  simp only[oG,h0,Int.reduceLT,Int.natCast_zero,dZ,List.length_nil,VX,Nat.reduceEqDiff,Nat.reduceAdd]
  exact done (by simp)
 ·obtain⟨m,hm⟩:∃m,xs.length=m+1:=⟨xs.length-1,by omega⟩
  obtain⟨d,hd⟩:∃d,xs[m]? = some d:=⟨_,List.getElem?_eq_getElem (by omega)⟩
  have Bl:(0:Int)<((m+1:Nat):Int):=by omega
  have w1:IntKind.i64.wrap (((m+1:Nat):Int)-1)=(m:Int):=by rw[wrap64 (by omega) (by omega)];omega
  have e1:=aP (f:=tV) (t := .op) (H:=[]) (size:=1) (k := .i64) hd rfl
  by_cases Bj:(d:Int)=0
  ·have hd1:d=0:=by omega
   subst hd1
   have e2:=Gh (f:=tV) (size:=1) (t := .op) (H:=[]) (k2 := .i64) (xs:=xs) (h:=m) Dh (by omega) (by omega)
   have Oa:xs=xs.take m++[0]:=by
    have:=List.take_append_drop m xs
    have h3:=(List.getElem?_eq_some_iff.1 hd)
    rw[List.drop_eq_getElem_cons h3.1,h3.2,List.drop_of_length_le (by omega)] at this
    exact this.symm
   simp only[oG,h0,hm,Bl,w1,e1,e2,Bj,dZ,VX,Nat.reduceEqDiff,Nat.reduceAdd]
   refine⟨xs.take m,by simp only[List.length_take];omega,fun d hd=>hx d (List.mem_of_mem_take hd),?_,by simp only[List.length_take];omega,by first | rfl | exact⟨rfl,rfl⟩⟩
   rw[←hv]
   conv=>rhs;rw[Oa]
   rw[pH]
   simp
  ·simp only[oG,h0,hm,Bl,w1,e1,Bj,dZ,VX,Nat.reduceEqDiff,Nat.reduceAdd]
   exact done (L5 hm hd (by omega))
theorem EW {outs:List Nat} {n g m:Nat} {lo:Nat} {w:Bool} {K:VV→aB→Prop} (hd:∀d∈outs,d<1000000000) (hn:n=outs.length) (hlen:outs.length≤70368744177664) (hm:val 1000000000 outs=m) (hk:K (bP m) (cH [.row g (outs.map tV) 1 w] [0])) :
  dG 211 [.ref 0 g 0 n n] lo [.row g (outs.map tV) 1 w] K:=by
 subst hm
 rw[TC.XR (f:=tV) (pJ outs hd hlen) cE hn (Nat.le_refl _) Dh (fun _=>rfl) rfl rfl]
 exact hk
theorem Nv {H:aB} (n:Nat):fz depth H (bP n)=some (bP n):=aH (bU n)
theorem nX (n:Int) (h1:n≤9223372036854775807):TC 161 [VI n] (bP n.toNat):=by
 refine TC.walk ⟨true,false⟩ JW rfl (Nat.le_of_ble_eq_true rfl) rfl (lE _) ?_
 simp only[GJ,CG,HZ,VX,Nat.reduceEqDiff,Nat.reduceAdd]
 refine bB (fun(s:Int×List Nat) ρ H=>s.1≤9223372036854775807∧H=[.row s.2.length (s.2.map tV) 1 true]∧s.2.length≤63∧s.1.toNat*2^s.2.length≤9223372036854775807∧aC 1000000000 n.toNat=s.2++aC 1000000000 s.1.toNat∧ρ 0=VI s.1∧ρ 3 = .ref 0 s.2.length 0 s.2.length s.2.length) (fun s=>s.1.toNat) (n,[]) ⟨h1,rfl,by simp,by simp only[List.length_nil,Nat.pow_zero,Nat.mul_one];omega,rfl,rfl,rfl⟩ ?_
 rintro⟨m,ds⟩ ρ H ⟨hm,rfl,hl,aX,hd,g0,g3⟩
 simp only at hm hl aX hd g0 g3
 by_cases hp:(0:Int)<m
 ·obtain⟨k,rfl⟩:∃k:Nat,m=(k:Int):=⟨m.toNat,by omega⟩
  rw[Int.toNat_natCast] at aX hd
  have hk0:k≠0:=by omega
  have Ge:ds.length<63:=by
   rcases Nat.lt_or_ge ds.length 63 with h | h
   ·exact h
   ·have e:2^ds.length=9223372036854775808:=by rw[show ds.length=63 by omega]
    rw[e] at aX
    omega
  have r1:=Kz k
  have q1:=Kf k (by omega)
  have a1:=Yf (ds:=ds) (d:=k % 1000000000) (by omega)
  simp only[vR,g0,g3,hp,r1,q1,qA,sI,a1,VX,Nat.reduceEqDiff,Nat.reduceAdd]
  refine⟨(((k / 1000000000:Nat):Int),ds++[k % 1000000000]),?_,by simp only;omega,by simp,by simp;omega,?_,?_,rfl,by simp⟩
  ·simp only[Int.toNat_natCast];exact Nat.div_lt_self (by omega) (by decide)
  ·simp only[Int.toNat_natCast,List.length_append,List.length_singleton,Nat.pow_succ]
   have h1:k / 1000000000*2≤k:=by omega
   have:=Nat.mul_le_mul_right (2^ds.length) h1
   rw[Nat.mul_assoc,Nat.mul_comm 2] at this
   omega
  ·simp only[Int.toNat_natCast]
   rw[hd,iB (by decide) hk0,List.append_assoc]
   rfl
 ·have hz:m.toNat=0:=by omega
  rw[hz,bR,List.append_nil] at hd
  simp only[vR,g0,g3,hp,VX,Nat.reduceEqDiff,Nat.reduceAdd]
  rw[bP,hd]
  exact Po (fun _=>rfl) rfl
theorem rX (a b:Nat) (ha:(aC 1000000000 a).length≤17592186044416) (hb:(aC 1000000000 b).length≤17592186044416):TC 178 [bP a,bP b] (VI (dX a b)):=by
 refine TC.walk ⟨true,false⟩ JS rfl (Nat.le_of_ble_eq_true rfl) (by simp[aK,bU]) rfl ?_
 have fin:∀ {x:Int},x=dX a b→fz depth [] (VI x)=some (VI (dX a b)):=fun h=>by rw[h];exact aH rfl
 unfold bP gA
 by_cases hl:(((aC 1000000000 a).length:Nat):Int)=(((aC 1000000000 b).length:Nat):Int)
 ·have AO:(aC 1000000000 a).length=(aC 1000000000 b).length:=by omega
  have w1:IntKind.i64.wrap ((((aC 1000000000 b).length:Nat):Int)-1)=(((aC 1000000000 b).length:Nat):Int)-1:=wrap64 (by omega) (by omega)
  simp only[wS,sA,hl,w1,VX,Nat.reduceEqDiff,Nat.reduceAdd]
  refine bB (fun(j:Nat) ρ H=>j≤(aC 1000000000 b).length∧H=[]∧(aC 1000000000 a).drop j=(aC 1000000000 b).drop j∧ρ 0=bT tV (aC 1000000000 a)∧ρ 1=bT tV (aC 1000000000 b)∧ρ 5=VI ((j:Int)-1)) (fun j=>j) (aC 1000000000 b).length ⟨Nat.le_refl _,rfl,by rw[List.drop_length,←AO,List.drop_length],rfl,rfl,rfl⟩ ?_
  rintro j ρ H ⟨hj,rfl,hd,h0,h1,h5⟩
  by_cases hz:(0:Int)≤(j:Int)-1
  ·obtain⟨i,rfl⟩:∃i,j=i+1:=⟨j-1,by omega⟩
   obtain⟨x,hx⟩:∃x,(aC 1000000000 a)[i]? = some x:=⟨_,List.getElem?_eq_getElem (by omega)⟩
   obtain⟨y,hy⟩:∃y,(aC 1000000000 b)[i]? = some y:=⟨_,List.getElem?_eq_getElem (by omega)⟩
   have J2:((i+1:Nat):Int)-1=(i:Int):=by omega
   have e1:=aP (f:=tV) (t := .op) (H:=[]) (size:=1) (k := .i64) hx rfl
   have e2:=aP (f:=tV) (t := .op) (H:=[]) (size:=1) (k := .i64) hy rfl
   rw[J2] at h5 hz
   have w2:IntKind.i64.wrap ((i:Int)-1)=(i:Int)-1:=wrap64 (by omega) (by omega)
   by_cases Ar:(x:Int)=(y:Int)
   ·simp only[mU,h0,h1,h5,hz,e1,e2,Ar,w2,VX,Nat.reduceEqDiff,Nat.reduceAdd]
    have Z3:x=y:=by omega
    subst Z3
    refine⟨i,by omega,by omega,?_⟩
    obtain⟨g1,g2⟩:=List.getElem?_eq_some_iff.1 hx
    obtain⟨g3,g4⟩:=List.getElem?_eq_some_iff.1 hy
    rw[List.drop_eq_getElem_cons g1,List.drop_eq_getElem_cons g3,g2,g4,hd]
    exact⟨rfl,rfl⟩
   ·by_cases aX:(x:Int)<(y:Int)
    ·simp only[mU,h0,h1,h5,hz,e1,e2,Ar,aX,VX,Nat.reduceEqDiff,Nat.reduceAdd]
     refine fin ?_
     have:=BN (eE (by decide) a) AO hx hy hd (by omega)
     rw[bW (by decide),bW (by decide)] at this
     simp[dX,this]
    ·simp only[mU,h0,h1,h5,hz,e1,e2,Ar,aX,VX,Nat.reduceEqDiff,Nat.reduceAdd]
     refine fin ?_
     have:=BN (eE (by decide) b) AO.symm hy hx hd.symm (by omega)
     rw[bW (by decide),bW (by decide)] at this
     rw[dX,if_neg (by omega),if_neg (by omega)]
  ·have Qu:j=0:=by omega
   subst Qu
   simp only[mU,h0,h1,h5,hz,VX,Nat.reduceEqDiff,Nat.reduceAdd]
   refine fin ?_
   have:=Pe (b:=1000000000) (by decide) (by simpa using hd)
   subst this
   simp[dX]
 ·by_cases aX:(((aC 1000000000 a).length:Nat):Int)<(((aC 1000000000 b).length:Nat):Int)
  ·simp only[wS,sA,hl,aX,VX,Nat.reduceEqDiff,Nat.reduceAdd]
   refine fin ?_
   have:=Cc (b:=1000000000) (by decide) (m:=a) (n:=b) (by omega)
   simp[dX,this]
  ·simp only[wS,sA,hl,aX,VX,Nat.reduceEqDiff,Nat.reduceAdd]
   refine fin ?_
   have:=Cc (b:=1000000000) (by decide) (m:=b) (n:=a) (by omega)
   rw[dX,if_neg (by omega),if_neg (by omega)]
theorem GR (ds:List Nat) (i:Nat):TC 225 [gA ds,VI (i:Int)] (tV (ds.getD i 0)):=by
 refine TC.walk ⟨true,false⟩ G2 rfl (Nat.le_of_ble_eq_true rfl) (by simp[aK,vF];rfl) rfl ?_
 by_cases h:(i:Int)<(ds.length:Int)
 ·obtain⟨d,hd⟩:∃d,ds[i]? = some d:=⟨_,List.getElem?_eq_getElem (by omega)⟩
  have e1:=aP (f:=tV) (t := .op) (H:=[]) (size:=1) (k := .i64) hd rfl
  simp only[xL,sT,dZ,h,e1,VX,Nat.reduceEqDiff,Nat.reduceAdd]
  rw[List.getD_eq_getElem?_getD,hd]
  exact aH rfl
 ·simp only[xL,sT,dZ,h,VX,Nat.reduceEqDiff,Nat.reduceAdd]
  rw[List.getD_eq_getElem?_getD,List.getElem?_eq_none (by omega)]
  exact aH rfl
theorem Bw (n i:Nat):TC 225 [bP n,VI (i:Int)] (tV (n / 1000000000^i % 1000000000)):=by
 have:=GR (aC 1000000000 n) i
 rwa [Fv (by decide)] at this
theorem Fg (a b:Nat) (ha:(aC 1000000000 a).length<17592186044416) (hb:(aC 1000000000 b).length<17592186044416):TC 177 [bP a,bP b] (bP (a+b)):=by
 refine TC.walk ⟨true,false⟩ EG rfl (Nat.le_of_ble_eq_true rfl) (by simp[aK,bU]) (lE _) ?_
 simp only[AU,yH,HZ,VX,Nat.reduceEqDiff,Nat.reduceAdd]
 have hL:=LP (b:=1000000000) (by decide) (m:=a) (n:=b) (k:=17592186044416-1) (by omega) (by omega)
 refine bB (fun(s:Nat×List Nat×Nat) ρ H=>s.1=s.2.1.length∧H=[.row s.2.1.length (s.2.1.map tV) 1 true]∧s.2.2≤1∧aC 1000000000 (a+b)=s.2.1++aC 1000000000 (a / 1000000000^s.1+b / 1000000000^s.1+s.2.2)∧ρ 0=bP a∧ρ 1=bP b∧ρ 5 = .ref 0 s.2.1.length 0 s.2.1.length s.2.1.length∧ρ 6=VI s.2.2∧ρ 7=VI s.1)
  (fun s=>(aC 1000000000 (a+b)).length-s.1) (0,[],0) ⟨rfl,rfl,by simp,by simp,rfl,rfl,rfl,rfl,rfl⟩ ?_
 rintro⟨i,ds,c⟩ ρ H ⟨hi,rfl,hc,hd,g0,g1,g5,g6,g7⟩
 simp only at hi hc hd g5 g6 g7
 have la:=B6 (b:=1000000000) (by decide) (n:=a) (i:=i)
 have lb:=B6 (b:=1000000000) (by decide) (n:=b) (i:=i)
 have c1:=Bw a i
 have c2:=Bw b i
 have m1:=Nat.mod_lt (a / 1000000000^i) (show 0<1000000000 by decide)
 have m2:=Nat.mod_lt (b / 1000000000^i) (show 0<1000000000 by decide)
 have UL:a / 1000000000^i+b / 1000000000^i+c≠0→aC 1000000000 (a+b)=ds++(a / 1000000000^i % 1000000000+b / 1000000000^i % 1000000000+c) % 1000000000::aC 1000000000 (a / 1000000000^(i+1)+b / 1000000000^(i+1)+(a / 1000000000^i % 1000000000+b / 1000000000^i % 1000000000+c) / 1000000000):=fun h=>by
  rw[hd,T7 (by decide) h,pW,pW]
 generalize a / 1000000000^i=A at *
 generalize b / 1000000000^i=B at *
 by_cases Ji:A+B+c=0
 ·have h1:¬(i:Int)<((aC 1000000000 a).length:Int):=by omega
  have h2:¬(i:Int)<((aC 1000000000 b).length:Int):=by omega
  have h3:¬(0:Int)<(c:Int):=by omega
  simp only[jK,g0,g1,g5,g6,g7,cI,h1,h2,h3,VX,Nat.reduceEqDiff,Nat.reduceAdd]
  rw[Ji,bR,List.append_nil] at hd
  rw[bP,hd]
  exact Po (fun _=>rfl) rfl
 ·have hdn:=UL Ji
  have aX:i<(aC 1000000000 (a+b)).length:=by
   rw[hdn,List.length_append,List.length_cons]
   omega
  have w1:IntKind.i64.wrap (((A % 1000000000:Nat):Int)+((B % 1000000000:Nat):Int))=((A % 1000000000+B % 1000000000:Nat):Int):=wrapN _ (by omega) (by omega)
  have w2:IntKind.i64.wrap (((A % 1000000000+B % 1000000000:Nat):Int)+(c:Int))=((A % 1000000000+B % 1000000000+c:Nat):Int):=wrapN _ (by omega) (by omega)
  have wi:IntKind.i64.wrap ((i:Int)+1)=((i+1:Nat):Int):=wrapN (i+1) (by omega) (by omega)
  have r1:=Kz (A % 1000000000+B % 1000000000+c)
  have q1:=Kf (A % 1000000000+B % 1000000000+c) (by omega)
  have a1:=Yf (ds:=ds) (d:=(A % 1000000000+B % 1000000000+c) % 1000000000) (by omega)
  have ZZ:aC 1000000000 (a+b)=(ds++[(A % 1000000000+B % 1000000000+c) % 1000000000])++aC 1000000000 (a / 1000000000^(i+1)+b / 1000000000^(i+1)+(A % 1000000000+B % 1000000000+c) / 1000000000):=by rw[hdn,List.append_assoc];rfl
  by_cases h1:(i:Int)<((aC 1000000000 a).length:Int)
  ·simp only[jK,g0,g1,g5,g6,g7,cI,h1,c1,c2,w1,w2,wi,r1,q1,qA,sI,a1,VX,Nat.reduceEqDiff,Nat.reduceAdd]
   refine⟨(i+1,ds++[(A % 1000000000+B % 1000000000+c) % 1000000000],(A % 1000000000+B % 1000000000+c) / 1000000000),by simp only;omega,by simp;omega,by simp,by simp only;omega,ZZ,?_⟩
   simp only[List.length_append,List.length_singleton]
   try (repeat' apply And.intro)<;>first | rfl | trivial
  ·by_cases h2:(i:Int)<((aC 1000000000 b).length:Int)
   ·simp only[jK,g0,g1,g5,g6,g7,cI,h1,h2,c1,c2,w1,w2,wi,r1,q1,qA,sI,a1,VX,Nat.reduceEqDiff,Nat.reduceAdd]
    refine⟨(i+1,ds++[(A % 1000000000+B % 1000000000+c) % 1000000000],(A % 1000000000+B % 1000000000+c) / 1000000000),by simp only;omega,by simp;omega,by simp,by simp only;omega,ZZ,?_⟩
    simp only[List.length_append,List.length_singleton]
    try (repeat' apply And.intro)<;>first | rfl | trivial
   ·have h3:(0:Int)<(c:Int):=by omega
    simp only[jK,g0,g1,g5,g6,g7,cI,h1,h2,h3,c1,c2,w1,w2,wi,r1,q1,qA,sI,a1,VX,Nat.reduceEqDiff,Nat.reduceAdd]
    refine⟨(i+1,ds++[(A % 1000000000+B % 1000000000+c) % 1000000000],(A % 1000000000+B % 1000000000+c) / 1000000000),by simp only;omega,by simp;omega,by simp,by simp only;omega,ZZ,?_⟩
    simp only[List.length_append,List.length_singleton]
    try (repeat' apply And.intro)<;>first | rfl | trivial
end Go.PM
namespace Go.PM
theorem L8 (n:Nat) (hn:n≤35184372088832):yG [.int .i64 0] 8 (VI (n:Int)) (VI (n:Int)) []=some (.ref 0 0 0 n n,[.row 0 ((List.replicate n 0).map tV) 1 true]):=tT (f:=tV) (x:=0) rfl (by omega) (by omega)
theorem Mk {outs:List Nat} {i d:Nat} (hi:i<outs.length):dC 0 1 (.ptr 0 0 i 0) (VI (d:Int)) [.row 0 (outs.map tV) 1 true]=some [.row 0 ((outs.set i d).map tV) 1 true]:=by
 rw[show VI (d:Int)=tV d from rfl,fX (f:=tV) (e:=1) Hw hi (Nat.le_refl _) rfl rfl]
 rfl
theorem Iw {b g:Nat} {rows:List Nat} {w:Bool} {H:aB} {j d:Nat} (hr:aV H b g=some (rows.map tV,1,w)) (hj:rows[j]? = some d):gS false 1 (.ptr b g j 0) H=some (VI (d:Int)):=Ca hr hj
theorem adT {n i:Nat} {outs:List Nat} (h:i<n):bF 1 (.ref 0 0 0 n n) (VI (i:Int)) [.row 0 (outs.map tV) 1 true]=some (.ptr 0 0 i 0):=by rw[bD Hw h,Nat.zero_add]
theorem wr {x:Int} (n:Nat) (h:x=n) (hn:n≤9223372036854775807):IntKind.i64.wrap x=(n:Int):=wrapN n h hn
theorem wV (a b:Nat) (Dw:b≤a) (ha:(aC 1000000000 a).length≤17592186044416):TC 179 [bP a,bP b] (bP (a-b)):=by
 refine TC.walk ⟨true,false⟩ DM rfl (Nat.le_of_ble_eq_true rfl) (by simp[aK,bU]) (lE _) ?_
 have hle:=dD (b:=1000000000) (by decide) Dw
 simp only[Ak,wW,HZ,cI,VX,Nat.reduceEqDiff,Nat.reduceAdd]
 refine bB (fun(s:Nat×List Nat×Nat) ρ H=>s.1=s.2.1.length∧s.1≤(aC 1000000000 a).length∧H=[.row s.2.1.length (s.2.1.map tV) 1 true]∧(∀d∈s.2.1,d<1000000000)∧s.2.2≤1∧val 1000000000 ((aC 1000000000 a).take s.1)+1000000000^s.1*s.2.2=val 1000000000 s.2.1+val 1000000000 ((aC 1000000000 b).take s.1) ∧
  ρ 0=bP a∧ρ 1=bP b∧ρ 5 = .ref 0 s.2.1.length 0 s.2.1.length s.2.1.length∧ρ 6=VI s.2.2∧ρ 11=VI (aC 1000000000 a).length∧ρ 12=VI s.1) (fun s=>(aC 1000000000 a).length-s.1) (0,[],0) ⟨rfl,Nat.zero_le _,rfl,by simp,by simp,by simp[val],rfl,rfl,rfl,rfl,rfl,rfl⟩ ?_
 rintro⟨i,outs,l⟩ ρ H ⟨hi,Hu,rfl,jS,hc,hv,g0,g1,g5,g6,g11,g12⟩
 simp only at hi Hu jS hc hv g5 g6 g12
 by_cases cX:(i:Int)<((aC 1000000000 a).length:Int)
 ·have hx:=HS (b:=1000000000) (by decide) (n:=a) (i:=i) (by omega)
  have e1:bF 1 (bP a) (VI i) [.row outs.length (outs.map tV) 1 true]=some (.cO (tV (a / 1000000000^i % 1000000000)) 0):=aP (f:=tV) (t := .op) (size:=1) (k := .i64) hx rfl
  have c2:=Bw b i
  have t1:=Ct (b:=1000000000) (aC 1000000000 a) i
  have t2:=Ct (b:=1000000000) (aC 1000000000 b) i
  rw[Fv (by decide)] at t1 t2
  have lx:=Nat.mod_lt (a / 1000000000^i) (show 0<1000000000 by decide)
  have ly:=Nat.mod_lt (b / 1000000000^i) (show 0<1000000000 by decide)
  generalize a / 1000000000^i % 1000000000=x at *
  generalize b / 1000000000^i % 1000000000=y at *
  have wi:IntKind.i64.wrap ((i:Int)+1)=((i+1:Nat):Int):=wrapN (i+1) (by omega) (by omega)
  have w1:IntKind.i64.wrap ((x:Int)-(y:Int))=(x:Int)-(y:Int):=wrap64 (by omega) (by omega)
  have w2:IntKind.i64.wrap ((x:Int)-(y:Int)-(l:Int))=(x:Int)-(y:Int)-(l:Int):=wrap64 (by omega) (by omega)
  have step:∀r l':Nat,r<1000000000→l'≤1→r+y+l=x+1000000000*l'→(∀d∈outs++[r],d<1000000000)∧val 1000000000 ((aC 1000000000 a).take (i+1))+1000000000^(i+1)*l'=val 1000000000 (outs++[r])+val 1000000000 ((aC 1000000000 b).take (i+1)):=by
   intro r l' hr _ hd
   refine⟨fun d h => ?_,?_⟩
   ·rcases List.mem_append.1 h with h | h
    ·exact jS d h
    ·rw[List.mem_singleton.1 h];exact hr
   ·rw[t1,t2,pH,←hi,Nat.pow_succ]
    exact F3 hv hd
  by_cases lL:(x:Int)-(y:Int)-(l:Int)<0
  ·obtain⟨r,hr⟩:∃r:Nat,r+y+l=x+1000000000:=⟨x+1000000000-l-y,by omega⟩
   have w3:IntKind.i64.wrap ((x:Int)-(y:Int)-(l:Int)+1000000000)=(r:Int):=wrapN r (by omega) (by omega)
   obtain⟨s1,s2⟩:=step r 1 (by omega) (Nat.le_refl _) (by omega)
   have a1:=Yf (ds:=outs) (d:=r) (by omega)
   simp only[kP,g0,g1,g5,g6,g11,g12,cX,e1,c2,w1,w2,w3,wi,lL,qA,sI,a1,VX,Nat.reduceEqDiff,Nat.reduceAdd]
   refine⟨(i+1,outs++[r],1),by simp only;omega,by simp;omega,by simp only;omega,by simp,s1,Nat.le_refl _,s2,?_⟩
   simp only[List.length_append,List.length_singleton]
   try (repeat' apply And.intro)<;>first | rfl | trivial
  ·obtain⟨r,hr⟩:∃r:Nat,r+y+l=x:=⟨x-l-y,by omega⟩
   obtain⟨s1,s2⟩:=step r 0 (by omega) (by omega) (by omega)
   have er:(x:Int)-(y:Int)-(l:Int)=(r:Int):=by omega
   have a1:=Yf (ds:=outs) (d:=r) (by omega)
   have w3:IntKind.i64.wrap ((x:Int)-(y:Int)-(l:Int))=(r:Int):=wrapN r er (by omega)
   have XH:¬(r:Int)<0:=by omega
   simp only[kP,g0,g1,g5,g6,g11,g12,cX,e1,c2,w1,w3,wi,XH,qA,sI,a1,VX,Nat.reduceEqDiff,Nat.reduceAdd]
   refine⟨(i+1,outs++[r],0),by simp only;omega,by simp;omega,by simp only;omega,by simp,s1,Nat.zero_le _,s2,?_⟩
   simp only[List.length_append,List.length_singleton]
   try (repeat' apply And.intro)<;>first | rfl | trivial
 ·have qX:i=(aC 1000000000 a).length:=by omega
  rw[qX,List.take_length,List.take_of_length_le (l:=aC 1000000000 b) hle,bW (by decide),bW (by decide)] at hv
  have gY:=mO jS
  rw[←hi,qX] at gY
  have Jr:val 1000000000 outs=a-b:=by
   rcases Nat.lt_or_ge l 1 with h | h
   ·have:l=0:=by omega
    subst this
    rw[Nat.mul_zero] at hv
    omega
   ·have:l=1:=by omega
    subst this
    rw[Nat.mul_one] at hv
    omega
  simp only[kP,g0,g1,g5,g6,g11,g12,cX,VX,Nat.reduceEqDiff,Nat.reduceAdd]
  refine EW jS rfl (by omega) Jr ?_
  simp only[VX,Nat.reduceEqDiff,Nat.reduceAdd]
  exact Nv _
theorem fV (a b:Nat) (ha:(aC 1000000000 a).length≤17592186044416) (hb:(aC 1000000000 b).length≤17592186044416):TC 162 [bP a,bP b] (bP (a*b)):=by
 refine TC.walk ⟨true,false⟩ Fb rfl (Nat.le_of_ble_eq_true rfl) (by simp[aK,bU]) (lE _) ?_
 have va:=bW (b:=1000000000) (by decide) a
 have vb:=bW (b:=1000000000) (by decide) b
 have la:=eE (b:=1000000000) (by decide) a
 have lb:=eE (b:=1000000000) (by decide) b
 unfold bP
 generalize aC 1000000000 a=xs at *
 generalize aC 1000000000 b=ys at *
 have w0:IntKind.i64.wrap ((xs.length:Int)+(ys.length:Int))=((xs.length+ys.length:Nat):Int):=wrapN _ (by omega) (by omega)
 simp only[AK,yV,dZ,w0,L8 (xs.length+ys.length) (by omega),VX,Nat.reduceEqDiff,Nat.reduceAdd]
 generalize hN:xs.length+ys.length=N at *
 refine bB (fun(s:Nat×List Nat) ρ H=>s.1≤xs.length∧H=[.row 0 (s.2.map tV) 1 true]∧s.2.length=N∧(∀d∈s.2,d<1000000000)∧val 1000000000 (s.2.take (s.1+ys.length))=val 1000000000 (xs.take s.1)*b∧(∀j,s.1+ys.length≤j→j<N→s.2[j]? = some 0) ∧
  ρ 0=gA xs∧ρ 1=gA ys∧ρ 5 = .ref 0 0 0 N N∧ρ 17=VI xs.length∧ρ 18=VI s.1) (fun s=>xs.length-s.1) (0,List.replicate N 0) ⟨Nat.zero_le _,rfl,by simp,xE (by decide) _,by simp[val,List.take_replicate,oL],fun j _ h=>by simp[List.getElem?_replicate,h],rfl,rfl,rfl,rfl,rfl⟩ ?_
 rintro⟨i,outs⟩ ρ H ⟨hi,rfl,iC,jS,hv,hzr,g0,g1,g5,g17,g18⟩
 simp only at hi iC jS hv hzr g18
 by_cases cX:(i:Int)<(xs.length:Int)
 ·obtain⟨x,hx⟩:∃x,xs[i]? = some x:=⟨_,List.getElem?_eq_getElem (by omega)⟩
  have lx:=la x (List.mem_of_getElem? hx)
  have e1:∀os:List Nat,bF 1 (gA xs) (VI i) [.row 0 (os.map tV) 1 true]=some (.cO (tV x) 0):=fun os=>aP (f:=tV) (t := .op) (size:=1) (k := .i64) hx rfl
  simp only[qD,g0,g1,g5,g17,g18,cX,dZ,VX,Nat.reduceEqDiff,Nat.reduceAdd]
  refine bB (fun(s:Nat×List Nat×Nat) ρ H=>s.1≤ys.length∧H=[.row 0 (s.2.1.map tV) 1 true]∧s.2.1.length=N∧(∀d∈s.2.1,d<1000000000)∧s.2.2<1000000000 ∧
   val 1000000000 (s.2.1.take (i+s.1))+1000000000^(i+s.1)*s.2.2=val 1000000000 (outs.take (i+s.1))+1000000000^i*(x*val 1000000000 (ys.take s.1))∧(∀j,i+s.1≤j→s.2.1[j]? = outs[j]?) ∧
   ρ 0=gA xs∧ρ 1=gA ys∧ρ 5 = .ref 0 0 0 N N∧ρ 6=VI i∧ρ 7=VI s.2.2∧ρ 17=VI xs.length∧ρ 18=VI i∧ρ 22=VI ys.length∧ρ 23=VI s.1) (fun s=>ys.length-s.1) (0,outs,0) ⟨Nat.zero_le _,rfl,iC,jS,by simp,by simp[val],fun _ _=>rfl,by (repeat' apply And.intro)<;>first | rfl | trivial⟩ ?_
  rintro⟨k,os,c⟩ Ke H ⟨hk,rfl,Lv,Mf,hc,Js,Dx,k0,k1,k5,k6,k7,E5,Uo,k22,k23⟩
  simp only at hk Lv Mf hc Js Dx k7 k23
  have wi:IntKind.i64.wrap ((i:Int)+1)=((i+1:Nat):Int):=wrapN (i+1) (by omega) (by omega)
  by_cases hkn:(k:Int)<(ys.length:Int)
  ·obtain⟨y,hy⟩:∃y,ys[k]? = some y:=⟨_,List.getElem?_eq_getElem (by omega)⟩
   have ly:=lb y (List.mem_of_getElem? hy)
   obtain⟨o,ho⟩:∃o,os[i+k]? = some o:=⟨_,List.getElem?_eq_getElem (by omega)⟩
   have lo:=Mf o (List.mem_of_getElem? ho)
   have Vo:outs[i+k]? = some o:=by rw[←Dx (i+k) (Nat.le_refl _)];exact ho
   have f1:bF 1 (gA ys) (VI k) [.row 0 (os.map tV) 1 true]=some (.cO (tV y) 0):=aP (f:=tV) (t := .op) (size:=1) (k := .i64) hy rfl
   have w1:IntKind.i64.wrap ((i:Int)+(k:Int))=((i+k:Nat):Int):=wrapN _ (by omega) (by omega)
   have f2:bF 1 (.ref 0 0 0 N N) (VI ((i+k:Nat):Int)) [.row 0 (os.map tV) 1 true]=some (.ptr 0 0 (i+k) 0):=adT (by omega)
   have f3:gS false 1 (.ptr 0 0 (i+k) 0) [.row 0 (os.map tV) 1 true]=some (VI (o:Int)):=Iw Hw ho
   have f4:∀s:Nat,dC 0 1 (.ptr 0 0 (i+k) 0) (VI (s:Int)) [.row 0 (os.map tV) 1 true]=some [.row 0 ((os.set (i+k) s).map tV) 1 true]:=fun s=>Mk (by omega)
   have Ar:x*y≤999999999*999999999:=Nat.mul_le_mul (by omega) (by omega)
   have w5:IntKind.i64.wrap ((x:Int)*(y:Int))=((x*y:Nat):Int):=wrapN _ (by simp) (by omega)
   have w6:IntKind.i64.wrap ((o:Int)+((x*y:Nat):Int))=((o+x*y:Nat):Int):=wrapN _ (by omega) (by omega)
   have w7:IntKind.i64.wrap (((o+x*y:Nat):Int)+(c:Int))=((o+x*y+c:Nat):Int):=wrapN _ (by omega) (by omega)
   have wk:IntKind.i64.wrap ((k:Int)+1)=((k+1:Nat):Int):=wrapN (k+1) (by omega) (by omega)
   have r1:=Kz (o+x*y+c)
   have q1:=Kf (o+x*y+c) (by omega)
   simp only[pU,k0,k1,k5,k6,k7,E5,Uo,k22,k23,hkn,e1,f1,f2,f3,f4,w1,w5,w6,w7,wk,r1,q1,VX,Nat.reduceEqDiff,Nat.reduceAdd]
   have hq:(o+x*y+c) / 1000000000<1000000000:=Nat.div_lt_of_lt_mul (by omega)
   refine⟨(k+1,os.set (i+k) ((o+x*y+c) % 1000000000),(o+x*y+c) / 1000000000),by simp only;omega,by omega,rfl,by rw[List.length_set];exact Lv,kC Mf (Nat.mod_lt _ (by decide)),hq,?_,fun j hj => ?_,by (repeat' apply And.intro)<;>first | rfl | trivial⟩
   ·have h1:=Nat.mod_add_div (o+x*y+c) 1000000000
    rw[show o+x*y+c=c+(x*y+o) by omega] at h1 ⊢
    rw[←Nat.add_assoc,dL (by omega),aS Vo,aS hy,Nat.pow_succ]
    rw[Nat.pow_add] at Js ⊢
    exact Od Js h1
   ·rw[List.getElem?_set_ne (by omega)]
    exact Dx j (by omega)
  ·have hke:k=ys.length:=by omega
   subst hke
   rw[List.take_length,vb,hv] at Js
   have w1:IntKind.i64.wrap ((i:Int)+(ys.length:Int))=((i+ys.length:Nat):Int):=wrapN _ (by omega) (by omega)
   have Ci:os[i+ys.length]? = some 0:=by rw[Dx _ (Nat.le_refl _)];exact hzr _ (Nat.le_refl _) (by omega)
   have f2:bF 1 (.ref 0 0 0 N N) (VI ((i+ys.length:Nat):Int)) [.row 0 (os.map tV) 1 true]=some (.ptr 0 0 (i+ys.length) 0):=adT (by omega)
   have f3:gS false 1 (.ptr 0 0 (i+ys.length) 0) [.row 0 (os.map tV) 1 true]=some (VI ((0:Nat):Int)):=Iw Hw Ci
   have f4:∀s:Nat,dC 0 1 (.ptr 0 0 (i+ys.length) 0) (VI (s:Int)) [.row 0 (os.map tV) 1 true]=some [.row 0 ((os.set (i+ys.length) s).map tV) 1 true]:=fun s=>Mk (by omega)
   have w2:IntKind.i64.wrap (((0:Nat):Int)+(c:Int))=(c:Int):=wrapN _ (by omega) (by omega)
   simp only[pU,k0,k1,k5,k6,k7,E5,Uo,k22,k23,hkn,dZ,f2,f3,f4,w1,w2,wi,VX,Nat.reduceEqDiff,Nat.reduceAdd]
   refine⟨(i+1,os.set (i+ys.length) c),by simp only;omega,by omega,rfl,by rw[List.length_set];exact Lv,kC Mf hc,?_,fun j hj Un => ?_,by (repeat' apply And.intro)<;>first | rfl | trivial⟩
   ·rw[show i+1+ys.length=i+ys.length+1 by omega,dL (by omega),Js,aS hx,Nat.add_mul,Nat.mul_assoc]
   ·rw[List.getElem?_set_ne (by omega),Dx j (by omega)]
    exact hzr j (by omega) Un
 ·have qX:i=xs.length:=by omega
  subst qX
  rw[hN,List.take_length,va,List.take_of_length_le (by omega)] at hv
  simp only[qD,g0,g1,g5,g17,g18,cX,VX,Nat.reduceEqDiff,Nat.reduceAdd]
  refine EW (m:=a*b) jS iC.symm (by omega) hv ?_
  simp only[VX,Nat.reduceEqDiff,Nat.reduceAdd]
  exact Nv _
theorem Ao (a:Nat) (ha:(aC 1000000000 a).length≤17592186044416):TC 236 [bP a] (if (aC 1000000000 a).length≤2 then .eK [VI a,VB true] else .eK [VI 0,VB false]):=by
 refine TC.walk ⟨true,false⟩ Ha rfl (Nat.le_of_ble_eq_true rfl) (by simp[aK,bU]) (by split<;>rfl) ?_
 by_cases h2:(aC 1000000000 a).length≤2
 ·rw[if_pos h2]
  have h3:¬(2:Int)<((aC 1000000000 a).length:Int):=by omega
  have c0:TC 225 [bP a,VI 0] (VI ((a % 1000000000:Nat):Int)):=by have:=Bw a 0;rwa [Nat.pow_zero,Nat.div_one] at this
  have c1:TC 225 [bP a,VI 1] (VI ((a / 1000000000 % 1000000000:Nat):Int)):=by have:=Bw a 1;rwa [Nat.pow_one] at this
  have aX:=fN (b:=1000000000) (by decide) a
  have hp:1000000000^(aC 1000000000 a).length≤1000000000^2:=Nat.pow_le_pow_right (by decide) h2
  have hm:a / 1000000000<1000000000:=Nat.div_lt_of_lt_mul (by omega)
  rw[Nat.mod_eq_of_lt hm] at c1
  have hmd:=Nat.mod_add_div a 1000000000
  have w1:IntKind.i64.wrap (1000000000*((a / 1000000000:Nat):Int))=((1000000000*(a / 1000000000):Nat):Int):=wrapN _ (by omega) (by omega)
  have w2:IntKind.i64.wrap (((a % 1000000000:Nat):Int)+((1000000000*(a / 1000000000):Nat):Int))=(a:Int):=wrapN _ (by omega) (by omega)
  simp only[xH,sR,cI,h3,c0,c1,w1,w2,VX,Nat.reduceEqDiff,Nat.reduceAdd]
  exact aH rfl
 ·rw[if_neg h2]
  have h3:(2:Int)<((aC 1000000000 a).length:Int):=by omega
  simp only[xH,sR,cI,h3,VX,Nat.reduceEqDiff,Nat.reduceAdd]
  exact aH rfl
theorem WR {outs:List Nat} {n cap x:Nat} (hn:n=outs.length) (hc:n<cap):gF 0 1 8 (.ref 0 0 0 n cap) [VI (x:Int)] [.row 0 ((outs++List.replicate (cap-n) 0).map tV) 1 true]=some (.ref 0 0 0 (n+1) cap,[.row 0 (((outs++[x])++List.replicate (cap-(n+1)) 0).map tV) 1 true]):=by
 subst hn
 simp only[gF,cE,List.length_map,List.length_append,List.length_replicate,List.length_cons,List.length_nil,Nat.zero_add]
 rw[if_pos ⟨by decide,by decide⟩,if_pos ⟨trivial,Nat.le_refl _,by omega⟩,if_pos (by omega),if_neg (by omega),if_pos (by omega)]
 congr 3
 have e:List.replicate (cap-outs.length) 0=(0:Nat)::List.replicate (cap-(outs.length+1)) 0:=by
  rw[show cap-outs.length=(cap-(outs.length+1))+1 by omega,List.replicate_succ]
 simp only[cK,List.set_cons_zero,e,List.map_append,List.map_cons,List.length_cons,List.length_nil,List.map_nil]
 congr 1
 rw[List.take_left' (by simp),←List.drop_drop,List.drop_left' (by simp)]
 simp
theorem uJ (a d:Nat) (Bj:0<d) (hd:d<1000000000) (ha:(aC 1000000000 a).length<17592186044416):TC 238 [bP a,VI (d:Int)] (bP (a*d)):=by
 refine TC.walk ⟨true,false⟩ Dd rfl (Nat.le_of_ble_eq_true rfl) (by simp[aK,bU];rfl) (lE _) ?_
 have w0:IntKind.i64.wrap (((aC 1000000000 a).length:Int)+1)=(((aC 1000000000 a).length+1:Nat):Int):=wrapN _ (by omega) (by omega)
 have mk:yG [.int .i64 0] 8 (VI 0) (VI (((aC 1000000000 a).length+1:Nat):Int)) []=some (.ref 0 0 0 0 ((aC 1000000000 a).length+1),[.row 0 ((([]:List Nat)++List.replicate ((aC 1000000000 a).length+1-0) 0).map tV) 1 true]):=by
  simp only[yG]
  rw[if_pos ⟨by omega,by omega,by omega,by omega⟩]
  simp
  rfl
 simp only[xO,uM,cI,w0,mk,VX,Nat.reduceEqDiff,Nat.reduceAdd]
 refine bB (fun(s:Nat×List Nat×Nat) ρ H=>s.1=s.2.1.length∧s.1≤(aC 1000000000 a).length∧H=[.row 0 ((s.2.1++List.replicate ((aC 1000000000 a).length+1-s.1) 0).map tV) 1 true]∧s.2.2<d∧aC 1000000000 (a*d)=s.2.1++aC 1000000000 (a / 1000000000^s.1*d+s.2.2) ∧
  ρ 1=VI d∧ρ 5 = .ref 0 0 0 s.1 ((aC 1000000000 a).length+1)∧ρ 6=VI s.2.2∧ρ 14=bP a∧ρ 15=VI (aC 1000000000 a).length∧ρ 16=VI s.1) (fun s=>(aC 1000000000 a).length-s.1) (0,[],0) ⟨rfl,Nat.zero_le _,rfl,Bj,by simp,rfl,rfl,rfl,rfl,rfl,rfl⟩ ?_
 rintro⟨i,outs,c⟩ ρ H ⟨hi,Hu,rfl,hc,hv,g1,g5,g6,g14,g15,g16⟩
 simp only at hi Hu hc hv g5 g6 g16
 by_cases cX:(i:Int)<((aC 1000000000 a).length:Int)
 ·have hx:=HS (b:=1000000000) (by decide) (n:=a) (i:=i) (by omega)
  have hA:=(B6 (b:=1000000000) (by decide) (n:=a) (i:=i)).1 (by omega)
  have e1:∀H,bF 1 (bP a) (VI i) H=some (.cO (tV (a / 1000000000^i % 1000000000)) 0):=fun H=>aP (f:=tV) (t := .op) (size:=1) (k := .i64) hx rfl
  have lx:=Nat.mod_lt (a / 1000000000^i) (show 0<1000000000 by decide)
  have eW:a / 1000000000^i*d+c≠0:=by
   have:=Nat.mul_ne_zero hA (show d≠0 by omega)
   omega
  rw[SQ (by decide) eW,←pW] at hv
  generalize a / 1000000000^i % 1000000000=x at *
  have hxd:x*d≤999999999*999999999:=Nat.mul_le_mul (by omega) (by omega)
  have w1:IntKind.i64.wrap ((x:Int)*(d:Int))=((x*d:Nat):Int):=wrapN _ (by simp) (by omega)
  have w2:IntKind.i64.wrap (((x*d:Nat):Int)+(c:Int))=((x*d+c:Nat):Int):=wrapN _ (by omega) (by omega)
  have wi:IntKind.i64.wrap ((i:Int)+1)=((i+1:Nat):Int):=wrapN (i+1) (by omega) (by omega)
  have r1:=Kz (x*d+c)
  have q1:=Kf (x*d+c) (by omega)
  have a1:=WR (outs:=outs) (n:=i) (cap:=(aC 1000000000 a).length+1) (x:=(x*d+c) % 1000000000) hi (by omega)
  have hq:(x*d+c) / 1000000000<d:=by
   rw[Nat.div_lt_iff_lt_mul (by decide)]
   have h1:x*d≤999999999*d:=Nat.mul_le_mul_right _ (by omega)
   omega
  simp only[jV,g1,g5,g6,g14,g15,g16,cX,e1,w1,w2,wi,r1,q1,qA,sI,a1,VX,Nat.reduceEqDiff,Nat.reduceAdd]
  refine⟨(i+1,outs++[(x*d+c) % 1000000000],(x*d+c) / 1000000000),by simp only;omega,by simp;omega,by simp only;omega,rfl,hq,by rw[hv,List.append_assoc];rfl,?_⟩
  try (repeat' apply And.intro)<;>first | rfl | trivial
 ·have qX:i=(aC 1000000000 a).length:=by omega
  have hz:a / 1000000000^i=0:=by
   have:=mt (B6 (b:=1000000000) (by decide) (n:=a) (i:=i)).2
   omega
  rw[hz,Nat.zero_mul,Nat.zero_add] at hv
  by_cases hcp:(0:Int)<(c:Int)
  ·rw[A3 (b:=1000000000) (by decide) (show c≠0 by omega) (show c<1000000000 by omega)] at hv
   have a1:=WR (outs:=outs) (n:=i) (cap:=(aC 1000000000 a).length+1) (x:=c) hi (by omega)
   simp only[jV,g1,g5,g6,g14,g15,g16,cX,hcp,qA,sI,a1,VX,Nat.reduceEqDiff,Nat.reduceAdd]
   rw[bP,hv]
   rw[Hq cE (by simp;omega) (by omega) (dW fun _=>rfl)]
   rw[List.map_append,List.take_left' (by simp;omega)]
  ·have hc0:c=0:=by omega
   rw[hc0,bR,List.append_nil] at hv
   simp only[jV,g1,g5,g6,g14,g15,g16,cX,hcp,VX,Nat.reduceEqDiff,Nat.reduceAdd]
   rw[bP,hv]
   rw[Hq cE (by simp;omega) (by omega) (dW fun _=>rfl)]
   rw[List.map_append,List.take_left' (by simp;omega)]
theorem Hp (a b:Nat) (ha:a≤9223372036854775807) (hb:0<b):cU .quo (.int .i64 (a:Int)) (.int .i64 (b:Int))=some (.int .i64 ((a / b:Nat):Int)):=by
 have h1:¬((b:Int)=0):=by omega
 have h2:(a:Int).tdiv (b:Int)=((a / b:Nat):Int):=by rw[Int.tdiv_eq_ediv_of_nonneg (by omega)];simp
 have h3:a / b≤a:=Nat.div_le_self _ _
 simp only[cU,if_true,h1,if_false,h2]
 generalize a / b=q at *
 rw[wrap64 (by omega) (by omega)]
theorem Ja (a b:Nat) (hb:0<b):cU .rem (.int .i64 (a:Int)) (.int .i64 (b:Int))=some (.int .i64 ((a % b:Nat):Int)):=by
 have h1:¬((b:Int)=0):=by omega
 have h2:(a:Int).tmod (b:Int)=((a % b:Nat):Int):=by rw[Int.tmod_eq_emod_of_nonneg (by omega)];simp
 simp only[cU,if_true,h1,if_false,h2]
theorem Vb {r d x:Nat} (hr:r<d) (hd:d<1000000000) (hx:x<1000000000):r*1000000000+x≤9223372036854775807:=by omega
theorem aaC {r d x:Nat} (Bj:0<d) (hr:r<d) (hx:x<1000000000):(r*1000000000+x) / d<1000000000:=by
 rw[Nat.div_lt_iff_lt_mul Bj]
 omega
theorem uX (a d:Nat) (Bj:0<d) (hdT:d<1000000000) (ha:(aC 1000000000 a).length≤17592186044416):TC 237 [bP a,VI (d:Int)] (.eK [bP (a / d),VI ((a % d:Nat):Int)]):=by
 refine TC.walk ⟨true,false⟩ Dl rfl (Nat.le_of_ble_eq_true rfl) (by simp[aK,bU];rfl) (by simp[gH,pE,lE,lM]) ?_
 have va:=bW (b:=1000000000) (by decide) a
 have la:=eE (b:=1000000000) (by decide) a
 unfold bP
 generalize aC 1000000000 a=xs at *
 have w0:IntKind.i64.wrap ((xs.length:Int)-1)=(xs.length:Int)-1:=wrap64 (by omega) (by omega)
 simp only[xW,vO,dZ,w0,L8 xs.length (by omega),VX,Nat.reduceEqDiff,Nat.reduceAdd]
 refine bB (fun(s:Nat×List Nat×Nat) ρ H=>s.1≤xs.length∧H=[.row 0 (s.2.1.map tV) 1 true]∧s.2.1.length=xs.length∧(∀d∈s.2.1,d<1000000000)∧s.2.2<d∧val 1000000000 (s.2.1.drop s.1)*d+s.2.2=val 1000000000 (xs.drop s.1) ∧
  ρ 0=gA xs∧ρ 1=VI d∧ρ 6 = .ref 0 0 0 xs.length xs.length∧ρ 7=VI s.2.2∧ρ 8=VI ((s.1:Int)-1)) (fun s=>s.1) (xs.length,List.replicate xs.length 0,0) ⟨Nat.le_refl _,rfl,by simp,xE (by decide) _,Bj,by simp[val,List.drop_replicate],rfl,rfl,rfl,rfl,rfl⟩ ?_
 rintro⟨j,outs,r⟩ ρ H ⟨hj,rfl,iC,jS,hr,hv,g0,g1,g6,g7,g8⟩
 simp only at hj iC jS hr hv g7 g8
 by_cases hz:(0:Int)≤(j:Int)-1
 ·obtain⟨i,rfl⟩:∃i,j=i+1:=⟨j-1,by omega⟩
  obtain⟨x,hx⟩:∃x,xs[i]? = some x:=⟨_,List.getElem?_eq_getElem (by omega)⟩
  have lx:=la x (List.mem_of_getElem? hx)
  have J2:((i+1:Nat):Int)-1=(i:Int):=by omega
  rw[J2] at g8 hz
  have e1:=aP (f:=tV) (t := .op) (H:=[.row 0 (outs.map tV) 1 true]) (size:=1) (k := .i64) hx rfl
  have e3:bF 1 (.ref 0 0 0 xs.length xs.length) (VI i) [.row 0 (outs.map tV) 1 true]=some (.ptr 0 0 i 0):=adT (by omega)
  have e4:∀s:Nat,dC 0 1 (.ptr 0 0 i 0) (VI (s:Int)) [.row 0 (outs.map tV) 1 true]=some [.row 0 ((outs.set i s).map tV) 1 true]:=fun s=>Mk (by omega)
  have w2:IntKind.i64.wrap ((i:Int)-1)=(i:Int)-1:=wrap64 (by omega) (by omega)
  have w4:IntKind.i64.wrap ((r:Int)*1000000000)=((r*1000000000:Nat):Int):=wrapN _ (by omega) (by omega)
  have w5:IntKind.i64.wrap (((r*1000000000:Nat):Int)+(x:Int))=((r*1000000000+x:Nat):Int):=wrapN _ (by omega) (by omega)
  have Cj:r*1000000000+x≤9223372036854775807:=Vb hr hdT lx
  have q1:=Hp (r*1000000000+x) d Cj Bj
  have q2:=Ja (r*1000000000+x) d Bj
  have hq:(r*1000000000+x) / d<1000000000:=aaC Bj hr lx
  simp only[nN,g0,g1,g6,g7,g8,hz,e1,e3,e4,w2,w4,w5,q1,q2,VX,Nat.reduceEqDiff,Nat.reduceAdd]
  refine⟨(i,outs.set i ((r*1000000000+x) / d),(r*1000000000+x) % d),by simp only;omega,by omega,rfl,by rw[List.length_set];exact iC,kC jS hq,Nat.mod_lt _ Bj,?_,by (repeat' apply And.intro)<;>first | rfl | trivial⟩
  have h1:=Nat.mod_add_div (r*1000000000+x) d
  rw[set_drop (by omega),qB,pR hx,←hv]
  exact M3 h1
 ·have Qu:j=0:=by omega
  subst Qu
  rw[List.drop_zero,List.drop_zero,va] at hv
  have h1:a / d=val 1000000000 outs:=by
   rw[←hv,Nat.mul_comm,Nat.mul_add_div Bj,Nat.div_eq_of_lt hr,Nat.add_zero]
  have h2:a % d=r:=by
   rw[←hv,Nat.mul_comm,Nat.mul_add_mod,Nat.mod_eq_of_lt hr]
  simp only[nN,g0,g1,g6,g7,g8,hz,VX,Nat.reduceEqDiff,Nat.reduceAdd]
  refine EW (m:=a / d) jS iC.symm (by omega) h1.symm ?_
  simp only[g7,VX,Nat.reduceEqDiff,Nat.reduceAdd]
  rw[h2]
  exact aH (by simp[aW,aK,vF,bP,lM])
end Go.PM
namespace Go.PM
section
variable {H:aB} {b g o i lo d:Nat} {L R:List VV} {low:List Nat}
theorem Xh (hr:aV H b g=some (L++low.map tV++R,1,true)) (ho:L.length=o) (hi:low[i]? = some d):gS false 1 (.ptr b g (o+i) 0) H=some (VI (d:Int)):=by
 have aX:=(List.getElem?_eq_some_iff.1 hi).1
 rw[MJ hr (x:=tV d) (by rw[LW ho (by simpa using aX)];simp[hi])]
 rfl
theorem Wb (hr:aV H b g=some (L++low.map tV++R,1,true)) (ho:L.length=o) (hi:i<low.length) (gY:lo≤b):dC lo 1 (.ptr b g (o+i) 0) (VI (d:Int)) H=some (H.set b (.row g (L++(low.set i d).map tV++R) 1 true)):=by
 rw[Dg hr (by simp only[List.length_append,List.length_map];omega) gY rfl rfl,RE ho (by simpa using hi),List.map_set]
theorem QO {n:Nat} {z:Int} (hr:aV H b g=some (L++low.map tV++VI z::R,1,true)) (ho:L.length=o) (hn:low.length=n):gS false 1 (.ptr b g (o+n) 0) H=some (VI z):=by
 rw[MJ hr (x:=VI z) (by rw[List.getElem?_append_right (by simp;omega)];simp[ho,hn])]
 rfl
theorem V4 {n:Nat} {z z':Int} (hr:aV H b g=some (L++low.map tV++VI z::R,1,true)) (ho:L.length=o) (hn:low.length=n) (gY:lo≤b):dC lo 1 (.ptr b g (o+n) 0) (VI z') H=some (H.set b (.row g (L++low.map tV++VI z'::R) 1 true)):=by
 rw[Dg hr (by simp only[List.length_append,List.length_map,List.length_cons];omega) gY rfl rfl,List.set_append_right _ _ (by simp;omega)]
 congr 5
 simp[ho,hn]
end
theorem MD {P A N B c u x t r k m q T:Nat} (h:A+P*c=N+t*B) (h1:r+m+c=u+T*k) (h2:m+T*q=x*t):(A+P*u)+P*T*(q+k)=(N+P*r)+t*(B+P*x):=by
 have e1:P*(r+m+c)=P*(u+T*k):=by rw[h1]
 have e2:P*(m+T*q)=P*(x*t):=by rw[h2]
 grind
theorem Vy {x t:Nat} (hx:x<1000000000) (ht:t<1000000000):x*t≤999999998000000001∧x*t / 1000000000≤999999998:=by
 have h:x*t≤999999999*999999999:=Nat.mul_le_mul (by omega) (by omega)
 omega
theorem T0 {H:aB} {lo b g o n N t top:Nat} {L R:List VV} {low vs:List Nat} (hr:aV H b g=some (L++low.map tV++VI (top:Int)::R,1,true)) (gY:lo≤b) (ho:L.length=o) (hl:low.length=n) (CR:vs.length=n) (hN:o+n<N) (A1:N≤70368744177664)
  (UY:∀d∈low,d<1000000000) (DC:∀d∈vs,d<1000000000) (ht:t<1000000000) (Vc:top<1000000000) :
  uG 239 [.ref b g 0 N N,gA vs,VI (o:Int),VI (t:Int)] lo H fun r H'=>∃(yU:List Nat) (c:Nat),H'=H.set b (.row g (L++yU.map tV++VI ((top:Int)-(c:Int))::R) 1 true)∧yU.length=n∧(∀d∈yU,d<1000000000)∧c≤1000000000 ∧
   r=VB (decide ((top:Int)-(c:Int)<0))∧val 1000000000 low+1000000000^n*c=val 1000000000 yU+t*val 1000000000 vs:=by
 refine uG.walk ⟨true,false⟩ DY (Nat.le_of_ble_eq_true rfl) ?_
 have rd:∀(s:List Nat) (z:Int),aV (H.set b (.row g (L++s.map tV++VI z::R) 1 true)) b g=some (L++s.map tV++VI z::R,1,true):=fun s z=>lI hr
 have ad:∀(K:aB) (es:List VV) (i:Nat),aV K b g=some (es,1,true)→i≤n→bF 1 (.ref b g 0 N N) (VI ((o+i:Nat):Int)) K=some (.ptr b g (o+i) 0):=fun K es i h hi=>by rw[bD h (by omega),Nat.zero_add]
 simp only[Av,wJ,dZ,VX,Nat.reduceEqDiff,Nat.reduceAdd]
 refine bB (fun(u:Nat×List Nat×Nat) ρ K=>u.1≤n∧K=H.set b (.row g (L++u.2.1.map tV++VI (top:Int)::R) 1 true)∧u.2.1.length=n∧(∀d∈u.2.1,d<1000000000)∧u.2.2≤1000000000∧val 1000000000 (low.take u.1)+1000000000^u.1*u.2.2=val 1000000000 (u.2.1.take u.1)+t*val 1000000000 (vs.take u.1)∧(∀j,u.1≤j→u.2.1[j]? = low[j]?) ∧
  ρ 0 = .ref b g 0 N N∧ρ 1=gA vs∧ρ 2=VI o∧ρ 3=VI t∧ρ 9=VI u.2.2∧ρ 13=gA vs∧ρ 14=VI vs.length∧ρ 15=VI u.1) (fun u=>n-u.1) (0,low,0) ⟨Nat.zero_le _,(tF hr).symm,hl,UY,by simp,by simp[val],fun _ _=>rfl,by (repeat' apply And.intro)<;>first | rfl | trivial⟩ ?_
 rintro⟨i,outs,c⟩ ρ K ⟨hi,rfl,iC,jS,hc,hv,Dx,k0,k1,k2,k3,k9,yZ,AF,Hx⟩
 simp only at hi iC jS hc hv Dx k9 Hx
 by_cases cX:(i:Int)<(vs.length:Int)
 ·obtain⟨u,hu⟩:∃u,outs[i]? = some u:=⟨_,List.getElem?_eq_getElem (by omega)⟩
  have lu:=jS u (List.mem_of_getElem? hu)
  have hu':low[i]? = some u:=by rw[←Dx i (Nat.le_refl _)];exact hu
  obtain⟨x,hx⟩:∃x,vs[i]? = some x:=⟨_,List.getElem?_eq_getElem (by omega)⟩
  have lx:=DC x (List.mem_of_getElem? hx)
  obtain⟨xt1,xt2⟩:=Vy lx ht
  have e1:bF 1 (gA vs) (VI i) (H.set b (.row g (L++outs.map tV++VI (top:Int)::R) 1 true))=some (.cO (tV x) 0):=aP (f:=tV) (t := .op) (size:=1) (k := .i64) hx rfl
  have w1:IntKind.i64.wrap ((o:Int)+(i:Int))=((o+i:Nat):Int):=wrapN _ (by omega) (by omega)
  have e2:=ad _ _ i (rd outs top) (by omega)
  have e3:=Xh (rd outs top) ho hu
  have e4:∀d:Nat,dC lo 1 (.ptr b g (o+i) 0) (VI (d:Int)) (H.set b (.row g (L++outs.map tV++VI (top:Int)::R) 1 true))=some (H.set b (.row g (L++(outs.set i d).map tV++VI (top:Int)::R) 1 true)):=fun d=>by rw[Wb (rd outs top) ho (by omega) gY,kJ]
  have w2:IntKind.i64.wrap ((x:Int)*(t:Int))=((x*t:Nat):Int):=wrapN _ (by simp) (by omega)
  have r1:=Kz (x*t)
  have q1:=Kf (x*t) (by omega)
  have hm:=Nat.mod_lt (x*t) (show 0<1000000000 by decide)
  have hdv:=Nat.mod_add_div (x*t) 1000000000
  have wi:IntKind.i64.wrap ((i:Int)+1)=((i+1:Nat):Int):=wrapN (i+1) (by omega) (by omega)
  generalize hmq:x*t % 1000000000=m at *
  generalize hqq:x*t / 1000000000=q at *
  have w3:IntKind.i64.wrap ((u:Int)-(m:Int))=(u:Int)-(m:Int):=wrap64 (by omega) (by omega)
  have w4:IntKind.i64.wrap ((u:Int)-(m:Int)-(c:Int))=(u:Int)-(m:Int)-(c:Int):=wrap64 (by omega) (by omega)
  have step:∀r k:Nat,r<1000000000→r+m+c=u+1000000000*k→val 1000000000 (low.take (i+1))+1000000000^(i+1)*(q+k)=val 1000000000 ((outs.set i r).take (i+1))+t*val 1000000000 (vs.take (i+1))∧(∀d∈outs.set i r,d<1000000000)∧(∀j,i+1≤j→(outs.set i r)[j]? = low[j]?)∧(outs.set i r).length=n:=by
   intro r k hr hk
   refine⟨?_,kC jS hr,fun j hj=>by rw[List.getElem?_set_ne (by omega)];exact Dx j (by omega),by rw[List.length_set];exact iC⟩
   rw[aS hu',aS hx,dL (by omega),Nat.pow_succ]
   exact MD hv hk hdv
  by_cases h1:(u:Int)-(m:Int)-(c:Int)<0
  ·have w5:IntKind.i64.wrap ((u:Int)-(m:Int)-(c:Int)+1000000000)=(u:Int)-(m:Int)-(c:Int)+1000000000:=wrap64 (by omega) (by omega)
   have w6:IntKind.i64.wrap ((q:Int)+1)=((q+1:Nat):Int):=wrapN _ (by omega) (by omega)
   by_cases h2:(u:Int)-(m:Int)-(c:Int)+1000000000<0
   ·obtain⟨r,hr⟩:∃r:Nat,r+m+c=u+1000000000*2:=⟨u+1000000000*2-m-c,by omega⟩
    have w7:IntKind.i64.wrap ((u:Int)-(m:Int)-(c:Int)+1000000000+1000000000)=(r:Int):=wrapN r (by omega) (by omega)
    have w8:IntKind.i64.wrap (((q+1:Nat):Int)+1)=((q+2:Nat):Int):=wrapN _ (by omega) (by omega)
    obtain⟨s1,s2,s3,s4⟩:=step r 2 (by omega) hr
    simp only[iQ,k0,k1,k2,k3,k9,yZ,AF,Hx,cX,e1,e2,e3,e4,w1,w2,w3,w4,w5,w6,w7,w8,wi,r1,q1,h1,h2,VX,Nat.reduceEqDiff,Nat.reduceAdd]
    refine⟨(i+1,outs.set i r,q+2),by simp only;omega,by omega,rfl,s4,s2,by simp only;omega,s1,s3,?_⟩
    try (repeat' apply And.intro)<;>first | rfl | trivial
   ·obtain⟨r,hr⟩:∃r:Nat,r+m+c=u+1000000000*1:=⟨u+1000000000*1-m-c,by omega⟩
    have w7:IntKind.i64.wrap ((u:Int)-(m:Int)-(c:Int)+1000000000)=(r:Int):=wrapN r (by omega) (by omega)
    have h3:¬(r:Int)<0:=by omega
    obtain⟨s1,s2,s3,s4⟩:=step r 1 (by omega) hr
    simp only[iQ,k0,k1,k2,k3,k9,yZ,AF,Hx,cX,e1,e2,e3,e4,w1,w2,w3,w4,w6,w7,wi,r1,q1,h1,h3,VX,Nat.reduceEqDiff,Nat.reduceAdd]
    refine⟨(i+1,outs.set i r,q+1),by simp only;omega,by omega,rfl,s4,s2,by simp only;omega,s1,s3,?_⟩
    try (repeat' apply And.intro)<;>first | rfl | trivial
  ·obtain⟨r,hr⟩:∃r:Nat,r+m+c=u+1000000000*0:=⟨u-m-c,by omega⟩
   have w7:IntKind.i64.wrap ((u:Int)-(m:Int)-(c:Int))=(r:Int):=wrapN r (by omega) (by omega)
   have h3:¬(r:Int)<0:=by omega
   obtain⟨s1,s2,s3,s4⟩:=step r 0 (by omega) hr
   simp only[iQ,k0,k1,k2,k3,k9,yZ,AF,Hx,cX,e1,e2,e3,e4,w1,w2,w3,w7,wi,r1,q1,h3,VX,Nat.reduceEqDiff,Nat.reduceAdd]
   refine⟨(i+1,outs.set i r,q),by simp only;omega,by omega,rfl,s4,s2,by simp only;omega,s1,s3,?_⟩
   try (repeat' apply And.intro)<;>first | rfl | trivial
 ·have qX:i=n:=by omega
  subst qX
  rw[List.take_of_length_le (by omega),List.take_of_length_le (by omega),List.take_of_length_le (by omega)] at hv
  have w1:IntKind.i64.wrap ((o:Int)+(vs.length:Int))=((o+i:Nat):Int):=wrapN _ (by omega) (by omega)
  have e2:=ad _ _ i (rd outs top) (by omega)
  have e2':=ad _ _ i (rd outs ((top:Int)-(c:Int))) (by omega)
  have e3:=QO (rd outs top) ho iC
  have e3':=QO (rd outs ((top:Int)-(c:Int))) ho iC
  have e4:dC lo 1 (.ptr b g (o+i) 0) (VI ((top:Int)-(c:Int))) (H.set b (.row g (L++outs.map tV++VI (top:Int)::R) 1 true))=some (H.set b (.row g (L++outs.map tV++VI ((top:Int)-(c:Int))::R) 1 true)):=by rw[V4 (rd outs top) ho iC gY,kJ]
  have w2:IntKind.i64.wrap ((top:Int)-(c:Int))=(top:Int)-(c:Int):=wrap64 (by omega) (by omega)
  simp only[iQ,k0,k1,k2,k3,k9,yZ,AF,Hx,cX,dZ,w1,w2,e2,e2',e3,e3',e4,VX,Nat.reduceEqDiff,Nat.reduceAdd]
  refine⟨outs,c,rfl,iC,jS,hc,?_,hv⟩
  try rfl
theorem SK {H:aB} {lo b g o n N:Nat} {z:Int} {L R:List VV} {low vs:List Nat} (hr:aV H b g=some (L++low.map tV++VI z::R,1,true)) (gY:lo≤b) (ho:L.length=o) (hl:low.length=n) (CR:vs.length=n) (hN:o+n<N) (A1:N≤70368744177664)
  (UY:∀d∈low,d<1000000000) (DC:∀d∈vs,d<1000000000) (hz : -1000000000≤z) (Pv:z≤1000000000) :
  uG 240 [.ref b g 0 N N,gA vs,VI (o:Int)] lo H fun r H'=>∃(yU:List Nat) (c:Nat),H'=H.set b (.row g (L++yU.map tV++VI (z+(c:Int))::R) 1 true)∧yU.length=n∧(∀d∈yU,d<1000000000)∧c≤1 ∧
   val 1000000000 low+val 1000000000 vs=val 1000000000 yU+1000000000^n*c:=by
 refine uG.walk ⟨true,false⟩ DP (Nat.le_of_ble_eq_true rfl) ?_
 have rd:∀(s:List Nat) (z:Int),aV (H.set b (.row g (L++s.map tV++VI z::R) 1 true)) b g=some (L++s.map tV++VI z::R,1,true):=fun s z=>lI hr
 have ad:∀(K:aB) (es:List VV) (i:Nat),aV K b g=some (es,1,true)→i≤n→bF 1 (.ref b g 0 N N) (VI ((o+i:Nat):Int)) K=some (.ptr b g (o+i) 0):=fun K es i h hi=>by rw[bD h (by omega),Nat.zero_add]
 simp only[Ap,wI,dZ,VX,Nat.reduceEqDiff,Nat.reduceAdd]
 refine bB (fun(u:Nat×List Nat×Nat) ρ K=>u.1≤n∧K=H.set b (.row g (L++u.2.1.map tV++VI z::R) 1 true)∧u.2.1.length=n∧(∀d∈u.2.1,d<1000000000)∧u.2.2≤1∧val 1000000000 (low.take u.1)+val 1000000000 (vs.take u.1)=val 1000000000 (u.2.1.take u.1)+1000000000^u.1*u.2.2∧(∀j,u.1≤j→u.2.1[j]? = low[j]?) ∧
  ρ 0 = .ref b g 0 N N∧ρ 1=gA vs∧ρ 2=VI o∧ρ 6=VI u.2.2∧ρ 10=gA vs∧ρ 11=VI vs.length∧ρ 12=VI u.1) (fun u=>n-u.1) (0,low,0) ⟨Nat.zero_le _,(tF hr).symm,hl,UY,by simp,by simp[val],fun _ _=>rfl,by (repeat' apply And.intro)<;>first | rfl | trivial⟩ ?_
 rintro⟨i,outs,c⟩ ρ K ⟨hi,rfl,iC,jS,hc,hv,Dx,k0,k1,k2,k6,Ux,R1,Gm⟩
 simp only at hi iC jS hc hv Dx k6 Gm
 by_cases cX:(i:Int)<(vs.length:Int)
 ·obtain⟨u,hu⟩:∃u,outs[i]? = some u:=⟨_,List.getElem?_eq_getElem (by omega)⟩
  have lu:=jS u (List.mem_of_getElem? hu)
  have hu':low[i]? = some u:=by rw[←Dx i (Nat.le_refl _)];exact hu
  obtain⟨x,hx⟩:∃x,vs[i]? = some x:=⟨_,List.getElem?_eq_getElem (by omega)⟩
  have lx:=DC x (List.mem_of_getElem? hx)
  have e1:bF 1 (gA vs) (VI i) (H.set b (.row g (L++outs.map tV++VI z::R) 1 true))=some (.cO (tV x) 0):=aP (f:=tV) (t := .op) (size:=1) (k := .i64) hx rfl
  have w1:IntKind.i64.wrap ((o:Int)+(i:Int))=((o+i:Nat):Int):=wrapN _ (by omega) (by omega)
  have e2:=ad _ _ i (rd outs z) (by omega)
  have e3:=Xh (rd outs z) ho hu
  have e4:∀d:Nat,dC lo 1 (.ptr b g (o+i) 0) (VI (d:Int)) (H.set b (.row g (L++outs.map tV++VI z::R) 1 true))=some (H.set b (.row g (L++(outs.set i d).map tV++VI z::R) 1 true)):=fun d=>by rw[Wb (rd outs z) ho (by omega) gY,kJ]
  have w2:IntKind.i64.wrap ((u:Int)+(x:Int))=((u+x:Nat):Int):=wrapN _ (by omega) (by omega)
  have w3:IntKind.i64.wrap (((u+x:Nat):Int)+(c:Int))=((u+x+c:Nat):Int):=wrapN _ (by omega) (by omega)
  have r1:=Kz (u+x+c)
  have q1:=Kf (u+x+c) (by omega)
  have wi:IntKind.i64.wrap ((i:Int)+1)=((i+1:Nat):Int):=wrapN (i+1) (by omega) (by omega)
  simp only[oN,k0,k1,k2,k6,Ux,R1,Gm,cX,e1,e2,e3,e4,w1,w2,w3,wi,r1,q1,VX,Nat.reduceEqDiff,Nat.reduceAdd]
  refine⟨(i+1,outs.set i ((u+x+c) % 1000000000),(u+x+c) / 1000000000),by simp only;omega,by omega,rfl,by rw[List.length_set];exact iC,kC jS (Nat.mod_lt _ (by decide)),by simp only;omega,?_,fun j hj=>by rw[List.getElem?_set_ne (by omega)];exact Dx j (by omega),?_⟩
  ·simp only
   rw[aS hu',aS hx,dL (by omega),Nat.pow_succ]
   exact De hv (show c+u+x=u+x+c by omega) (Nat.mod_add_div _ _)
  ·try (repeat' apply And.intro)<;>first | rfl | trivial
 ·have qX:i=n:=by omega
  subst qX
  rw[List.take_of_length_le (by omega),List.take_of_length_le (by omega),List.take_of_length_le (by omega)] at hv
  have w1:IntKind.i64.wrap ((o:Int)+(vs.length:Int))=((o+i:Nat):Int):=wrapN _ (by omega) (by omega)
  have e2:=ad _ _ i (rd outs z) (by omega)
  have e3:=QO (rd outs z) ho iC
  have e4:dC lo 1 (.ptr b g (o+i) 0) (VI (z+(c:Int))) (H.set b (.row g (L++outs.map tV++VI z::R) 1 true))=some (H.set b (.row g (L++outs.map tV++VI (z+(c:Int))::R) 1 true)):=by rw[V4 (rd outs z) ho iC gY,kJ]
  have w2:IntKind.i64.wrap (z+(c:Int))=z+(c:Int):=wrap64 (by omega) (by omega)
  simp only[oN,k0,k1,k2,k6,Ux,R1,Gm,cX,dZ,w1,w2,e2,e3,e4,VX,Nat.reduceEqDiff,Nat.reduceAdd]
  exact⟨outs,c,rfl,iC,jS,hc,hv⟩
end Go.PM
namespace Go.PM
abbrev H2 (us os:List Nat):aB:=[.row 0 (us.map tV) 1 true,.row 0 (os.map tV) 1 true]
theorem PZ {us os:List Nat}:aV (H2 us os) 0 0=some (us.map tV,1,true):=rfl
theorem afN {us os:List Nat}:aV (H2 us os) 1 0=some (os.map tV,1,true):=rfl
theorem YB {P a Z:Nat} {y:Int} (h:(a:Int)+(P:Int)*y=(Z:Int)) (ha:a<P) (hZ:Z<P):y=0∧a=Z:=by
 have hy:y=0:=by
  rcases Int.lt_trichotomy y 0 with h1 | h1 | h1
  ·have:(P:Int)*y≤(P:Int)*(-1):=Int.mul_le_mul_of_nonneg_left (by omega) (by omega)
   omega
  ·exact h1
  ·have:(P:Int)*1≤(P:Int)*y:=Int.mul_le_mul_of_nonneg_left (by omega) (by omega)
   omega
 subst hy
 rw[Int.mul_zero] at h
 exact⟨rfl,by omega⟩
theorem PE {us:List Nat} {i n N V:Nat} (hN:us.length=N) (cX:i+n<N) (hd:∀d∈us,d<1000000000) (hV:V<1000000000^n) (As:val 1000000000 (us.drop (i+1))<V) :
  us=us.take i++(us.drop i).take (n+1)++us.drop (i+(n+1))∧(us.take i).length=i∧((us.drop i).take (n+1)).length=n+1∧val 1000000000 ((us.drop i).take (n+1))<1000000000*V∧val 1000000000 (us.drop i)=val 1000000000 ((us.drop i).take (n+1))∧val 1000000000 (us.drop (i+(n+1)))=0∧∀j,j<n+1→((us.drop i).take (n+1))[j]? = us[i+j]? := by
 obtain⟨x,hx⟩:∃x,us[i]? = some x:=⟨_,List.getElem?_eq_getElem (by omega)⟩
 have lx:=hd x (List.mem_of_getElem? hx)
 have h1:=pR (b:=1000000000) hx
 have h2:val 1000000000 (us.drop i)<1000000000*V:=by
  have:1000000000*(val 1000000000 (us.drop (i+1))+1)≤1000000000*V:=Nat.mul_le_mul_left _ As
  omega
 have h3:=nC (b:=1000000000) (us.drop i) (n+1)
 have h4:((us.drop i).take (n+1)).length=n+1:=by rw[List.length_take,List.length_drop];omega
 rw[h4,List.drop_drop] at h3
 have h5:val 1000000000 (us.drop (i+(n+1)))=0:=by
  rcases Nat.eq_zero_or_pos (val 1000000000 (us.drop (i+(n+1)))) with h | h
  ·exact h
  ·have h6:1000000000^(n+1)*1≤1000000000^(n+1)*val 1000000000 (us.drop (i+(n+1))):=Nat.mul_le_mul_left _ h
   have h7:1000000000*V≤1000000000^(n+1):=by rw[Nat.pow_succ,Nat.mul_comm];exact Nat.mul_le_mul_right _ (by omega)
   omega
 rw[h5,Nat.mul_zero,Nat.add_zero] at h3
 refine⟨?_,by rw[List.length_take];omega,h4,by omega,h3,h5,fun j hj => ?_⟩
 ·rw[List.append_assoc,←List.drop_drop,List.take_append_drop,List.take_append_drop]
 ·rw[List.getElem?_take_of_lt hj,List.getElem?_drop]
theorem leT {g:Nat} (h:(1000000000:Int)≤(g:Int)):1000000000≤g:=by omega
theorem UT {g:Nat} (h:¬(1000000000:Int)≤(g:Int)):g<1000000000:=by omega
theorem ltC {a b:Nat} (h:(a:Int)<(b:Int)):a<b:=by omega
theorem ajP {a b:Nat} (h:¬(a:Int)<(b:Int)):b≤a:=by omega
theorem Kd {a:Nat} (h:a*1000000000≤9223372036854775807):IntKind.i64.wrap ((a:Int)*1000000000)=((a*1000000000:Nat):Int):=wrapN _ (by omega) h
theorem KT {a b:Nat} (h:a+b≤9223372036854775807):IntKind.i64.wrap ((a:Int)+(b:Int))=((a+b:Nat):Int):=wrapN _ (by omega) h
theorem SC {a b:Nat} (h:a*b≤9223372036854775807):IntKind.i64.wrap ((a:Int)*(b:Int))=((a*b:Nat):Int):=wrapN _ (by simp) h
theorem x17 {a:Nat} (h:a<1000000000):a*1000000000≤9223372036854775807:=by omega
theorem x18 {a b:Nat} (h:a<1000000000) (hb:b<1000000000):a*1000000000+b≤1000000000000000000:=by omega
theorem O4 {gD vs us os:List Nat} {n u2 u1 u0 v1 v0 N i g left:Nat} (G:sZ 1000000000 gD vs n u2 u1 u0 v1 v0) {ρ:cP} {Q:VQ} (hN:us.length=N) (hiN:i+(n+2)<N) (A1:N≤70368744177664) (Ya:us[i+n]? = some u0)
  (g13:ρ 13 = .ref 0 0 0 N N) (g14:ρ 14=gA vs) (g15:ρ 15=VI ((n+2:Nat):Int)) (g17:ρ 17=VI i) (g19:ρ 19=VI g) (g20:ρ 20=VI left) (hh:u2*1000000000+u1=g*v1+left) (hq:val 1000000000 gD / val 1000000000 vs≤g) (hl:left<1000000000) (hgb:g≤1000000000000000000)
  (hQ:∀(aU:cP) (g':Nat),val 1000000000 gD / val 1000000000 vs≤g'→g'≤val 1000000000 gD / val 1000000000 vs+1→g'<1000000000→aU 19=VI g'→aU 12=ρ 12→aU 13=ρ 13→aU 14=ρ 14→aU 15=ρ 15→aU 16=ρ 16→aU 17=ρ 17→Q (.exit 2) aU (H2 us os)) :
  VW ⟨true,false⟩ 0 (.loop fF) Q ρ (H2 us os):=by
 have lv1:=G.Sd
 have lv0:=G.W1
 have lu0:=G.ZC
 have qlt:=G.Yb
 have jN:=G.pos
 have CR:=G.I3
 refine bB (fun(t:Nat×Nat) aU H=>H=H2 us os∧u2*1000000000+u1=t.1*v1+t.2∧val 1000000000 gD / val 1000000000 vs≤t.1∧t.2<1000000000∧t.1≤1000000000000000000 ∧
  aU 13 = .ref 0 0 0 N N∧aU 14=gA vs∧aU 15=VI ((n+2:Nat):Int)∧aU 17=VI i∧aU 19=VI t.1∧aU 20=VI t.2∧aU 12=ρ 12∧aU 16=ρ 16) (fun t=>1000000000-t.2) (g,left) ⟨rfl,hh,hq,hl,hgb,g13,g14,g15,g17,g19,g20,rfl,rfl⟩ ?_
 rintro⟨g,left⟩ Ke H ⟨rfl,hh,hq,hl,hgb,yZ,AF,Hx,E5,XK,k20,Gm,Xx⟩
 simp only at hh hq hl hgb XK k20
 have f1:bF 1 (gA vs) (VI ((n+1:Nat):Int)) (H2 us os)=some (.cO (tV v1) 0):=aP (f:=tV) (t := .op) (size:=1) (k := .i64) G.f1 rfl
 have f0:bF 1 (gA vs) (VI (n:Int)) (H2 us os)=some (.cO (tV v0) 0):=aP (f:=tV) (t := .op) (size:=1) (k := .i64) G.f0 rfl
 have wn2:IntKind.i64.wrap (((n+2:Nat):Int)-2)=(n:Int):=wrapN _ (by omega) (by omega)
 have wn1:IntKind.i64.wrap (((n+2:Nat):Int)-1)=((n+1:Nat):Int):=wrapN _ (by omega) (by omega)
 have wi:IntKind.i64.wrap ((i:Int)+((n+2:Nat):Int))=((i+(n+2):Nat):Int):=wrapN _ (by omega) (by omega)
 have wi2:IntKind.i64.wrap (((i+(n+2):Nat):Int)-2)=((i+n:Nat):Int):=wrapN _ (by omega) (by omega)
 have e1:bF 1 (.ref 0 0 0 N N) (VI ((i+n:Nat):Int)) (H2 us os)=some (.ptr 0 0 (i+n) 0):=by rw[bD PZ (by omega),Nat.zero_add]
 have e2:gS false 1 (.ptr 0 0 (i+n) 0) (H2 us os)=some (VI (u0:Int)):=Iw PZ Ya
 have wl:IntKind.i64.wrap ((left:Int)+(v1:Int))=((left+v1:Nat):Int):=wrapN _ (by omega) (by omega)
 have down:val 1000000000 gD / val 1000000000 vs<g→∃g',g=g'+1∧IntKind.i64.wrap ((g:Int)-1)=(g':Int)∧u2*1000000000+u1=g'*v1+(left+v1)∧val 1000000000 gD / val 1000000000 vs≤g':=by
  intro h
  have Zp:1≤g:=Nat.lt_of_le_of_lt (Nat.zero_le _) h
  obtain⟨g',rfl⟩:∃g',g=g'+1:=⟨g-1,by omega⟩
  refine⟨g',rfl,wrapN _ (by omega) (by omega),?_,by omega⟩
  rw[hh,Nat.add_mul]
  omega
 have hmu:∀g':Nat,left+v1<1000000000→1000000000-(g',left+v1).2<1000000000-(g,left).2:=fun g' h=>by
  show 1000000000-(left+v1)<1000000000-left
  omega
 have hle:∀g':Nat,g=g'+1→g'≤1000000000000000000:=fun g' h=>by
  omega
 have alY:left*1000000000+u0≤9223372036854775807:=Nat.le_trans (x18 hl lu0) (by decide)
 have amQ:left*1000000000≤9223372036854775807:=x17 hl
 have ws:IntKind.i64.wrap ((left:Int)*1000000000)=((left*1000000000:Nat):Int):=Kd amQ
 have wa:IntKind.i64.wrap (((left*1000000000:Nat):Int)+(u0:Int))=((left*1000000000+u0:Nat):Int):=KT alY
 obtain⟨s13,s14,s15,s17⟩:Ke 13=ρ 13∧Ke 14=ρ 14∧Ke 15=ρ 15∧Ke 17=ρ 17:=⟨by rw[yZ,g13],by rw[AF,g14],by rw[Hx,g15],by rw[E5,g17]⟩
 by_cases hA:(1000000000:Int)≤(g:Int)
 ·have hA':=leT hA
  obtain⟨g',UF,wg,Qr,JQ⟩:=down (Nat.lt_of_lt_of_le qlt hA')
  by_cases hB:(1000000000:Int)≤((left+v1:Nat):Int)
  ·obtain⟨c1,c2⟩:=G.broken Qr (leT hB)
   simp only[fF,yZ,AF,Hx,E5,XK,k20,hA,hB,f1,wn1,wg,wl,VX,Nat.reduceEqDiff,Nat.reduceAdd]
   exact hQ _ g' JQ (G.Sw Qr (Nat.le_of_lt c1) c2) c1 rfl Gm s13 s14 s15 Xx s17
  ·simp only[fF,yZ,AF,Hx,E5,XK,k20,hA,hB,f1,wn1,wg,wl,VX,Nat.reduceEqDiff,Nat.reduceAdd]
   refine⟨(g',left+v1),hmu g' (UT hB),Qr,JQ,UT hB,hle g' UF,?_⟩
   exact⟨rfl,rfl,Gm,Xx⟩
 ·have hA':=UT hA
  have hgv:g*v0≤999999999*999999999:=Nat.mul_le_mul (Nat.le_of_lt_succ hA') (Nat.le_of_lt_succ lv0)
  have wm:IntKind.i64.wrap ((g:Int)*(v0:Int))=((g*v0:Nat):Int):=SC (Nat.le_trans hgv (by decide))
  by_cases hT:((left*1000000000+u0:Nat):Int)<((g*v0:Nat):Int)
  ·obtain⟨g',UF,wg,Qr,JQ⟩:=down (G.too hh (ltC hT))
   by_cases hB:(1000000000:Int)≤((left+v1:Nat):Int)
   ·obtain⟨c1,c2⟩:=G.broken Qr (leT hB)
    simp only[fF,yZ,AF,Hx,E5,XK,k20,hA,hB,hT,f1,f0,e1,e2,wn1,wn2,wi,wi2,ws,wa,wm,wg,wl,VX,Nat.reduceEqDiff,Nat.reduceAdd]
    exact hQ _ g' JQ (G.Sw Qr (Nat.le_of_lt c1) c2) c1 rfl Gm s13 s14 s15 Xx s17
   ·simp only[fF,yZ,AF,Hx,E5,XK,k20,hA,hB,hT,f1,f0,e1,e2,wn1,wn2,wi,wi2,ws,wa,wm,wg,wl,VX,Nat.reduceEqDiff,Nat.reduceAdd]
    refine⟨(g',left+v1),hmu g' (UT hB),Qr,JQ,UT hB,hle g' UF,?_⟩
    exact⟨rfl,rfl,Gm,Xx⟩
  ·simp only[fF,yZ,AF,Hx,E5,XK,k20,hA,hT,f0,e1,e2,wn2,wi,wi2,ws,wa,wm,VX,Nat.reduceEqDiff,Nat.reduceAdd]
   exact hQ _ g hq (G.Sw hh (Nat.le_of_lt hA') (ajP hT)) hA' XK Gm s13 s14 s15 Xx s17
theorem KN {Cm Uq vs:List Nat} {N m n v1 v0 A s:Nat} {ρ:cP} {Q:VQ} (hN:Cm.length=N) (hm:m+(n+2)=N) (A1:N≤70368744177664) (Gq:∀d∈Cm,d<1000000000) (CR:vs.length=n+2) (DC:∀d∈vs,d<1000000000) (f1:vs[n+1]? = some v1) (f0:vs[n]? = some v0) (jN:1≤v1)
  (hA:val 1000000000 Cm=A) (As:val 1000000000 (Cm.drop m)<val 1000000000 vs) (iC:Uq.length=m) (jS:∀d∈Uq,d<1000000000)
  (g12:ρ 12=VI s) (g13:ρ 13 = .ref 0 0 0 N N) (g14:ρ 14=gA vs) (g15:ρ 15=VI ((n+2:Nat):Int)) (g16:ρ 16 = .ref 1 0 0 m m) (g17:ρ 17=VI ((m:Int)-1))
  (hQ:∀(aU:cP) (us os:List Nat),aU 12=VI s→aU 13 = .ref 0 0 0 N N→aU 16 = .ref 1 0 0 m m→us.length=N→(∀d∈us,d<1000000000)→os.length=m→(∀d∈os,d<1000000000)→val 1000000000 us+val 1000000000 vs*val 1000000000 os=A→val 1000000000 us<val 1000000000 vs→Q (.exit 0) aU (H2 us os)) :
  VW ⟨true,false⟩ 0 (.loop gQ) Q ρ (H2 Cm Uq):=by
 have hVb:=mO DC
 rw[CR] at hVb
 refine bB (fun(t:Nat×List Nat×List Nat) aU H=>t.1≤m∧H=H2 t.2.1 t.2.2∧t.2.1.length=N∧(∀d∈t.2.1,d<1000000000)∧t.2.2.length=m∧(∀d∈t.2.2,d<1000000000)∧val 1000000000 (t.2.1.drop t.1)<val 1000000000 vs∧val 1000000000 t.2.1+1000000000^t.1*val 1000000000 vs*val 1000000000 (t.2.2.drop t.1)=A ∧
  aU 12=VI s∧aU 13 = .ref 0 0 0 N N∧aU 14=gA vs∧aU 15=VI ((n+2:Nat):Int)∧aU 16 = .ref 1 0 0 m m∧aU 17=VI ((t.1:Int)-1)) (fun t=>t.1) (m,Cm,Uq) ⟨Nat.le_refl _,rfl,hN,Gq,iC,jS,As,by rw[List.drop_of_length_le (by simp only;omega)];simpa[val] using hA,g12,g13,g14,g15,g16,g17⟩ ?_
 rintro⟨j,us,os⟩ Ke H ⟨hj,rfl,MS,Gq,iC,jS,aX,hv,Gm,yZ,AF,Hx,Xx,E5⟩
 simp only at hj MS Gq iC jS aX hv E5
 by_cases hz:(0:Int)≤(j:Int)-1
 ·obtain⟨i,rfl⟩:∃i,j=i+1:=⟨j-1,by omega⟩
  have J2:((i+1:Nat):Int)-1=(i:Int):=by omega
  rw[J2] at E5 hz
  obtain⟨QF,AE,Lv,hsW,Wc,Vv,wB⟩:=PE (n:=n+2) MS (by omega) Gq hVb aX
  generalize TH:(us.drop i).take (n+2+1)=gD at *
  have Mf:∀d∈gD,d<1000000000:=fun d hd=>by rw[←TH] at hd;exact Gq d (List.mem_of_mem_drop (List.mem_of_mem_take hd))
  obtain⟨u2,Ze⟩:∃u2,us[i+(n+2)]? = some u2:=⟨_,List.getElem?_eq_getElem (by omega)⟩
  obtain⟨u1,XA⟩:∃u1,us[i+(n+1)]? = some u1:=⟨_,List.getElem?_eq_getElem (by omega)⟩
  obtain⟨u0,Ya⟩:∃u0,us[i+n]? = some u0:=⟨_,List.getElem?_eq_getElem (by omega)⟩
  have G:sZ 1000000000 gD vs n u2 u1 u0 v1 v0:=⟨by decide,Mf,DC,Lv,CR,by rw[wB _ (by omega)];exact Ze,by rw[wB _ (by omega)];exact XA,by rw[wB _ (by omega)];exact Ya,f1,f0,jN,hsW⟩
  have lu2:=G.ZF
  have lu1:=G.Vm
  have lv1:=G.Sd
  have qlt:=G.Yb
  have EK:=G.EK
  have w1:IntKind.i64.wrap ((i:Int)+((n+2:Nat):Int))=((i+(n+2):Nat):Int):=wrapN _ (by omega) (by omega)
  have w2:IntKind.i64.wrap (((i+(n+2):Nat):Int)-1)=((i+(n+1):Nat):Int):=wrapN _ (by omega) (by omega)
  have wn1:IntKind.i64.wrap (((n+2:Nat):Int)-1)=((n+1:Nat):Int):=wrapN _ (by omega) (by omega)
  have ev1:bF 1 (gA vs) (VI ((n+1:Nat):Int)) (H2 us os)=some (.cO (tV v1) 0):=aP (f:=tV) (t := .op) (size:=1) (k := .i64) f1 rfl
  have e2:bF 1 (.ref 0 0 0 N N) (VI ((i+(n+2):Nat):Int)) (H2 us os)=some (.ptr 0 0 (i+(n+2)) 0):=by rw[bD PZ (by omega),Nat.zero_add]
  have e1:bF 1 (.ref 0 0 0 N N) (VI ((i+(n+1):Nat):Int)) (H2 us os)=some (.ptr 0 0 (i+(n+1)) 0):=by rw[bD PZ (by omega),Nat.zero_add]
  have l2:gS false 1 (.ptr 0 0 (i+(n+2)) 0) (H2 us os)=some (VI (u2:Int)):=Iw PZ Ze
  have l1:gS false 1 (.ptr 0 0 (i+(n+1)) 0) (H2 us os)=some (VI (u1:Int)):=Iw PZ XA
  have anM:u2*1000000000+u1≤1000000000000000000:=x18 lu2 lu1
  have amF:u2*1000000000≤9223372036854775807:=x17 lu2
  have afW:u2*1000000000+u1≤9223372036854775807:=Nat.le_trans anM (by decide)
  have ws2:IntKind.i64.wrap ((u2:Int)*1000000000)=((u2*1000000000:Nat):Int):=Kd amF
  have wa:IntKind.i64.wrap (((u2*1000000000:Nat):Int)+(u1:Int))=((u2*1000000000+u1:Nat):Int):=KT afW
  have q1:=Hp (u2*1000000000+u1) v1 afW jN
  have q2:=Ja (u2*1000000000+u1) v1 jN
  simp only[gQ,Gm,yZ,AF,Hx,Xx,E5,hz,w1,w2,wn1,ev1,e1,e2,l1,l2,ws2,wa,q1,q2,VX,Nat.reduceEqDiff,Nat.reduceAdd]
  clear ws2 wa q1 q2 e1 e2 l1 l2 ev1 w1 w2 wn1
  have hh:=Nat.mod_add_div (u2*1000000000+u1) v1
  have hml:=Nat.mod_lt (u2*1000000000+u1) jN
  have hdl:(u2*1000000000+u1) / v1≤u2*1000000000+u1:=Nat.div_le_self _ _
  have JN:val 1000000000 gD / val 1000000000 vs≤(u2*1000000000+u1) / v1:=by
   have t1:=(Bd (n:=n+1) (xs:=gD) Mf (by omega) (by rw[wB _ (by omega)];exact Ze) (by rw[wB _ (by omega)];exact XA)).2
   have t2:=(xB (n:=n+1) DC CR f1).1
   rw[Nat.le_div_iff_mul_le jN]
   have t3:val 1000000000 gD / val 1000000000 vs*(v1*1000000000^(n+1))≤val 1000000000 gD / val 1000000000 vs*val 1000000000 vs:=Nat.mul_le_mul_left _ t2
   have t4:=Nat.div_mul_le_self (val 1000000000 gD) (val 1000000000 vs)
   have t5:val 1000000000 gD / val 1000000000 vs*v1*1000000000^(n+1)<(u2*1000000000+u1+1)*1000000000^(n+1):=by rw[Nat.mul_assoc];omega
   have:=Nat.lt_of_mul_lt_mul_right t5
   omega
  generalize hQ1:(u2*1000000000+u1) / v1=g0 at *
  generalize hQ2:(u2*1000000000+u1) % v1=l0 at *
  refine O4 (i:=i) G MS (by omega) A1 Ya yZ AF Hx E5 (by rfl) (by rfl) (by rw[Nat.mul_comm g0];omega) JN (by omega) (by omega) ?_
  intro P6 g' hq JQ hgW r19 Zh Ym r14 r15 r16 r17
  have N3:P6 12=VI s:=Zh.trans Gm
  have M5:P6 13 = .ref 0 0 0 N N:=Ym.trans yZ
  have Of:P6 14=gA vs:=r14.trans AF
  have N6:P6 15=VI ((n+2:Nat):Int):=r15.trans Hx
  have Y5:P6 16 = .ref 1 0 0 m m:=r16.trans Xx
  have X1:P6 17=VI i:=r17.trans E5
  simp only[N3,M5,Of,N6,Y5,X1,r19,VX,Nat.reduceEqDiff,Nat.reduceAdd]
  have vG:g'*val 1000000000 vs≤val 1000000000 gD+val 1000000000 vs:=by
   have:=Nat.mul_le_mul_right (val 1000000000 vs) JQ
   rw[Nat.add_mul,Nat.one_mul] at this
   have:=Nat.div_mul_le_self (val 1000000000 gD) (val 1000000000 vs)
   omega
  obtain⟨low,abJ⟩:∃low,low=gD.take (n+2):=⟨_,rfl⟩
  have hll:low.length=n+2:=by rw[abJ,List.length_take];omega
  have UY:∀d∈low,d<1000000000:=fun d hd=>Mf d (by rw[abJ] at hd;exact List.mem_of_mem_take hd)
  have hsg:gD=low++[u2]:=by
   have h1:gD[n+2]? = some u2:=by rw[wB _ (by omega)];exact Ze
   have h2:=List.take_append_drop (n+2) gD
   have h3:=(List.getElem?_eq_some_iff.1 h1)
   rw[List.drop_eq_getElem_cons h3.1,h3.2,List.drop_of_length_le (by omega),←abJ] at h2
   exact h2.symm
  have MU:val 1000000000 gD=val 1000000000 low+1000000000^(n+2)*u2:=by rw[hsg,pH,hll]
  have E4:∀(lw:List Nat) (t:Nat),(us.take i).map tV++lw.map tV++VI (t:Int)::(us.drop (i+(n+2+1))).map tV=(us.take i++(lw++[t])++us.drop (i+(n+2+1))).map tV:=fun lw t=>by simp
  have XH:aV (H2 us os) 0 0=some ((us.take i).map tV++low.map tV++VI (u2:Int)::(us.drop (i+(n+2+1))).map tV,1,true):=by
   rw[E4,←hsg,←QF]
   rfl
  refine oX rfl ((T0 (o:=i) (n:=n+2) XH (Nat.zero_le _) (by simpa using AE) hll CR (by omega) A1 UY DC hgW lu2).mono ?_)
  rintro r H' ⟨yU,c,rfl,AO,UL,hc,hr,hE⟩
  have apF:val 1000000000 low<1000000000^(n+2):=by have:=mO UY;rwa [hll] at this
  have akQ:val 1000000000 yU<1000000000^(n+2):=by have:=mO UL;rwa [AO] at this
  have rows:∀(lw:List Nat) (t q:Nat),lw.length=n+2→(∀d∈lw,d<1000000000)→t<1000000000→q=val 1000000000 gD / val 1000000000 vs→val 1000000000 lw+1000000000^(n+2)*t=val 1000000000 gD % val 1000000000 vs →
    ((us.take i++(lw++[t])++us.drop (i+(n+2+1))).length=N∧(∀d∈us.take i++(lw++[t])++us.drop (i+(n+2+1)),d<1000000000)∧val 1000000000 ((us.take i++(lw++[t])++us.drop (i+(n+2+1))).drop i)<val 1000000000 vs∧val 1000000000 (us.take i++(lw++[t])++us.drop (i+(n+2+1)))+1000000000^i*val 1000000000 vs*val 1000000000 ((os.set i q).drop i)=A):=by
   intro lw t q hlw alH ht Pt Xy
   have Zo:val 1000000000 (lw++[t])=val 1000000000 gD % val 1000000000 vs:=by rw[pH,hlw];exact Xy
   have ajH:(lw++[t]).length=n+3:=by rw[List.length_append,hlw];rfl
   have anF:∀d∈lw++[t],d<1000000000:=fun d hd=>by
    rcases List.mem_append.1 hd with h | h
    ·exact alH d h
    ·rw[List.mem_singleton.1 h];exact ht
   generalize lw++[t]=oS at *
   have XU:=Nat.mod_lt (val 1000000000 gD) EK
   have PD:(us.take i++oS++us.drop (i+(n+2+1))).drop i=oS++us.drop (i+(n+2+1)):=by rw[List.append_assoc,List.drop_append,List.drop_of_length_le (by omega),AE];simp
   have Qf:(us.take i++oS++us.drop (i+(n+2+1))).take i=us.take i:=by rw[List.append_assoc,List.take_append_of_le_length (by omega),List.take_of_length_le (by omega)]
   have Pp:val 1000000000 ((us.take i++oS++us.drop (i+(n+2+1))).drop i)=val 1000000000 oS:=by rw[PD,uR,Vv,Nat.mul_zero,Nat.add_zero]
   refine⟨by rw[List.length_append,List.length_append,AE,ajH,List.length_drop];omega,fun d hd => ?_,by rw[Pp,Zo];exact XU,?_⟩
   ·rw[List.mem_append,List.mem_append] at hd
    rcases hd with(hd | hd) | hd
    ·exact Gq d (List.mem_of_mem_take hd)
    ·exact anF d hd
    ·exact Gq d (List.mem_of_mem_drop hd)
   ·have h1:=Nat.div_add_mod (val 1000000000 gD) (val 1000000000 vs)
    rw[←Pt,←Zo,Nat.mul_comm] at h1
    have h2:=nC (b:=1000000000) us i
    have h3:=nC (b:=1000000000) (us.take i++oS++us.drop (i+(n+2+1))) i
    rw[Qf,AE,Pp] at h3
    rw[AE,Wc] at h2
    rw[set_drop (by omega),qB,h3]
    rw[h2,Nat.pow_succ] at hv
    exact IV h1.symm hv
  have e3:∀(EE:List Nat) (d:Nat),bF 1 (.ref 1 0 0 m m) (VI i) (H2 EE os)=some (.ptr 1 0 i 0)∧dC 0 1 (.ptr 1 0 i 0) (VI (d:Int)) (H2 EE os)=some (H2 EE (os.set i d)):=fun EE d=>by
   refine⟨by rw[bD afN (by omega),Nat.zero_add],?_⟩
   rw[show VI (d:Int)=tV d from rfl,fX (f:=tV) (e:=1) afN (by omega) (Nat.zero_le _) rfl rfl]
   rfl
  have wi:IntKind.i64.wrap ((i:Int)-1)=(i:Int)-1:=wrap64 (by omega) (by omega)
  have hdm:=Nat.div_add_mod (val 1000000000 gD) (val 1000000000 vs)
  have XU:=Nat.mod_lt (val 1000000000 gD) EK
  generalize hPP:1000000000^(n+2)=P at *
  by_cases lL:(u2:Int)-(c:Int)<0
  ·
   rw[decide_eq_true lL] at hr
   subst hr
   have hgt:val 1000000000 gD<g'*val 1000000000 vs:=by
    have h1:P*(u2+1)≤P*c:=Nat.mul_le_mul_left _ (by omega)
    rw[Nat.mul_add,Nat.mul_one] at h1
    omega
   have Pt:g'=val 1000000000 gD / val 1000000000 vs+1:=by
    rcases Nat.lt_or_ge (val 1000000000 gD / val 1000000000 vs) g' with h | h
    ·omega
    ·have h1:g'*val 1000000000 vs≤val 1000000000 gD / val 1000000000 vs*val 1000000000 vs:=Nat.mul_le_mul_right _ h
     have:=Nat.div_mul_le_self (val 1000000000 gD) (val 1000000000 vs)
     omega
   have Zp:1≤g':=by rw[Pt];exact Nat.le_add_left 1 _
   have wg:IntKind.i64.wrap ((g':Int)-1)=((g'-1:Nat):Int):=wrapN _ (by omega) (by omega)
   simp only[N3,M5,Of,N6,Y5,X1,r19,wg,VX,Nat.reduceEqDiff,Nat.reduceAdd]
   have hr1:aV ((H2 us os).set 0 (.row 0 ((us.take i).map tV++yU.map tV++VI ((u2:Int)-(c:Int))::(us.drop (i+(n+2+1))).map tV) 1 true)) 0 0=some ((us.take i).map tV++yU.map tV++VI ((u2:Int)-(c:Int))::(us.drop (i+(n+2+1))).map tV,1,true):=rfl
   refine oX rfl ((SK (o:=i) (n:=n+2) hr1 (Nat.zero_le _) (by simpa using AE) AO CR (by omega) A1 UL DC (by omega) (by omega)).mono ?_)
   rintro r H' ⟨PT,c2,rfl,Ge,hd2,XD,hE2⟩
   rw[hPP] at hE2
   have aaW:val 1000000000 PT<P:=by have:=mO hd2;rwa [Ge,hPP] at this
   obtain⟨hy,hZ⟩:(u2:Int)-(c:Int)+(c2:Int)=0∧val 1000000000 PT=val 1000000000 gD % val 1000000000 vs:=by
    refine YB (P:=P) ?_ aaW (by omega)
    have i1:(P:Int)*((u2:Int)-(c:Int)+(c2:Int))=(P:Int)*u2-(P:Int)*c+(P:Int)*c2:=by rw[Int.mul_add,Int.mul_sub]
    have i2:((P*u2:Nat):Int)=(P:Int)*u2:=by simp
    have i3:((P*c:Nat):Int)=(P:Int)*c:=by simp
    have i4:((P*c2:Nat):Int)=(P:Int)*c2:=by simp
    rw[i1,←i2,←i3,←i4]
    have i5:g'*val 1000000000 vs=val 1000000000 vs*(val 1000000000 gD / val 1000000000 vs)+val 1000000000 vs:=by rw[Pt,Nat.add_mul,Nat.one_mul,Nat.mul_comm (val 1000000000 vs)]
    omega
   have Fk:((H2 us os).set 0 (.row 0 ((us.take i).map tV++yU.map tV++VI ((u2:Int)-(c:Int))::(us.drop (i+(n+2+1))).map tV) 1 true)).set 0 (.row 0 ((us.take i).map tV++PT.map tV++VI ((u2:Int)-(c:Int)+(c2:Int))::(us.drop (i+(n+2+1))).map tV) 1 true)=H2 (us.take i++(PT++[0])++us.drop (i+(n+2+1))) os:=by
    rw[hy]
    rw[show (0:Int)=((0:Nat):Int) from rfl,E4]
    rfl
   rw[Fk]
   obtain⟨x1,x2⟩:=e3 (us.take i++(PT++[0])++us.drop (i+(n+2+1))) (g'-1)
   obtain⟨y1,y2,y3,y4⟩:=rows PT 0 (g'-1) Ge hd2 (by decide) (by rw[Pt,Nat.add_sub_cancel]) (by rw[Nat.mul_zero,Nat.add_zero];exact hZ)
   simp only[N3,M5,Of,N6,Y5,X1,x1,x2,wi,VX,Nat.reduceEqDiff,Nat.reduceAdd]
   refine⟨(i,us.take i++(PT++[0])++us.drop (i+(n+2+1)),os.set i (g'-1)),by simp only;omega,by omega,rfl,y1,y2,by rw[List.length_set];exact iC,kC jS (by omega),y3,y4,?_⟩
   try (repeat' apply And.intro)<;>first | rfl | trivial
  ·rw[decide_eq_false lL] at hr
   subst hr
   obtain⟨t',Yr⟩:∃t':Nat,(u2:Int)-(c:Int)=(t':Int):=⟨u2-c,by omega⟩
   have hP1:P*u2=P*c+P*t':=by rw[←Nat.mul_add];congr 1;omega
   have Cl:g'*val 1000000000 vs≤val 1000000000 gD:=by omega
   have Pt:g'=val 1000000000 gD / val 1000000000 vs:=by
    have:=(Nat.le_div_iff_mul_le EK).2 Cl
    omega
   have Fk:(H2 us os).set 0 (.row 0 ((us.take i).map tV++yU.map tV++VI ((u2:Int)-(c:Int))::(us.drop (i+(n+2+1))).map tV) 1 true)=H2 (us.take i++(yU++[t'])++us.drop (i+(n+2+1))) os:=by
    rw[Yr,E4]
    rfl
   rw[Fk]
   obtain⟨x1,x2⟩:=e3 (us.take i++(yU++[t'])++us.drop (i+(n+2+1))) g'
   have Xy:val 1000000000 yU+P*t'=val 1000000000 gD % val 1000000000 vs:=by
    rw[←Pt,Nat.mul_comm] at hdm
    omega
   obtain⟨y1,y2,y3,y4⟩:=rows yU t' g' AO UL (by omega) Pt Xy
   simp only[N3,M5,Of,N6,Y5,X1,r19,x1,x2,wi,VX,Nat.reduceEqDiff,Nat.reduceAdd]
   refine⟨(i,us.take i++(yU++[t'])++us.drop (i+(n+2+1)),os.set i g'),by simp only;omega,by omega,rfl,y1,y2,by rw[List.length_set];exact iC,kC jS (by omega),y3,y4,?_⟩
   try (repeat' apply And.intro)<;>first | rfl | trivial
 ·have Qu:j=0:=by omega
  subst Qu
  rw[Nat.pow_zero,Nat.one_mul,List.drop_zero] at hv
  rw[List.drop_zero] at aX
  simp only[gQ,Gm,yZ,AF,Hx,Xx,E5,hz,VX,Nat.reduceEqDiff,Nat.reduceAdd]
  exact hQ _ us os Gm yZ Xx MS Gq iC jS hv aX
end Go.PM
namespace Go.PM
theorem Kt {ds:List Nat} {H:aB}:eY 1 (gA ds) H=some (ds.map tV):=by
 have:((ds.map tV).all fun x=>(aA x).length == 1&&(aA x).all cJ)=true:=by
  rw[List.all_eq_true]
  intro x hx
  obtain⟨d,_,rfl⟩:=List.mem_map.1 hx
  rfl
 simp only[eY,gA,bT,this,if_true]
theorem B0 (n:Nat) {H:aB}:eY 1 (bP n) H=some ((aC 1000000000 n).map tV):=Kt
theorem Fy {a n:Nat} (hn:(aC 1000000000 a).length=n+1):∃d,(aC 1000000000 a)[n]? = some d∧d≠0∧d<1000000000:=by
 obtain⟨d,hd⟩:∃d,(aC 1000000000 a)[n]? = some d:=⟨_,List.getElem?_eq_getElem (by omega)⟩
 refine⟨d,hd,fun h0 => ?_,eE (by decide) a d (List.mem_of_getElem? hd)⟩
 have:=J7 (b:=1000000000) (by decide) a
 rw[List.getLast?_eq_getElem?,hn,Nat.add_sub_cancel,hd,h0] at this
 exact this rfl
theorem Ta {a d:Nat} (h:aC 1000000000 a=[d]):a=d∧0<d∧d<1000000000:=by
 have h1:=bW (b:=1000000000) (by decide) a
 rw[h,val_one] at h1
 obtain⟨e,h2,h3,h4⟩:=Fy (a:=a) (n:=0) (by rw[h];rfl)
 rw[h] at h2
 cases h2
 exact⟨h1.symm,by omega,h4⟩
theorem acL {a:Nat} (h:(aC 1000000000 a).length≤2):a<1000000000000000000:=by
 have h1:=fN (b:=1000000000) (by decide) a
 have h2:1000000000^(aC 1000000000 a).length≤1000000000^2:=Nat.pow_le_pow_right (by decide) h
 omega
theorem Xw {H:aB} {u v:VV} (hu:aW u=true) (hv:aW v=true):fz depth H (.eK [u,v])=some (.eK [u,v]):=aH (by simp only[aW,aK,hu,hv,Bool.and_self])
theorem agJ {X N:Nat} (h:(aC 1000000000 X).length≤N):K1 0 1 (.ref 0 0 0 N N) (bP X) [.row 0 ((List.replicate N 0).map tV) 1 true]=some (VI ((aC 1000000000 X).length:Int),[.row 0 ((aC 1000000000 X++List.replicate (N-(aC 1000000000 X).length) 0).map tV) 1 true]):=by
 have e:((aC 1000000000 X).map tV).take N=(aC 1000000000 X).map tV:=List.take_of_length_le (by simpa using h)
 simp only[K1,bP,Kt,cE,e,List.length_map,List.length_replicate,Nat.zero_add]
 rw[if_pos ⟨trivial,Nat.le_refl _,h⟩]
 simp only[cK,List.set_cons_zero,List.take_zero,List.nil_append,Nat.zero_add,List.length_map,List.map_append,List.map_replicate,List.drop_replicate]
theorem qT (a b:Nat) (hb:b≠0) (ha:(aC 1000000000 a).length<17592186044416) (sN:(aC 1000000000 b).length<17592186044416):TC 214 [bP a,bP b] (.eK [bP (a / b),bP (a % b)]):=by
 refine TC.walk ⟨true,false⟩ FB rfl (Nat.le_of_ble_eq_true rfl) (by simp[aK,bU]) (by simp[gH,pE,lE]) ?_
 have s1:=Ao a (by omega)
 have s2:=Ao b (by omega)
 have fin:∀ {H:aB},fz depth H (.eK [bP (a / b),bP (a % b)])=some (.eK [bP (a / b),bP (a % b)]):=Xw (bU _) (bU _)
 by_cases hsm:(aC 1000000000 a).length≤2∧(aC 1000000000 b).length≤2
 ·rw[if_pos hsm.1] at s1
  rw[if_pos hsm.2] at s2
  have la:=acL hsm.1
  have q1:=Hp a b (by omega) (by omega)
  have q2:=Ja a b (by omega)
  have hdl:a / b≤a:=Nat.div_le_self _ _
  have hml:a % b≤a:=Nat.mod_le _ _
  have n1:TC 161 [VI ((a / b:Nat):Int)] (bP (a / b)):=nX ((a / b:Nat):Int) (Int.ofNat_le.2 (show a / b≤9223372036854775807 from Nat.le_trans hdl (by omega)))
  have n2:TC 161 [VI ((a % b:Nat):Int)] (bP (a % b)):=nX ((a % b:Nat):Int) (Int.ofNat_le.2 (show a % b≤9223372036854775807 from Nat.le_trans hml (by omega)))
  simp only[dV,cS,s1,s2,q1,q2,n1,n2,VX,Nat.reduceEqDiff,Nat.reduceAdd]
  exact fin
 have c1:=rX a b (by omega) (by omega)
 obtain⟨x1,t1,Jv⟩:∃(x:Int) (t:Bool),(if (aC 1000000000 a).length≤2 then VV.eK [VI a,VB true] else .eK [VI 0,VB false]) = .eK [VI x,VB t]:=by split<;>exact⟨_,_,rfl⟩
 have hs2:∃(x:Int) (t:Bool),(if (aC 1000000000 b).length≤2 then VV.eK [VI b,VB true] else .eK [VI 0,VB false]) = .eK [VI x,VB t]∧(t1=true→t=false):=by
  by_cases h:(aC 1000000000 b).length≤2
  ·rw[if_pos h]
   refine⟨_,_,rfl,fun ht => ?_⟩
   rw[if_neg (fun h'=>hsm ⟨h',h⟩)] at Jv
   injection Jv with Jv
   injection Jv with _ Jv
   injection Jv with Jv _
   injection Jv with Jv
   injection Jv with Jv
   subst ht
   cases Jv
  ·rw[if_neg h]
   exact⟨_,_,rfl,fun _=>rfl⟩
 obtain⟨x2,t2,hs2,ht⟩:=hs2
 rw[Jv] at s1
 rw[hs2] at s2
 by_cases Dw:dX a b<0
 ·have aX:a<b:=tN.1 Dw
  have e0:∀lr,qY lr [.int .i64 0] 0 [] []=some (.ref 0 0 0 0 0,[.row 0 [] 1 true]):=fun lr=>nS (H:=[]) rfl
  have e1:∀lr,qY lr [.int .i64 0] 0 [] [.row 0 [] 1 true]=some (.ref 1 0 0 0 0,[.row 0 [] 1 true,.row 0 [] 1 true]):=fun lr=>nS (H:=[.row 0 [] 1 true]) rfl
  rw[Nat.div_eq_of_lt aX,Nat.mod_eq_of_lt aX]
  have hz:fz (6+1) [.row 0 [] 1 true,.row 0 [] 1 true] (.ref 0 0 0 0 0)=some (bP 0):=by rw[E6];rfl
  by_cases Wk:a=0
  ·subst Wk
   have ap:gF 0 1 8 (.ref 1 0 0 0 0) ((aC 1000000000 0).map tV) [.row 0 [] 1 true,.row 0 [] 1 true]=some (.ref 1 0 0 0 0,[.row 0 [] 1 true,.row 0 [] 1 true]):=by
    rw[bR];rfl
   have EI:fz (6+1) [.row 0 [] 1 true,.row 0 [] 1 true] (.ref 1 0 0 0 0)=some (bP 0):=by rw[E6];rfl
   cases t1 with
   |
    false =>
    simp only[dV,cS,s1,s2,c1,Dw,e0,e1,ap,B0,VX,Nat.reduceEqDiff,Nat.reduceAdd]
    exact bG (d:=6) hz EI
   |
    true =>
    rw[ht rfl] at s2
    simp only[dV,cS,s1,s2,c1,Dw,e0,e1,ap,B0,VX,Nat.reduceEqDiff,Nat.reduceAdd]
    exact bG (d:=6) hz EI
  ·have hln:(aC 1000000000 a).length≠0:=fun h=>Wk ((kA (b:=1000000000) (by decide)).1 (List.length_eq_zero_iff.1 h))
   have ap:gF 0 1 8 (.ref 1 0 0 0 0) ((aC 1000000000 a).map tV) [.row 0 [] 1 true,.row 0 [] 1 true]=some (.ref 1 1 0 (aC 1000000000 a).length (aC 1000000000 a).length,[.row 0 [] 1 true,.row 1 ((aC 1000000000 a).map tV) 1 true]):=by
    have hr:aV [.row 0 [] 1 true,.row 0 [] 1 true] 1 0=some ([],1,true):=rfl
    simp only[gF,hr,List.length_map,Nat.zero_add,List.length_nil,Nat.add_zero]
    rw[if_pos ⟨by decide,by decide⟩,if_pos ⟨trivial,Nat.zero_le _,Nat.le_refl _⟩,if_neg (by omega),if_pos (by omega)]
    simp
   have Ci:fz (6+1) [.row 0 [] 1 true,.row 1 ((aC 1000000000 a).map tV) 1 true] (.ref 0 0 0 0 0)=some (bP 0):=by rw[E6];rfl
   have EI:fz (6+1) [.row 0 [] 1 true,.row 1 ((aC 1000000000 a).map tV) 1 true] (.ref 1 1 0 (aC 1000000000 a).length (aC 1000000000 a).length)=some (bP a):=by
    have:aW (.ref 1 1 0 (aC 1000000000 a).length (aC 1000000000 a).length)=false:=rfl
    have hr:aV [.row 0 [] 1 true,.row 1 ((aC 1000000000 a).map tV) 1 true] 1 1=some ((aC 1000000000 a).map tV,1,true):=rfl
    unfold fz
    simp only[this,hr,Bool.false_eq_true,if_false]
    rw[if_pos ⟨by simp,Nat.le_refl _⟩,List.drop_zero,List.take_of_length_le (by simp),mapM_pure (n:=5) (dW fun _=>rfl)]
    rfl
   cases t1 with
   |
    false =>
    simp only[dV,cS,s1,s2,c1,Dw,e0,e1,ap,B0,VX,Nat.reduceEqDiff,Nat.reduceAdd]
    exact bG (d:=6) Ci EI
   |
    true =>
    rw[ht rfl] at s2
    simp only[dV,cS,s1,s2,c1,Dw,e0,e1,ap,B0,VX,Nat.reduceEqDiff,Nat.reduceAdd]
    exact bG (d:=6) Ci EI
 have Cl:b≤a:=by have := @tN a b;omega
 have hbn:(aC 1000000000 b).length≠0:=fun h=>hb ((kA (b:=1000000000) (by decide)).1 (List.length_eq_zero_iff.1 h))
 by_cases h1:(((aC 1000000000 b).length:Nat):Int)=1
 ·obtain⟨d,hd⟩:∃d,aC 1000000000 b=[d]:=List.length_eq_one_iff.1 (by omega)
  obtain⟨XC,Bj,hdT⟩:=Ta hd
  have e1:bF 1 (bP b) (VI 0) []=some (.cO (tV d) 0):=by
   rw[bP,hd]
   exact aP (f:=tV) (t := .op) (H:=[]) (size:=1) (k := .i64) (xs:=[d]) (i:=0) rfl rfl
  have c2:=uX a d Bj hdT (by omega)
  rw[←XC] at c2
  have PG:a % b≤b:=Nat.le_of_lt (Nat.mod_lt _ (by omega))
  have n2:TC 161 [VI ((a % b:Nat):Int)] (bP (a % b)):=nX ((a % b:Nat):Int) (Int.ofNat_le.2 (show a % b≤9223372036854775807 from Nat.le_trans PG (by omega)))
  have e2:tV d=tV b:=by rw[XC]
  rw[e2] at e1
  cases t1 with
  |
   false =>
   simp only[dV,cS,s1,s2,c1,Dw,cI,h1,e1,c2,n2,VX,Nat.reduceEqDiff,Nat.reduceAdd]
   exact fin
  |
   true =>
   rw[ht rfl] at s2
   simp only[dV,cS,s1,s2,c1,Dw,cI,h1,e1,c2,n2,VX,Nat.reduceEqDiff,Nat.reduceAdd]
   exact fin
 obtain⟨n,hn⟩:∃n,(aC 1000000000 b).length=n+2:=⟨(aC 1000000000 b).length-2,by omega⟩
 obtain⟨t,htd,ht0,htT⟩:=Fy (a:=b) (n:=n+1) hn
 obtain⟨s,hs⟩:∃s,s=1000000000 / (t+1):=⟨_,rfl⟩
 have Ov:1≤s:=by rw[hs];exact(Nat.le_div_iff_mul_le (by omega)).2 (by omega)
 have hsT:s<1000000000:=by rw[hs];exact Nat.div_lt_self (by decide) (by omega)
 have EP:(t+1)*s≤1000000000:=by rw[hs];exact Nat.mul_div_le _ _
 have hla:=dD (b:=1000000000) (by decide) Cl
 have w0:IntKind.i64.wrap (((n+2:Nat):Int)-1)=((n+1:Nat):Int):=wrapN _ (by omega) (by omega)
 have w1:IntKind.i64.wrap ((t:Int)+1)=((t+1:Nat):Int):=wrapN _ (by omega) (by omega)
 have q0:cU .quo (.int .i64 1000000000) (.int .i64 ((t+1:Nat):Int))=some (.int .i64 (s:Int)):=by rw[hs];exact Hp 1000000000 (t+1) (by decide) (by omega)
 have et:∀H,bF 1 (bP b) (VI ((n+1:Nat):Int)) H=some (.cO (tV t) 0):=fun H=>aP (f:=tV) (t := .op) (size:=1) (k := .i64) htd rfl
 have TE:¬(((n+2:Nat):Int)=1):=by omega
 obtain⟨N,hN⟩:∃N,N=(aC 1000000000 a).length+1:=⟨_,rfl⟩
 have wN:IntKind.i64.wrap (((aC 1000000000 a).length:Int)+1)=(N:Int):=wrapN _ (by omega) (by omega)
 have mkN:=L8 N (by omega)
 have c3:=uJ a s Ov hsT ha
 have c4:=uJ b s Ov hsT sN
 have aaS:b*s<1000000000^(n+2):=by
  have h2:=(xB (n:=n+1) (eE (b:=1000000000) (by decide) b) hn htd).2
  rw[bW (by decide)] at h2
  have h3:b*s<(t+1)*1000000000^(n+1)*s:=Nat.mul_lt_mul_of_pos_right h2 Ov
  have h4:(t+1)*1000000000^(n+1)*s=(t+1)*s*1000000000^(n+1):=by grind
  have h9:(t+1)*s*1000000000^(n+1)≤1000000000*1000000000^(n+1):=Nat.mul_le_mul_right _ EP
  have h10:1000000000*1000000000^(n+1)=1000000000^(n+2):=by rw[Nat.pow_succ 1000000000 (n+1)];exact Nat.mul_comm _ _
  rw[h4] at h3
  rw[h10] at h9
  exact Nat.lt_of_lt_of_le h3 h9
 have Zk:(aC 1000000000 (b*s)).length=n+2:=by
  have h2:=kI (b:=1000000000) (by decide) aaS
  have h3:b≤b*s:=Nat.le_mul_of_pos_right b Ov
  have h4:=dD (b:=1000000000) (by decide) h3
  omega
 have hAl:(aC 1000000000 (a*s)).length≤N:=by
  have h2:=Ml (b:=1000000000) (by decide) a s
  have h3:(aC 1000000000 s).length≤1:=kI (by decide) (by rw[Nat.pow_one];exact hsT)
  omega
 have cp:=agJ hAl
 obtain⟨m,hm⟩:∃m,m+(n+2)=N:=⟨N-(n+2),by omega⟩
 have wm:IntKind.i64.wrap ((N:Int)-((n+2:Nat):Int))=(m:Int):=wrapN _ (by omega) (by omega)
 have wm1:IntKind.i64.wrap ((m:Int)-1)=(m:Int)-1:=wrap64 (by omega) (by omega)
 obtain⟨Cm,YV⟩:∃Cm,Cm=aC 1000000000 (a*s)++List.replicate (N-(aC 1000000000 (a*s)).length) 0:=⟨_,rfl⟩
 rw[←YV] at cp
 have mkm:yG [.int .i64 0] 8 (VI (m:Int)) (VI (m:Int)) [.row 0 (Cm.map tV) 1 true]=some (.ref 1 0 0 m m,[.row 0 (Cm.map tV) 1 true]++[.row 0 ((List.replicate m 0).map tV) 1 true]):=tT (f:=tV) (x:=0) (H:=[.row 0 (Cm.map tV) 1 true]) rfl (by omega) (by omega)
 have lN:∀K,aV K 0 0=some (Cm.map tV,1,true)→pF (.ref 0 0 0 N N) K=some (VI (N:Int)):=fun K h=>iU h
 have l1:=lN [.row 0 (Cm.map tV) 1 true] rfl
 have l2:=lN (H2 Cm (List.replicate m 0)) rfl
 have abD:Cm.length=N:=by rw[YV,List.length_append,List.length_replicate];omega
 have afG:∀d∈Cm,d<1000000000:=fun d hd=>by
  rw[YV] at hd
  rcases List.mem_append.1 hd with h | h
  ·exact eE (by decide) _ d h
  ·rw[List.eq_of_mem_replicate h];decide
 have aaX:val 1000000000 Cm=a*s:=by rw[YV,uR,oL,Nat.mul_zero,Nat.add_zero,bW (by decide)]
 generalize MU:aC 1000000000 (b*s)=vs at *
 have DC:∀d∈vs,d<1000000000:=by rw[←MU];exact eE (by decide) _
 have Js:val 1000000000 vs=b*s:=by rw[←MU];exact bW (by decide) _
 have lV:∀H,pF (bP (b*s)) H=some (VI ((n+2:Nat):Int)):=fun H=>by rw[cI,MU,Zk]
 obtain⟨v1,f1⟩:∃v1,vs[n+1]? = some v1:=⟨_,List.getElem?_eq_getElem (by omega)⟩
 obtain⟨v0,f0⟩:∃v0,vs[n]? = some v0:=⟨_,List.getElem?_eq_getElem (by omega)⟩
 have ZH:1≤v1:=by
  obtain⟨d,hd,Bj,_⟩:=Fy (a:=b*s) (n:=n+1) (by rw[MU];exact Zk)
  rw[MU,f1] at hd
  cases hd
  omega
 have As:val 1000000000 (Cm.drop m)<val 1000000000 vs:=by
  have h2:=nC (b:=1000000000) Cm m
  rw[List.length_take,abD,Nat.min_eq_left (by omega),aaX] at h2
  have h3:a<b*1000000000^m:=by
   have y1:=fN (b:=1000000000) (by decide) a
   have y2:=Ht (b:=1000000000) (by decide) hb
   rw[hn] at y2
   have y3:1000000000^(n+2-1)*1000000000^m≤b*1000000000^m:=Nat.mul_le_mul_right _ y2
   rw[←Nat.pow_add,show n+2-1+m=(aC 1000000000 a).length by omega] at y3
   exact Nat.lt_of_lt_of_le y1 y3
  have h4:a*s<b*1000000000^m*s:=Nat.mul_lt_mul_of_pos_right h3 Ov
  have h5:b*1000000000^m*s=1000000000^m*(b*s):=by grind
  rw[Js]
  have h6:1000000000^m*val 1000000000 (Cm.drop m)<1000000000^m*(b*s):=by
   rw[←h5]
   exact Nat.lt_of_le_of_lt (by rw[h2];exact Nat.le_add_left _ _) h4
  exact Nat.lt_of_mul_lt_mul_left h6
 have body:VW ⟨true,false⟩ 0 (.loop gQ)=VW ⟨true,false⟩ 0 (.loop gQ):=rfl
 have tail:∀(us os:List Nat),us.length=N→(∀d∈us,d<1000000000)→os.length=m→(∀d∈os,d<1000000000)→val 1000000000 us+val 1000000000 vs*val 1000000000 os=a*s→val 1000000000 us<val 1000000000 vs →
   (∀lo K,dG 211 [.ref 0 0 0 N N] lo (H2 us os) K=K (bP (a % b*s)) (cH (H2 us os) [0])) ∧
   (∀lo K,dG 211 [.ref 1 0 0 m m] lo (cH (H2 us os) [0]) K=K (bP (a / b)) (cH (cH (H2 us os) [0]) [1]))∧TC 237 [bP (a % b*s),VI (s:Int)] (.eK [bP (a % b),VI ((a % b*s % s:Nat):Int)]):=by
  intro us os MS Gq iC jS hv aX
  rw[Js] at hv aX
  have hq:val 1000000000 os=a / b:=by
   rw[←Nat.mul_div_mul_right a b Ov,←hv,Nat.add_mul_div_left _ _ (Nat.lt_of_le_of_lt (Nat.zero_le _) aX),Nat.div_eq_of_lt aX,Nat.zero_add]
  have hr:val 1000000000 us=a % b*s:=by
   rw[←Nat.mul_mod_mul_right,←hv,Nat.add_mul_mod_self_left,Nat.mod_eq_of_lt aX]
  refine⟨fun lo K => ?_,fun lo K => ?_,?_⟩
  ·have h:=pJ us Gq (by omega)
   rw[hr] at h
   exact TC.XR (f:=tV) h PZ MS.symm (Nat.le_refl _) Dh (fun _=>rfl) rfl rfl lo K
  ·have h:=pJ os jS (by omega)
   rw[hq] at h
   have E4:aV (cH (H2 us os) [0]) 1 0=some (os.map tV,1,true):=rfl
   exact TC.XR (f:=tV) h E4 iC.symm (Nat.le_refl _) Dh (fun _=>rfl) rfl rfl lo K
  ·have h:=uX (a % b*s) s Ov hsT (by
    have h2:=dD (b:=1000000000) (by decide) (Nat.le_trans (Nat.le_of_lt aX) (show b*s≤b*s from Nat.le_refl _))
    rw[hr,MU] at h2
    omega)
   rwa [Nat.mul_div_cancel _ Ov] at h
 clear body
 have nV:bP (b*s)=gA vs:=by rw[bP,MU]
 cases t1 with
 |
  false =>
  simp only[dV,cS,s1,s2,c1,Dw,cI,hn,TE,w0,w1,q0,et,wN,mkN,c3,c4,cp,lV,l1,l2,wm,wm1,mkm,List.cons_append,List.nil_append,VX,Nat.reduceEqDiff,Nat.reduceAdd]
  refine KN (Cm:=Cm) (Uq:=List.replicate m 0) (vs:=vs) (N:=N) (m:=m) (n:=n) (A:=a*s) (s:=s) abD hm (by omega) afG Zk DC f1 f0 ZH aaX As (by simp) (xE (by decide) _) (by rfl) (by rfl) (by simp only[VX,Nat.reduceEqDiff,Nat.reduceAdd];exact nV) (by rfl) (by rfl) (by rfl) ?_
  intro tZ us os Zh Ym r16 MS Gq iC jS hv aX
  obtain⟨x1,x2,x3⟩:=tail us os MS Gq iC jS hv aX
  simp only[Zh,Ym,r16,x1,x2,x3,VX,Nat.reduceEqDiff,Nat.reduceAdd]
  exact fin
 |
  true =>
  rw[ht rfl] at s2
  simp only[dV,cS,s1,s2,c1,Dw,cI,hn,TE,w0,w1,q0,et,wN,mkN,c3,c4,cp,lV,l1,l2,wm,wm1,mkm,List.cons_append,List.nil_append,VX,Nat.reduceEqDiff,Nat.reduceAdd]
  refine KN (Cm:=Cm) (Uq:=List.replicate m 0) (vs:=vs) (N:=N) (m:=m) (n:=n) (A:=a*s) (s:=s) abD hm (by omega) afG Zk DC f1 f0 ZH aaX As (by simp) (xE (by decide) _) (by rfl) (by rfl) (by simp only[VX,Nat.reduceEqDiff,Nat.reduceAdd];exact nV) (by rfl) (by rfl) (by rfl) ?_
  intro tZ us os Zh Ym r16 MS Gq iC jS hv aX
  obtain⟨x1,x2,x3⟩:=tail us os MS Gq iC jS hv aX
  simp only[Zh,Ym,r16,x1,x2,x3,VX,Nat.reduceEqDiff,Nat.reduceAdd]
  exact fin
end Go.PM