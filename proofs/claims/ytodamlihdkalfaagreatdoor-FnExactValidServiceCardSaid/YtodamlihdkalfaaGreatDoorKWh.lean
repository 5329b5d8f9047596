/- Texts of a claim, in one: part 8. -/
import Derived.Test.YtodamlihdkalfaaGreatDoorKWg
set_option linter.unusedSimpArgs false
set_option linter.unusedVariables false
namespace Go.PM
abbrev tV (d:Nat):VV:=VI (d:Int)
abbrev iB (ds:List Nat):VV:=aC tV ds
def bT (n:Nat):VV:=iB (aD 1000000000 n)
theorem EO:∀d:Nat,(aB (tV d)).length=1:=fun _=>rfl
theorem xF (ds:List Nat):aP (iB ds)=true:=lJ EO fun _=>rfl
theorem UK (ds:List Nat):gK (iB ds)=true:=uN EO (fun _=>rfl) fun _=>rfl
theorem cA (n:Nat):aP (bT n)=true:=xF _
theorem mW (n:Nat):gK (bT n)=true:=UK _
theorem Gx:bT 0 = .tree [] .op:=by rw[bT,bZ];rfl
theorem WX:bT 1=iB [1]:=by rw[bT,kV (by decide) (by decide),bZ]
theorem cQ (n:Nat) {H:aA}:pX (bT n) H=some (VI (aD 1000000000 n).length):=dM
section
variable {α:Type} {f:α→VV} {xs:List α} {x:α} {H:aA}
theorem IN {g e:Nat} {es:List VV} {w:Bool}:aK [.row g es e w] 0 g=some (es,e,w):=aR
theorem aoR {e bytes:Nat} (he:1≤e) (hb:1≤bytes) (CO:(xs.length+1)*bytes≤140737488355328):eJ 0 e bytes (.ref 0 xs.length 0 xs.length xs.length) [f x] [.row xs.length (xs.map f) e true]=some (.ref 0 (xs.length+1) 0 (xs.length+1) (xs.length+1),[.row (xs.length+1) ((xs++[x]).map f) e true]):=by
 rw[oG (f:=f) (x:=x) aR rfl (Nat.le_refl _) he hb CO]
 rfl
theorem PX {n g e:Nat} {w:Bool} (hp:∀x,aP (f x)=true) (hn:n=xs.length):fz depth [.row g (xs.map f) e w] (.ref 0 g 0 n n)=some (aC f xs):=GR aR (by simpa using hn) (Nat.le_refl _) (dZ hp)
end
theorem KI {lr:Bool}:tY lr [.int .i64 0] 0 [] []=some (.ref 0 0 0 0 0,[.row 0 (([]:List Nat).map tV) 1 true]):=vC (H:=[]) rfl
theorem sE {d:Int} {H:aA}:tY false [.int .i64 0] 1 [(0,VI d)] H=some (.tree [VI d] (.cl 1),H):=uM rfl rfl rfl
theorem uS {d:Int} {H:aA} {t:TK}:fF 1 (.tree [VI d] t) H=some [VI d]:=oI rfl rfl
theorem aaS {ds:List Nat} {d:Nat} (h:ds.length<17592186044416):eJ 0 1 8 (.ref 0 ds.length 0 ds.length ds.length) [VI (d:Int)] [.row ds.length (ds.map tV) 1 true]=some (.ref 0 (ds.length+1) 0 (ds.length+1) (ds.length+1),[.row (ds.length+1) ((ds++[d]).map tV) 1 true]):=aoR (f:=tV) (by decide) (by decide) (by omega)
theorem Lj (n:Nat):fB .rem (.int .i64 (n:Int)) (.int .i64 1000000000)=some (.int .i64 ((n % 1000000000:Nat):Int)):=by
 have h2:(n:Int).tmod 1000000000=((n % 1000000000:Nat):Int):=by rw[Int.tmod_eq_emod_of_nonneg (by omega)];simp
 simp only[fB,if_true,h2]
 rfl
theorem Mz (n:Nat) (h:n≤9223372036854775807):fB .quo (.int .i64 (n:Int)) (.int .i64 1000000000)=some (.int .i64 ((n / 1000000000:Nat):Int)):=by
 have h2:(n:Int).tdiv 1000000000=((n / 1000000000:Nat):Int):=by rw[Int.tdiv_eq_ediv_of_nonneg (by omega)];simp
 simp only[fB,if_true,h2]
 rw[wrap64 (by omega) (by omega)]
 rfl
theorem sY (ds:List Nat) (h:∀d∈ds,d<1000000000) (hlen:ds.length≤70368744177664):TC 211 [iB ds] (bT (val 1000000000 ds)):=by
 refine TC.walk ⟨true,false⟩ KH rfl (Nat.le_of_ble_eq_true rfl) (by simp[aN,xF]) (mW _) ?_
 simp only[E2,Ch,VX,Nat.reduceEqDiff,Nat.reduceAdd]
 refine aW (fun(xs:List Nat) ρ H'=>(∀d∈xs,d<1000000000)∧val 1000000000 xs=val 1000000000 ds∧xs.length≤ds.length∧H'=[]∧ρ 0=iB xs) (fun s=>s.length) ds ⟨h,rfl,Nat.le_refl _,rfl,rfl⟩ ?_
 rintro xs ρ H' ⟨hx,hv,hl,rfl,h0⟩
 have done:xs.getLast? ≠ some 0→fz depth [] (iB xs)=some (bT (val 1000000000 ds)):=fun fQ=>by rw[bT,←hv,J1 (by decide) hx fQ];exact aJ (xF _)
 rcases Nat.eq_zero_or_pos xs.length with hz | hp
 ·have hxn:xs=[]:=List.length_eq_zero_iff.1 hz
  subst hxn
  simp only[qK,h0,Int.reduceLT,Int.natCast_zero,dM,List.length_nil,VX,Nat.reduceEqDiff,Nat.reduceAdd]
  exact done (by simp)
 ·obtain⟨m,hm⟩:∃m,xs.length=m+1:=⟨xs.length-1,by omega⟩
  obtain⟨d,hd⟩:∃d,xs[m]? = some d:=⟨_,List.getElem?_eq_getElem (by omega)⟩
  have Af:(0:Int)<((m+1:Nat):Int):=by omega
  have w1:IntKind.i64.wrap (((m+1:Nat):Int)-1)=(m:Int):=by rw[wrap64 (by omega) (by omega)];omega
  have e1:=aG (f:=tV) (t := .op) (H:=[]) (size:=1) (k := .i64) hd rfl
  by_cases CP:(d:Int)=0
  ·have hd1:d=0:=by omega
   subst hd1
   have e2:=H8 (f:=tV) (size:=1) (t := .op) (H:=[]) (k2 := .i64) (xs:=xs) (h:=m) EO (by omega) (by omega)
   have OW:xs=xs.take m++[0]:=by
    have:=List.take_append_drop m xs
    have h3:=(List.getElem?_eq_some_iff.1 hd)
    rw[List.drop_eq_getElem_cons h3.1,h3.2,List.drop_of_length_le (by omega)] at this
    exact this.symm
   simp only[qK,h0,hm,Af,w1,e1,e2,CP,dM,VX,Nat.reduceEqDiff,Nat.reduceAdd]
   refine⟨xs.take m,by simp only[List.length_take];omega,fun d hd=>hx d (List.mem_of_mem_take hd),?_,by simp only[List.length_take];omega,by first | rfl | exact⟨rfl,rfl⟩⟩
   rw[←hv]
   conv=>rhs;rw[OW]
   rw[sL]
   simp
  ·simp only[qK,h0,hm,Af,w1,e1,CP,dM,VX,Nat.reduceEqDiff,Nat.reduceAdd]
   exact done (M9 hm hd (by omega))
theorem Gn {outs:List Nat} {n g m:Nat} {lo:Nat} {w:Bool} {K:VV→aA→Prop} (hd:∀d∈outs,d<1000000000) (hn:n=outs.length) (hlen:outs.length≤70368744177664) (hm:val 1000000000 outs=m) (hk:K (bT m) (cJ [.row g (outs.map tV) 1 w] [0])) :
  cW 211 [.ref 0 g 0 n n] lo [.row g (outs.map tV) 1 w] K:=by
 subst hm
 rw[TC.Z0 (f:=tV) (sY outs hd hlen) aR hn (Nat.le_refl _) EO (fun _=>rfl) rfl rfl]
 exact hk
theorem Ql {H:aA} (n:Nat):fz depth H (bT n)=some (bT n):=aJ (cA n)
theorem qC (n:Int) (h1:n≤9223372036854775807):TC 161 [VI n] (bT n.toNat):=by
 refine TC.walk ⟨true,false⟩ Le rfl (Nat.le_of_ble_eq_true rfl) rfl (mW _) ?_
 simp only[Ib,DW,KI,VX,Nat.reduceEqDiff,Nat.reduceAdd]
 refine aW (fun(s:Int×List Nat) ρ H=>s.1≤9223372036854775807∧H=[.row s.2.length (s.2.map tV) 1 true]∧s.2.length≤63∧s.1.toNat*2^s.2.length≤9223372036854775807∧aD 1000000000 n.toNat=s.2++aD 1000000000 s.1.toNat∧ρ 0=VI s.1∧ρ 3 = .ref 0 s.2.length 0 s.2.length s.2.length) (fun s=>s.1.toNat) (n,[]) ⟨h1,rfl,by simp,by simp only[List.length_nil,Nat.pow_zero,Nat.mul_one];omega,rfl,rfl,rfl⟩ ?_
 rintro⟨m,ds⟩ ρ H ⟨hm,rfl,hl,aX,hd,g0,g3⟩
 simp only at hm hl aX hd g0 g3
 by_cases hp:(0:Int)<m
 ·obtain⟨k,rfl⟩:∃k:Nat,m=(k:Int):=⟨m.toNat,by omega⟩
  rw[Int.toNat_natCast] at aX hd
  have hk0:k≠0:=by omega
  have GJ:ds.length<63:=by
   rcases Nat.lt_or_ge ds.length 63 with h | h
   ·exact h
   ·have e:2^ds.length=9223372036854775808:=by rw[show ds.length=63 by omega]
    rw[e] at aX
    omega
  have r1:=Lj k
  have q1:=Mz k (by omega)
  have a1:=aaS (ds:=ds) (d:=k % 1000000000) (by omega)
  simp only[xT,g0,g3,hp,r1,q1,sE,uS,a1,VX,Nat.reduceEqDiff,Nat.reduceAdd]
  refine⟨(((k / 1000000000:Nat):Int),ds++[k % 1000000000]),?_,by simp only;omega,by simp,by simp;omega,?_,?_,rfl,by simp⟩
  ·simp only[Int.toNat_natCast];exact Nat.div_lt_self (by omega) (by decide)
  ·simp only[Int.toNat_natCast,List.length_append,List.length_singleton,Nat.pow_succ]
   have h1:k / 1000000000*2≤k:=by omega
   have:=Nat.mul_le_mul_right (2^ds.length) h1
   rw[Nat.mul_assoc,Nat.mul_comm 2] at this
   omega
  ·simp only[Int.toNat_natCast]
   rw[hd,kV (by decide) hk0,List.append_assoc]
   rfl
 ·have hz:m.toNat=0:=by omega
  rw[hz,bZ,List.append_nil] at hd
  simp only[xT,g0,g3,hp,VX,Nat.reduceEqDiff,Nat.reduceAdd]
  rw[bT,hd]
  exact PX (fun _=>rfl) rfl
theorem uF (a b:Nat) (ha:(aD 1000000000 a).length≤17592186044416) (hb:(aD 1000000000 b).length≤17592186044416):TC 178 [bT a,bT b] (VI (fD a b)):=by
 refine TC.walk ⟨true,false⟩ La rfl (Nat.le_of_ble_eq_true rfl) (by simp[aN,cA]) rfl ?_
 have fin:∀ {x:Int},x=fD a b→fz depth [] (VI x)=some (VI (fD a b)):=fun h=>by rw[h];exact aJ rfl
 unfold bT iB
 by_cases hl:(((aD 1000000000 a).length:Nat):Int)=(((aD 1000000000 b).length:Nat):Int)
 ·have CY:(aD 1000000000 a).length=(aD 1000000000 b).length:=by omega
  have w1:IntKind.i64.wrap ((((aD 1000000000 b).length:Nat):Int)-1)=(((aD 1000000000 b).length:Nat):Int)-1:=wrap64 (by omega) (by omega)
  simp only[yX,uC,hl,w1,VX,Nat.reduceEqDiff,Nat.reduceAdd]
  refine aW (fun(j:Nat) ρ H=>j≤(aD 1000000000 b).length∧H=[]∧(aD 1000000000 a).drop j=(aD 1000000000 b).drop j∧ρ 0=aC tV (aD 1000000000 a)∧ρ 1=aC tV (aD 1000000000 b)∧ρ 5=VI ((j:Int)-1)) (fun j=>j) (aD 1000000000 b).length ⟨Nat.le_refl _,rfl,by rw[List.drop_length,←CY,List.drop_length],rfl,rfl,rfl⟩ ?_
  rintro j ρ H ⟨hj,rfl,hd,h0,h1,h5⟩
  by_cases hz:(0:Int)≤(j:Int)-1
  ·obtain⟨i,rfl⟩:∃i,j=i+1:=⟨j-1,by omega⟩
   obtain⟨x,hx⟩:∃x,(aD 1000000000 a)[i]? = some x:=⟨_,List.getElem?_eq_getElem (by omega)⟩
   obtain⟨y,hy⟩:∃y,(aD 1000000000 b)[i]? = some y:=⟨_,List.getElem?_eq_getElem (by omega)⟩
   have J6:((i+1:Nat):Int)-1=(i:Int):=by omega
   have e1:=aG (f:=tV) (t := .op) (H:=[]) (size:=1) (k := .i64) hx rfl
   have e2:=aG (f:=tV) (t := .op) (H:=[]) (size:=1) (k := .i64) hy rfl
   rw[J6] at h5 hz
   have w2:IntKind.i64.wrap ((i:Int)-1)=(i:Int)-1:=wrap64 (by omega) (by omega)
   by_cases Aj:(x:Int)=(y:Int)
   ·simp only[oD,h0,h1,h5,hz,e1,e2,Aj,w2,VX,Nat.reduceEqDiff,Nat.reduceAdd]
    have aeC:x=y:=by omega
    subst aeC
    refine⟨i,by omega,by omega,?_⟩
    obtain⟨g1,g2⟩:=List.getElem?_eq_some_iff.1 hx
    obtain⟨g3,g4⟩:=List.getElem?_eq_some_iff.1 hy
    rw[List.drop_eq_getElem_cons g1,List.drop_eq_getElem_cons g3,g2,g4,hd]
    exact⟨rfl,rfl⟩
   ·by_cases aX:(x:Int)<(y:Int)
    ·simp only[oD,h0,h1,h5,hz,e1,e2,Aj,aX,VX,Nat.reduceEqDiff,Nat.reduceAdd]
     refine fin ?_
     have:=Dx (fC (by decide) a) CY hx hy hd (by omega)
     rw[bX (by decide),bX (by decide)] at this
     simp[fD,this]
    ·simp only[oD,h0,h1,h5,hz,e1,e2,Aj,aX,VX,Nat.reduceEqDiff,Nat.reduceAdd]
     refine fin ?_
     have:=Dx (fC (by decide) b) CY.symm hy hx hd.symm (by omega)
     rw[bX (by decide),bX (by decide)] at this
     rw[fD,if_neg (by omega),if_neg (by omega)]
  ·have UN:j=0:=by omega
   subst UN
   simp only[oD,h0,h1,h5,hz,VX,Nat.reduceEqDiff,Nat.reduceAdd]
   refine fin ?_
   have:=OJ (b:=1000000000) (by decide) (by simpa using hd)
   subst this
   simp[fD]
 ·by_cases aX:(((aD 1000000000 a).length:Nat):Int)<(((aD 1000000000 b).length:Nat):Int)
  ·simp only[yX,uC,hl,aX,VX,Nat.reduceEqDiff,Nat.reduceAdd]
   refine fin ?_
   have:=Dv (b:=1000000000) (by decide) (m:=a) (n:=b) (by omega)
   simp[fD,this]
  ·simp only[yX,uC,hl,aX,VX,Nat.reduceEqDiff,Nat.reduceAdd]
   refine fin ?_
   have:=Dv (b:=1000000000) (by decide) (m:=b) (n:=a) (by omega)
   rw[fD,if_neg (by omega),if_neg (by omega)]
theorem IA (ds:List Nat) (i:Nat):TC 225 [iB ds,VI (i:Int)] (tV (ds.getD i 0)):=by
 refine TC.walk ⟨true,false⟩ Ig rfl (Nat.le_of_ble_eq_true rfl) (by simp[aN,xF];rfl) rfl ?_
 by_cases h:(i:Int)<(ds.length:Int)
 ·obtain⟨d,hd⟩:∃d,ds[i]? = some d:=⟨_,List.getElem?_eq_getElem (by omega)⟩
  have e1:=aG (f:=tV) (t := .op) (H:=[]) (size:=1) (k := .i64) hd rfl
  simp only[zX,vF,dM,h,e1,VX,Nat.reduceEqDiff,Nat.reduceAdd]
  rw[List.getD_eq_getElem?_getD,hd]
  exact aJ rfl
 ·simp only[zX,vF,dM,h,VX,Nat.reduceEqDiff,Nat.reduceAdd]
  rw[List.getD_eq_getElem?_getD,List.getElem?_eq_none (by omega)]
  exact aJ rfl
theorem Cj (n i:Nat):TC 225 [bT n,VI (i:Int)] (tV (n / 1000000000^i % 1000000000)):=by
 have:=IA (aD 1000000000 n) i
 rwa [G5 (by decide)] at this
theorem Gu (a b:Nat) (ha:(aD 1000000000 a).length<17592186044416) (hb:(aD 1000000000 b).length<17592186044416):TC 177 [bT a,bT b] (bT (a+b)):=by
 refine TC.walk ⟨true,false⟩ GO rfl (Nat.le_of_ble_eq_true rfl) (by simp[aN,cA]) (mW _) ?_
 simp only[B6,Av,KI,VX,Nat.reduceEqDiff,Nat.reduceAdd]
 have hL:=MX (b:=1000000000) (by decide) (m:=a) (n:=b) (k:=17592186044416-1) (by omega) (by omega)
 refine aW (fun(s:Nat×List Nat×Nat) ρ H=>s.1=s.2.1.length∧H=[.row s.2.1.length (s.2.1.map tV) 1 true]∧s.2.2≤1∧aD 1000000000 (a+b)=s.2.1++aD 1000000000 (a / 1000000000^s.1+b / 1000000000^s.1+s.2.2)∧ρ 0=bT a∧ρ 1=bT b∧ρ 5 = .ref 0 s.2.1.length 0 s.2.1.length s.2.1.length∧ρ 6=VI s.2.2∧ρ 7=VI s.1)
  (fun s=>(aD 1000000000 (a+b)).length-s.1) (0,[],0) ⟨rfl,rfl,by simp,by simp,rfl,rfl,rfl,rfl,rfl⟩ ?_
 rintro⟨i,ds,c⟩ ρ H ⟨hi,rfl,hc,hd,g0,g1,g5,g6,g7⟩
 simp only at hi hc hd g5 g6 g7
 have la:=IX (b:=1000000000) (by decide) (n:=a) (i:=i)
 have lb:=IX (b:=1000000000) (by decide) (n:=b) (i:=i)
 have c1:=Cj a i
 have c2:=Cj b i
 have m1:=Nat.mod_lt (a / 1000000000^i) (show 0<1000000000 by decide)
 have m2:=Nat.mod_lt (b / 1000000000^i) (show 0<1000000000 by decide)
 have We:a / 1000000000^i+b / 1000000000^i+c≠0→aD 1000000000 (a+b)=ds++(a / 1000000000^i % 1000000000+b / 1000000000^i % 1000000000+c) % 1000000000::aD 1000000000 (a / 1000000000^(i+1)+b / 1000000000^(i+1)+(a / 1000000000^i % 1000000000+b / 1000000000^i % 1000000000+c) / 1000000000):=fun h=>by
  rw[hd,Vw (by decide) h,Bg,Bg]
 generalize a / 1000000000^i=A at *
 generalize b / 1000000000^i=B at *
 by_cases aaK:A+B+c=0
 ·have h1:¬(i:Int)<((aD 1000000000 a).length:Int):=by omega
  have h2:¬(i:Int)<((aD 1000000000 b).length:Int):=by omega
  have h3:¬(0:Int)<(c:Int):=by omega
  simp only[kR,g0,g1,g5,g6,g7,cQ,h1,h2,h3,VX,Nat.reduceEqDiff,Nat.reduceAdd]
  rw[aaK,bZ,List.append_nil] at hd
  rw[bT,hd]
  exact PX (fun _=>rfl) rfl
 ·have hdn:=We aaK
  have aX:i<(aD 1000000000 (a+b)).length:=by
   rw[hdn,List.length_append,List.length_cons]
   omega
  have w1:IntKind.i64.wrap (((A % 1000000000:Nat):Int)+((B % 1000000000:Nat):Int))=((A % 1000000000+B % 1000000000:Nat):Int):=wrapN _ (by omega) (by omega)
  have w2:IntKind.i64.wrap (((A % 1000000000+B % 1000000000:Nat):Int)+(c:Int))=((A % 1000000000+B % 1000000000+c:Nat):Int):=wrapN _ (by omega) (by omega)
  have wi:IntKind.i64.wrap ((i:Int)+1)=((i+1:Nat):Int):=wrapN (i+1) (by omega) (by omega)
  have r1:=Lj (A % 1000000000+B % 1000000000+c)
  have q1:=Mz (A % 1000000000+B % 1000000000+c) (by omega)
  have a1:=aaS (ds:=ds) (d:=(A % 1000000000+B % 1000000000+c) % 1000000000) (by omega)
  have adF:aD 1000000000 (a+b)=(ds++[(A % 1000000000+B % 1000000000+c) % 1000000000])++aD 1000000000 (a / 1000000000^(i+1)+b / 1000000000^(i+1)+(A % 1000000000+B % 1000000000+c) / 1000000000):=by rw[hdn,List.append_assoc];rfl
  by_cases h1:(i:Int)<((aD 1000000000 a).length:Int)
  ·simp only[kR,g0,g1,g5,g6,g7,cQ,h1,c1,c2,w1,w2,wi,r1,q1,sE,uS,a1,VX,Nat.reduceEqDiff,Nat.reduceAdd]
   refine⟨(i+1,ds++[(A % 1000000000+B % 1000000000+c) % 1000000000],(A % 1000000000+B % 1000000000+c) / 1000000000),by simp only;omega,by simp;omega,by simp,by simp only;omega,adF,?_⟩
   simp only[List.length_append,List.length_singleton]
   try (repeat' apply And.intro)<;>first | rfl | trivial
  ·by_cases h2:(i:Int)<((aD 1000000000 b).length:Int)
   ·simp only[kR,g0,g1,g5,g6,g7,cQ,h1,h2,c1,c2,w1,w2,wi,r1,q1,sE,uS,a1,VX,Nat.reduceEqDiff,Nat.reduceAdd]
    refine⟨(i+1,ds++[(A % 1000000000+B % 1000000000+c) % 1000000000],(A % 1000000000+B % 1000000000+c) / 1000000000),by simp only;omega,by simp;omega,by simp,by simp only;omega,adF,?_⟩
    simp only[List.length_append,List.length_singleton]
    try (repeat' apply And.intro)<;>first | rfl | trivial
   ·have h3:(0:Int)<(c:Int):=by omega
    simp only[kR,g0,g1,g5,g6,g7,cQ,h1,h2,h3,c1,c2,w1,w2,wi,r1,q1,sE,uS,a1,VX,Nat.reduceEqDiff,Nat.reduceAdd]
    refine⟨(i+1,ds++[(A % 1000000000+B % 1000000000+c) % 1000000000],(A % 1000000000+B % 1000000000+c) / 1000000000),by simp only;omega,by simp;omega,by simp,by simp only;omega,adF,?_⟩
    simp only[List.length_append,List.length_singleton]
    try (repeat' apply And.intro)<;>first | rfl | trivial
end Go.PM
namespace Go.PM
theorem jJ {es:List VV} {g e:Nat} {w:Bool}:aK [.row g es e w] 0 g=some (es,e,w):=aR
theorem P6 {x y:Nat} {ρ:cG} {Q:VQ} (hx:(aD 4294967296 x).length≤17592186044416) (hl:(aD 4294967296 y).length≤(aD 4294967296 x).length) (h0:ρ 0=bH x) (h1:ρ 1=bH y) (h5:ρ 5 = .ref 0 0 0 ((aD 4294967296 x).length+1) ((aD 4294967296 x).length+1)) (h6:ρ 6=VK .u64 0) (h20:ρ 20=VI (aD 4294967296 x).length) (h21:ρ 21=VI 0)
  (hQ:∀(aM:cG) (outs:List Nat) (c:Nat),aM 0=bH x→aM 5 = .ref 0 0 0 ((aD 4294967296 x).length+1) ((aD 4294967296 x).length+1)→aM 6=VK .u64 (c:Nat)→outs.length=(aD 4294967296 x).length+1→(∀d∈outs,d<4294967296)→c≤1→x+y=val 4294967296 (outs.take (aD 4294967296 x).length)+4294967296^(aD 4294967296 x).length*c→Q (.exit 0) aM [.row 0 (outs.map uV) 1 true]) :
  VW ⟨true,false⟩ 0 (.loop kO) Q ρ [.row 0 ((List.replicate ((aD 4294967296 x).length+1) 0).map uV) 1 true]:=by
 unfold bH at h0 h1 hQ
 have vx:=bX (b:=4294967296) (by decide) x
 have vy:=bX (b:=4294967296) (by decide) y
 have lx:=fC (b:=4294967296) (by decide) x
 have ly:=fC (b:=4294967296) (by decide) y
 generalize aD 4294967296 x=xs at *
 generalize aD 4294967296 y=ys at *
 refine aW (fun(s:Nat×List Nat×Nat) ρ H=>s.1≤xs.length∧H=[.row 0 (s.2.1.map uV) 1 true]∧s.2.1.length=xs.length+1∧(∀d∈s.2.1,d<4294967296)∧s.2.2≤1∧val 4294967296 (xs.take s.1)+val 4294967296 (ys.take s.1)=val 4294967296 (s.2.1.take s.1)+4294967296^s.1*s.2.2 ∧
  ρ 0=AL xs∧ρ 1=AL ys∧ρ 5 = .ref 0 0 0 (xs.length+1) (xs.length+1)∧ρ 6=VK .u64 s.2.2∧ρ 20=VI xs.length∧ρ 21=VI s.1) (fun s=>xs.length-s.1) (0,List.replicate (xs.length+1) 0,0) ?_ ?_
 ·exact⟨Nat.zero_le _,rfl,by simp,Ai (by decide) _,by simp,by simp[val],h0,h1,h5,h6,h20,h21⟩
 ·rintro⟨i,outs,c⟩ ρ H ⟨hi,rfl,fU,lB,hc,hv,g0,g1,g5,g6,g20,g21⟩
  simp only at hi fU lB hc hv g6 g21
  by_cases cB:(i:Int)<(xs.length:Int)
  ·obtain⟨a,ha⟩:∃a,xs[i]? = some a:=⟨_,List.getElem?_eq_getElem (by omega)⟩
   have la:=lx a (List.mem_of_getElem? ha)
   have e1:=aG (f:=uV) (t := .op) (H:=[.row 0 (outs.map uV) 1 true]) (size:=1) (k := .i64) ha rfl
   have w1:IntKind.u64.wrap (a:Int)=(a:Int):=fN _ (by omega)
   have w2:IntKind.u64.wrap ((c:Int)+(a:Int))=((c+a:Nat):Int):=by rw[←Int.natCast_add];exact fN _ (by omega)
   have wi:IntKind.i64.wrap ((i:Int)+1)=((i+1:Nat):Int):=wrapN (i+1) (by omega) (by omega)
   have e3:=aV (H:=[.row 0 (outs.map uV) 1 true]) (b:=0) (g:=0) (o:=0) (n:=xs.length+1) (c:=xs.length+1) (i:=i) (k := .i64) jJ (by omega)
   have e4:∀s:Nat,cD 0 1 (.ptr 0 0 i 0) (uV s) [.row 0 (outs.map uV) 1 true]=some [.row 0 ((outs.set i s).map uV) 1 true]:=fun s=>by
    rw[gU (f:=uV) (e:=1) jJ (by omega) (Nat.le_refl _) rfl rfl]
    rfl
   have step:∀b,b<4294967296→(∀d,ys[i]? = some d→d=b)→(ys.length≤i→b=0) →
     (i+1≤xs.length∧(outs.set i ((c+a+b) % 4294967296)).length=xs.length+1∧(∀d∈outs.set i ((c+a+b) % 4294967296),d<4294967296)∧(c+a+b) / 4294967296≤1∧val 4294967296 (xs.take (i+1))+val 4294967296 (ys.take (i+1))=val 4294967296 ((outs.set i ((c+a+b) % 4294967296)).take (i+1))+4294967296^(i+1)*((c+a+b) / 4294967296)):=by
    intro b hb h1 h2
    refine⟨by omega,by rw[List.length_set];exact fU,lO lB (Nat.mod_lt _ (by decide)),by omega,?_⟩
    have hy:val 4294967296 (ys.take (i+1))=val 4294967296 (ys.take i)+4294967296^i*b:=by
     cases Ro:ys[i]? with
     | some d=>rw[aT Ro,h1 d Ro]
     |
      none =>
      have hle:=List.getElem?_eq_none_iff.1 Ro
      rw[h2 hle,jL hle,jL (by omega),Nat.mul_zero,Nat.add_zero]
    rw[aT ha,hy,dP (by omega),Nat.pow_succ]
    exact El hv rfl (Nat.mod_add_div _ _)
   by_cases aX:(i:Int)<(ys.length:Int)
   ·obtain⟨b,hb⟩:∃b,ys[i]? = some b:=⟨_,List.getElem?_eq_getElem (by omega)⟩
    have lb:=ly b (List.mem_of_getElem? hb)
    have e2:=aG (f:=uV) (t := .op) (H:=[.row 0 (outs.map uV) 1 true]) (size:=1) (k := .i64) hb rfl
    have w3:IntKind.u64.wrap (b:Int)=(b:Int):=fN _ (by omega)
    have w4:IntKind.u64.wrap (((c+a:Nat):Int)+(b:Int))=((c+a+b:Nat):Int):=by rw[←Int.natCast_add];exact fN _ (by omega)
    obtain⟨s1,s2,s3,s4,s5⟩:=step b lb (fun d hd=>by rw[hb] at hd;injection hd with hd;exact hd.symm) (fun h=>by omega)
    simp only[kO,g0,g1,g5,g6,g20,g21,cB,aX,e1,e2,e3,e4,w1,w2,w3,w4,wi,wrap32,sK,VX,Nat.reduceEqDiff,Nat.reduceAdd]
    exact⟨(i+1,outs.set i ((c+a+b) % 4294967296),(c+a+b) / 4294967296),by simp only;omega,s1,rfl,s2,s3,s4,s5,by (repeat' apply And.intro)<;>first | rfl | trivial⟩
   ·obtain⟨s1,s2,s3,s4,s5⟩:=step 0 (by decide) (fun d hd=>by have:=(List.getElem?_eq_some_iff.1 hd).1;omega) (fun _=>rfl)
    simp only[Nat.add_zero] at s2 s3 s4 s5
    simp only[kO,g0,g1,g5,g6,g20,g21,cB,aX,e1,e3,e4,w1,w2,wi,wrap32,sK,VX,Nat.reduceEqDiff,Nat.reduceAdd]
    exact⟨(i+1,outs.set i ((c+a) % 4294967296),(c+a) / 4294967296),by simp only;omega,s1,rfl,s2,s3,s4,s5,by (repeat' apply And.intro)<;>first | rfl | trivial⟩
  ·have pD:i=xs.length:=by omega
   subst pD
   simp only[kO,g0,g1,g5,g6,g20,g21,cB,VX,Nat.reduceEqDiff,Nat.reduceAdd]
   refine hQ _ outs c g0 g5 g6 fU lB hc ?_
   rw[List.take_length,List.take_of_length_le (l:=ys) hl,vx,vy] at hv
   exact hv
theorem Cp (a b:Nat) (ha:(aD 4294967296 a).length≤17592186044416) (hb:(aD 4294967296 b).length≤17592186044416):TC 174 [bH a,bH b] (bH (a+b)):=by
 refine TC.walk ⟨true,false⟩ Hl rfl (Nat.le_of_ble_eq_true rfl) (by simp[aN,bP]) (qA _) ?_
 have mk:∀n:Nat,n≤17592186044416→yP [.int .u32 0] 4 (VI ((n+1:Nat):Int)) (VI ((n+1:Nat):Int)) []=some (.ref 0 0 0 (n+1) (n+1),[.row 0 ((List.replicate (n+1) 0).map uV) 1 true]):=fun n hn=>oW (f:=uV) (x:=0) rfl (by omega) (by omega)
 have fin:∀(x y:Nat) (outs:List Nat) (c:Nat),(aD 4294967296 x).length≤17592186044416→x+y=a+b→outs.length=(aD 4294967296 x).length+1→(∀d∈outs,d<4294967296)→c≤1→x+y=val 4294967296 (outs.take (aD 4294967296 x).length)+4294967296^(aD 4294967296 x).length*c →
   bF 1 (.ref 0 0 0 ((aD 4294967296 x).length+1) ((aD 4294967296 x).length+1)) (VI ((aD 4294967296 x).length:Nat)) [.row 0 (outs.map uV) 1 true]=some (.ptr 0 0 (0+(aD 4294967296 x).length) 0) ∧
   cD 0 1 (.ptr 0 0 (aD 4294967296 x).length 0) (uV (c % 4294967296)) [.row 0 (outs.map uV) 1 true]=some [.row 0 ((outs.set (aD 4294967296 x).length (c % 4294967296)).map uV) 1 true] ∧
   ∀lo K,(∀k,k≤(aD 4294967296 x).length+1→(outs.set (aD 4294967296 x).length (c % 4294967296)).take k=aD 4294967296 (a+b)→K (.ref 0 0 0 k ((aD 4294967296 x).length+1)) [.row 0 ((outs.set (aD 4294967296 x).length (c % 4294967296)).map uV) 1 true]) →
    cW 182 [.ref 0 0 0 ((aD 4294967296 x).length+1) ((aD 4294967296 x).length+1)] lo [.row 0 ((outs.set (aD 4294967296 x).length (c % 4294967296)).map uV) 1 true] K:=by
  intro x y outs c hx Aj fU lB hc hv
  have JM:=lO (i:=(aD 4294967296 x).length) lB (show c % 4294967296<4294967296 from Nat.mod_lt _ (by decide))
  have DK:val 4294967296 (outs.set (aD 4294967296 x).length (c % 4294967296))=a+b:=by
   have h1:=dP (b:=4294967296) (xs:=outs) (i:=(aD 4294967296 x).length) (d:=c % 4294967296) (by omega)
   rw[List.take_of_length_le (by rw[List.length_set];omega)] at h1
   rw[h1,Nat.mod_eq_of_lt (Nat.lt_of_le_of_lt hc (by decide)),←hv,Aj]
  refine⟨aV jJ (by omega),?_,?_⟩
  ·rw[gU (f:=uV) (e:=1) jJ (by omega) (Nat.le_refl _) rfl rfl]
   rfl
  ·intro lo K hk
   have afR:(outs.set (aD 4294967296 x).length (c % 4294967296)).length=(aD 4294967296 x).length+1:=by rw[List.length_set];exact fU
   exact rL jJ (by omega) (Nat.le_refl _) (by omega) (fun d hd=>JM d (List.mem_of_mem_take hd)) (by rw[List.take_of_length_le (by omega)];exact DK) hk
 by_cases hsw:(((aD 4294967296 a).length:Nat):Int)<(((aD 4294967296 b).length:Nat):Int)
 ·have w1:IntKind.i64.wrap (((aD 4294967296 b).length:Int)+1)=(((aD 4294967296 b).length+1:Nat):Int):=wrapN _ (by omega) (by omega)
  simp only[xG,tL,bH,hsw,w1,mk _ hb,VX,Nat.reduceEqDiff,Nat.reduceAdd]
  refine P6 (x:=b) (y:=a) hb (by omega) rfl rfl rfl rfl rfl rfl ?_
  intro aM outs c g0 g5 g6 fU lB hc hv
  obtain⟨e1,e2,e3⟩:=fin b a outs c hb (by omega) fU lB hc hv
  simp only[g0,g5,g6,bH,wrap32,e1,e2,VX,Nat.reduceEqDiff,Nat.reduceAdd]
  refine e3 _ _ fun k hk he => ?_
  simp only[VX,Nat.reduceEqDiff,Nat.reduceAdd]
  exact Ng jJ (by rw[List.length_set];omega) hk he
 ·have w1:IntKind.i64.wrap (((aD 4294967296 a).length:Int)+1)=(((aD 4294967296 a).length+1:Nat):Int):=wrapN _ (by omega) (by omega)
  simp only[xG,tL,bH,hsw,w1,mk _ ha,VX,Nat.reduceEqDiff,Nat.reduceAdd]
  refine P6 (x:=a) (y:=b) ha (by omega) rfl rfl rfl rfl rfl rfl ?_
  intro aM outs c g0 g5 g6 fU lB hc hv
  obtain⟨e1,e2,e3⟩:=fin a b outs c ha rfl fU lB hc hv
  simp only[g0,g5,g6,bH,wrap32,e1,e2,VX,Nat.reduceEqDiff,Nat.reduceAdd]
  refine e3 _ _ fun k hk he => ?_
  simp only[VX,Nat.reduceEqDiff,Nat.reduceAdd]
  exact Ng jJ (by rw[List.length_set];omega) hk he
end Go.PM
namespace Go.PM
theorem JD {x:Int} {r:Nat} (h:x+4294967296=r) (hx:x<0) (hr:0≤x+4294967296):IntKind.u32.wrap x=(r:Int):=by rw[IntKind.wrap_u32];omega
theorem RZ (n:Nat) (hn:n≤70368744177664):yP [.int .u32 0] 4 (VI (n:Int)) (VI (n:Int)) []=some (.ref 0 0 0 n n,[.row 0 ((List.replicate n 0).map uV) 1 true]):=oW (f:=uV) (x:=0) rfl (by omega) (by omega)
theorem NW {outs:List Nat} {i d:Nat} (hi:i<outs.length):cD 0 1 (.ptr 0 0 i 0) (uV d) [.row 0 (outs.map uV) 1 true]=some [.row 0 ((outs.set i d).map uV) 1 true]:=by
 rw[gU (f:=uV) (e:=1) jJ hi (Nat.le_refl _) rfl rfl]
 rfl
theorem CM (a b:Nat) (Hi:b≤a) (ha:(aD 4294967296 a).length≤17592186044416):TC 181 [bH a,bH b] (bH (a-b)):=by
 refine TC.walk ⟨true,false⟩ Ga rfl (Nat.le_of_ble_eq_true rfl) (by simp[aN,bP]) (qA _) ?_
 have va:=bX (b:=4294967296) (by decide) a
 have vb:=bX (b:=4294967296) (by decide) b
 have la:=fC (b:=4294967296) (by decide) a
 have lb:=fC (b:=4294967296) (by decide) b
 have hle:=fA (b:=4294967296) (by decide) Hi
 unfold bH
 generalize aD 4294967296 a=xs at *
 generalize aD 4294967296 b=ys at *
 simp only[CE,AJ,RZ xs.length (by omega),VX,Nat.reduceEqDiff,Nat.reduceAdd]
 refine aW (fun(s:Nat×List Nat×Nat) ρ H=>s.1≤xs.length∧H=[.row 0 (s.2.1.map uV) 1 true]∧s.2.1.length=xs.length∧(∀d∈s.2.1,d<4294967296)∧s.2.2≤1∧val 4294967296 (xs.take s.1)+4294967296^s.1*s.2.2=val 4294967296 (s.2.1.take s.1)+val 4294967296 (ys.take s.1) ∧
  ρ 0=AL xs∧ρ 1=AL ys∧ρ 5 = .ref 0 0 0 xs.length xs.length∧ρ 6=VI s.2.2∧ρ 13=VI xs.length∧ρ 14=VI s.1) (fun s=>xs.length-s.1) (0,List.replicate xs.length 0,0) ⟨Nat.zero_le _,rfl,by simp,Ai (by decide) _,by simp,by simp[val],rfl,rfl,rfl,rfl,rfl,rfl⟩ ?_
 rintro⟨i,outs,l⟩ ρ H ⟨hi,rfl,fU,lB,hc,hv,g0,g1,g5,g6,g13,g14⟩
 simp only at hi fU lB hc hv g6 g14
 by_cases cB:(i:Int)<(xs.length:Int)
 ·obtain⟨x,hx⟩:∃x,xs[i]? = some x:=⟨_,List.getElem?_eq_getElem (by omega)⟩
  have lx:=la x (List.mem_of_getElem? hx)
  have e1:=aG (f:=uV) (t := .op) (H:=[.row 0 (outs.map uV) 1 true]) (size:=1) (k := .i64) hx rfl
  have w1:IntKind.i64.wrap (x:Int)=(x:Int):=wrapN x rfl (by omega)
  have w2:IntKind.i64.wrap ((x:Int)-(l:Int))=(x:Int)-(l:Int):=wrap64 (by omega) (by omega)
  have wi:IntKind.i64.wrap ((i:Int)+1)=((i+1:Nat):Int):=wrapN (i+1) (by omega) (by omega)
  have e3:bF 1 (.ref 0 0 0 xs.length xs.length) (VI i) [.row 0 (outs.map uV) 1 true]=some (.ptr 0 0 i 0):=by rw[aV jJ (by omega),Nat.zero_add]
  have e4:∀s:Nat,cD 0 1 (.ptr 0 0 i 0) (uV s) [.row 0 (outs.map uV) 1 true]=some [.row 0 ((outs.set i s).map uV) 1 true]:=fun s=>NW (by omega)
  have step:∀y r l':Nat,y<4294967296→r<4294967296→l'≤1→(∀d,ys[i]? = some d→d=y)→(ys.length≤i→y=0)→r+y+l=x+4294967296*l' →
    i+1≤xs.length∧(outs.set i r).length=xs.length∧(∀d∈outs.set i r,d<4294967296)∧l'≤1∧val 4294967296 (xs.take (i+1))+4294967296^(i+1)*l'=val 4294967296 ((outs.set i r).take (i+1))+val 4294967296 (ys.take (i+1)):=by
   intro y r l' _ hr CY h1 h2 hd
   refine⟨by omega,by rw[List.length_set];exact fU,lO lB hr,CY,?_⟩
   have hy:val 4294967296 (ys.take (i+1))=val 4294967296 (ys.take i)+4294967296^i*y:=by
    cases Ro:ys[i]? with
    | some d=>rw[aT Ro,h1 d Ro]
    |
     none =>
     have hle:=List.getElem?_eq_none_iff.1 Ro
     rw[h2 hle,jL hle,jL (by omega),Nat.mul_zero,Nat.add_zero]
   rw[aT hx,hy,dP (by omega),Nat.pow_succ]
   exact H6 hv hd
  by_cases aX:(i:Int)<(ys.length:Int)
  ·obtain⟨y,hy⟩:∃y,ys[i]? = some y:=⟨_,List.getElem?_eq_getElem (by omega)⟩
   have ly:=lb y (List.mem_of_getElem? hy)
   have e2:=aG (f:=uV) (t := .op) (H:=[.row 0 (outs.map uV) 1 true]) (size:=1) (k := .i64) hy rfl
   have w3:IntKind.i64.wrap (y:Int)=(y:Int):=wrapN y rfl (by omega)
   have w4:IntKind.i64.wrap ((x:Int)-(l:Int)-(y:Int))=(x:Int)-(l:Int)-(y:Int):=wrap64 (by omega) (by omega)
   by_cases mP:(x:Int)-(l:Int)-(y:Int)<0
   ·obtain⟨r,hr⟩:∃r:Nat,r+y+l=x+4294967296:=⟨x+4294967296-l-y,by omega⟩
    have w5:IntKind.u32.wrap ((x:Int)-(l:Int)-(y:Int))=(r:Int):=JD (by omega) mP (by omega)
    obtain⟨s1,s2,s3,s4,s5⟩:=step y r 1 ly (by omega) (Nat.le_refl _) (fun d hd=>by rw[hy] at hd;injection hd with hd;exact hd.symm) (fun h=>by omega) (by omega)
    simp only[iL,g0,g1,g5,g6,g13,g14,cB,aX,mP,e1,e2,e3,e4,w1,w2,w3,w4,w5,wi,VX,Nat.reduceEqDiff,Nat.reduceAdd]
    exact⟨(i+1,outs.set i r,1),by simp only;omega,s1,rfl,s2,s3,s4,s5,by (repeat' apply And.intro)<;>first | rfl | trivial⟩
   ·obtain⟨r,hr⟩:∃r:Nat,r+y+l=x:=⟨x-l-y,by omega⟩
    have w5:IntKind.u32.wrap ((x:Int)-(l:Int)-(y:Int))=(r:Int):=by rw[IntKind.wrap_u32];omega
    obtain⟨s1,s2,s3,s4,s5⟩:=step y r 0 ly (by omega) (by omega) (fun d hd=>by rw[hy] at hd;injection hd with hd;exact hd.symm) (fun h=>by omega) (by omega)
    simp only[iL,g0,g1,g5,g6,g13,g14,cB,aX,mP,e1,e2,e3,e4,w1,w2,w3,w4,w5,wi,VX,Nat.reduceEqDiff,Nat.reduceAdd]
    exact⟨(i+1,outs.set i r,0),by simp only;omega,s1,rfl,s2,s3,s4,s5,by (repeat' apply And.intro)<;>first | rfl | trivial⟩
  ·by_cases mP:(x:Int)-(l:Int)<0
   ·obtain⟨r,hr⟩:∃r:Nat,r+l=x+4294967296:=⟨x+4294967296-l,by omega⟩
    have w5:IntKind.u32.wrap ((x:Int)-(l:Int))=(r:Int):=JD (by omega) mP (by omega)
    obtain⟨s1,s2,s3,s4,s5⟩:=step 0 r 1 (by decide) (by omega) (Nat.le_refl _) (fun d hd=>by have:=(List.getElem?_eq_some_iff.1 hd).1;omega) (fun _=>rfl) (by omega)
    simp only[iL,g0,g1,g5,g6,g13,g14,cB,aX,mP,e1,e3,e4,w1,w2,w5,wi,VX,Nat.reduceEqDiff,Nat.reduceAdd]
    exact⟨(i+1,outs.set i r,1),by simp only;omega,s1,rfl,s2,s3,s4,s5,by (repeat' apply And.intro)<;>first | rfl | trivial⟩
   ·obtain⟨r,hr⟩:∃r:Nat,r+l=x:=⟨x-l,by omega⟩
    have w5:IntKind.u32.wrap ((x:Int)-(l:Int))=(r:Int):=by rw[IntKind.wrap_u32];omega
    obtain⟨s1,s2,s3,s4,s5⟩:=step 0 r 0 (by decide) (by omega) (by omega) (fun d hd=>by have:=(List.getElem?_eq_some_iff.1 hd).1;omega) (fun _=>rfl) (by omega)
    simp only[iL,g0,g1,g5,g6,g13,g14,cB,aX,mP,e1,e3,e4,w1,w2,w5,wi,VX,Nat.reduceEqDiff,Nat.reduceAdd]
    exact⟨(i+1,outs.set i r,0),by simp only;omega,s1,rfl,s2,s3,s4,s5,by (repeat' apply And.intro)<;>first | rfl | trivial⟩
 ·have pD:i=xs.length:=by omega
  subst pD
  rw[List.take_length,List.take_of_length_le (l:=ys) hle,List.take_of_length_le (l:=outs) (by omega),va,vb] at hv
  have iD:=oE lB
  rw[fU] at iD
  have DK:val 4294967296 outs=a-b:=by
   rcases Nat.lt_or_ge l 1 with h | h
   ·have:l=0:=by omega
    subst this
    rw[Nat.mul_zero] at hv
    omega
   ·have:l=1:=by omega
    subst this
    rw[Nat.mul_one] at hv
    omega
  simp only[iL,g0,g1,g5,g6,g13,g14,cB,VX,Nat.reduceEqDiff,Nat.reduceAdd]
  refine rL (m:=a-b) jJ (by omega) (Nat.le_refl _) (by omega) (fun d hd=>lB d (List.mem_of_mem_take hd)) (by rw[List.take_of_length_le (by omega)];exact DK) fun k hk he => ?_
  simp only[VX,Nat.reduceEqDiff,Nat.reduceAdd]
  exact Ng jJ (by omega) hk he
theorem PV {P Q A B Y x c r q o y W:Nat} (KR:A+P*Q*c=B+P*(x*Y)) (h1:r+W*q=c+(x*y+o)):A+P*Q*r+P*Q*W*q=B+P*Q*o+P*(x*(Y+Q*y)):=by
 have h2:P*Q*(r+W*q)=P*Q*(c+(x*y+o)):=by rw[h1]
 grind
theorem lR (a b:Nat) (ha:(aD 4294967296 a).length≤17592186044416) (hb:(aD 4294967296 b).length≤17592186044416):TC 180 [bH a,bH b] (bH (a*b)):=by
 refine TC.walk ⟨true,false⟩ Gd rfl (Nat.le_of_ble_eq_true rfl) (by simp[aN,bP]) (qA _) ?_
 have va:=bX (b:=4294967296) (by decide) a
 have vb:=bX (b:=4294967296) (by decide) b
 have la:=fC (b:=4294967296) (by decide) a
 have lb:=fC (b:=4294967296) (by decide) b
 unfold bH
 generalize aD 4294967296 a=xs at *
 generalize aD 4294967296 b=ys at *
 have w0:IntKind.i64.wrap ((xs.length:Int)+(ys.length:Int))=((xs.length+ys.length:Nat):Int):=wrapN _ (by omega) (by omega)
 simp only[CJ,AI,w0,RZ (xs.length+ys.length) (by omega),VX,Nat.reduceEqDiff,Nat.reduceAdd]
 generalize hN:xs.length+ys.length=N at *
 refine aW (fun(s:Nat×List Nat) ρ H=>s.1≤xs.length∧H=[.row 0 (s.2.map uV) 1 true]∧s.2.length=N∧(∀d∈s.2,d<4294967296)∧val 4294967296 (s.2.take (s.1+ys.length))=val 4294967296 (xs.take s.1)*b ∧
  ρ 0=AL xs∧ρ 1=AL ys∧ρ 5 = .ref 0 0 0 N N∧ρ 17=AL xs∧ρ 18=VI xs.length∧ρ 19=VI s.1) (fun s=>xs.length-s.1) (0,List.replicate N 0) ⟨Nat.zero_le _,rfl,by simp,Ai (by decide) _,by simp[val,List.take_replicate,rD],rfl,rfl,rfl,rfl,rfl,rfl⟩ ?_
 rintro⟨i,outs⟩ ρ H ⟨hi,rfl,fU,lB,hv,g0,g1,g5,g17,g18,g19⟩
 simp only at hi fU lB hv g19
 by_cases cB:(i:Int)<(xs.length:Int)
 ·obtain⟨x,hx⟩:∃x,xs[i]? = some x:=⟨_,List.getElem?_eq_getElem (by omega)⟩
  have lx:=la x (List.mem_of_getElem? hx)
  have e1:=aG (f:=uV) (t := .op) (H:=[.row 0 (outs.map uV) 1 true]) (size:=1) (k := .i64) hx rfl
  simp only[sX,g0,g1,g5,g17,g18,g19,cB,e1,VX,Nat.reduceEqDiff,Nat.reduceAdd]
  refine aW (fun(s:Nat×List Nat×Nat) ρ H=>s.1≤ys.length∧H=[.row 0 (s.2.1.map uV) 1 true]∧s.2.1.length=N∧(∀d∈s.2.1,d<4294967296)∧s.2.2<4294967296 ∧
   val 4294967296 (s.2.1.take (i+s.1))+4294967296^(i+s.1)*s.2.2=val 4294967296 (outs.take (i+s.1))+4294967296^i*(x*val 4294967296 (ys.take s.1))∧(∀j,i+s.1≤j→s.2.1[j]? = outs[j]?) ∧
   ρ 0=AL xs∧ρ 1=AL ys∧ρ 5 = .ref 0 0 0 N N∧ρ 6=VI i∧ρ 7=uV x∧ρ 8=VK .u64 s.2.2∧ρ 17=AL xs∧ρ 18=VI xs.length∧ρ 19=VI i∧ρ 24=AL ys∧ρ 25=VI ys.length∧ρ 26=VI s.1) (fun s=>ys.length-s.1) (0,outs,0) ⟨Nat.zero_le _,rfl,fU,lB,by simp,by simp[val],fun _ _=>rfl,by (repeat' apply And.intro)<;>first | rfl | trivial⟩ ?_
  rintro⟨k,os,c⟩ pM H ⟨hk,rfl,Nx,NO,hc,KR,ES,k0,k1,k5,k6,k7,k8,EI,QP,Y2,k24,k25,k26⟩
  simp only at hk Nx NO hc KR ES k8 k26
  have wi:IntKind.i64.wrap ((i:Int)+1)=((i+1:Nat):Int):=wrapN (i+1) (by omega) (by omega)
  by_cases hkn:(k:Int)<(ys.length:Int)
  ·obtain⟨y,hy⟩:∃y,ys[k]? = some y:=⟨_,List.getElem?_eq_getElem (by omega)⟩
   have ly:=lb y (List.mem_of_getElem? hy)
   obtain⟨o,ho⟩:∃o,os[i+k]? = some o:=⟨_,List.getElem?_eq_getElem (by omega)⟩
   have lo:=NO o (List.mem_of_getElem? ho)
   have ho':outs[i+k]? = some o:=by rw[←ES (i+k) (Nat.le_refl _)];exact ho
   have f1:=aG (f:=uV) (t := .op) (H:=[.row 0 (os.map uV) 1 true]) (size:=1) (k := .i64) hy rfl
   have w1:IntKind.i64.wrap ((i:Int)+(k:Int))=((i+k:Nat):Int):=wrapN _ (by omega) (by omega)
   have f2:bF 1 (.ref 0 0 0 N N) (VI ((i+k:Nat):Int)) [.row 0 (os.map uV) 1 true]=some (.ptr 0 0 (i+k) 0):=by rw[aV jJ (by omega),Nat.zero_add]
   have f3:cU false 1 (.ptr 0 0 (i+k) 0) [.row 0 (os.map uV) 1 true]=some (uV o):=iM jJ ho
   have f4:∀s:Nat,cD 0 1 (.ptr 0 0 (i+k) 0) (uV s) [.row 0 (os.map uV) 1 true]=some [.row 0 ((os.set (i+k) s).map uV) 1 true]:=fun s=>NW (by omega)
   have Aj:x*y≤4294967295*4294967295:=Nat.mul_le_mul (by omega) (by omega)
   have w2:IntKind.u64.wrap (x:Int)=(x:Int):=fN _ (by omega)
   have w3:IntKind.u64.wrap (y:Int)=(y:Int):=fN _ (by omega)
   have w4:IntKind.u64.wrap (o:Int)=(o:Int):=fN _ (by omega)
   have w5:IntKind.u64.wrap ((x:Int)*(y:Int))=((x*y:Nat):Int):=by rw[←Int.natCast_mul];exact fN _ (by omega)
   have w6:IntKind.u64.wrap (((x*y:Nat):Int)+(o:Int))=((x*y+o:Nat):Int):=by rw[←Int.natCast_add];exact fN _ (by omega)
   have w7:IntKind.u64.wrap ((c:Int)+((x*y+o:Nat):Int))=((c+(x*y+o):Nat):Int):=by rw[←Int.natCast_add];exact fN _ (by omega)
   have wk:IntKind.i64.wrap ((k:Int)+1)=((k+1:Nat):Int):=wrapN (k+1) (by omega) (by omega)
   simp only[sQ,k0,k1,k5,k6,k7,k8,EI,QP,Y2,k24,k25,k26,hkn,f1,f2,f3,f4,w1,w2,w3,w4,w5,w6,w7,wk,wrap32,sK,VX,Nat.reduceEqDiff,Nat.reduceAdd]
   have hq:(c+(x*y+o)) / 4294967296<4294967296:=Nat.div_lt_of_lt_mul (by omega)
   refine⟨(k+1,os.set (i+k) ((c+(x*y+o)) % 4294967296),(c+(x*y+o)) / 4294967296),by simp only;omega,by omega,rfl,by rw[List.length_set];exact Nx,lO NO (Nat.mod_lt _ (by decide)),hq,?_,fun j hj => ?_,by (repeat' apply And.intro)<;>first | rfl | trivial⟩
   ·have h1:=Nat.mod_add_div (c+(x*y+o)) 4294967296
    rw[←Nat.add_assoc,dP (by omega),aT ho',aT hy,Nat.pow_succ]
    rw[Nat.pow_add] at KR ⊢
    exact PV KR h1
   ·rw[List.getElem?_set_ne (by omega)]
    exact ES j (by omega)
  ·have hke:k=ys.length:=by omega
   subst hke
   rw[List.take_length,vb,hv] at KR
   have w1:IntKind.i64.wrap ((i:Int)+(ys.length:Int))=((i+ys.length:Nat):Int):=wrapN _ (by omega) (by omega)
   have f2:bF 1 (.ref 0 0 0 N N) (VI ((i+ys.length:Nat):Int)) [.row 0 (os.map uV) 1 true]=some (.ptr 0 0 (i+ys.length) 0):=by rw[aV jJ (by omega),Nat.zero_add]
   have f4:∀s:Nat,cD 0 1 (.ptr 0 0 (i+ys.length) 0) (uV s) [.row 0 (os.map uV) 1 true]=some [.row 0 ((os.set (i+ys.length) s).map uV) 1 true]:=fun s=>NW (by omega)
   simp only[sQ,k0,k1,k5,k6,k7,k8,EI,QP,Y2,k24,k25,k26,hkn,f2,f4,w1,wi,wrap32,VX,Nat.reduceEqDiff,Nat.reduceAdd]
   refine⟨(i+1,os.set (i+ys.length) (c % 4294967296)),by simp only;omega,by omega,rfl,by rw[List.length_set];exact Nx,lO NO (Nat.mod_lt _ (by decide)),?_,by (repeat' apply And.intro)<;>first | rfl | trivial⟩
   rw[show i+1+ys.length=i+ys.length+1 by omega,dP (by omega),Nat.mod_eq_of_lt hc,KR,aT hx,Nat.add_mul,Nat.mul_assoc]
 ·have pD:i=xs.length:=by omega
  subst pD
  rw[hN,List.take_length,va,List.take_of_length_le (by omega)] at hv
  simp only[sX,g0,g1,g5,g17,g18,g19,cB,VX,Nat.reduceEqDiff,Nat.reduceAdd]
  refine rL (m:=a*b) jJ (by omega) (Nat.le_refl _) (by omega) (fun d hd=>lB d (List.mem_of_mem_take hd)) (by rw[List.take_of_length_le (by omega)];exact hv) fun k hk he => ?_
  simp only[VX,Nat.reduceEqDiff,Nat.reduceAdd]
  exact Ng jJ (by omega) hk he
end Go.PM
namespace Go.PM
theorem set_drop {xs:List Nat} {i d:Nat} (h:i<xs.length):(xs.set i d).drop i=d::xs.drop (i+1):=by
 rw[List.drop_eq_getElem_cons (by rw[List.length_set];exact h),List.getElem_set_self,K5 h]
theorem Ti (n k:Nat) (hn:n≤70368744177664) {H:aA}:yP [.int .u32 0] 4 (VI (n:Int)) (VI (n:Int)) H=some (.ref H.length 0 0 n n,H++[.row 0 ((List.replicate n 0).map uV) 1 true]):=oW (f:=uV) (x:=0) rfl (by omega) (by omega)
theorem OB {A q t r x d W:Nat} (h1:t+d*q=r*W+x):(q+W*A)*d+t=x+W*(A*d+r):=by grind
theorem Q6 {A B P S W c m x q:Nat} (hv:A+P*c=B*S) (h1:m*S+W*q=x*S):A+P*(c+m*S)+P*W*q=(B+P*x)*S:=by
 have h2:P*(m*S+W*q)=P*(x*S):=by rw[h1]
 grind
theorem DL (a d:Nat) (CP:0<d) (hdW:d<4294967296) (ha:(aD 4294967296 a).length≤17592186044416):TC 183 [bH a,uV d] (.eG [bH (a / d),uV (a % d)]):=by
 refine TC.walk ⟨true,false⟩ BW rfl (Nat.le_of_ble_eq_true rfl) (by simp[aN,bP,aP,nJ]) (by simp[gK,pB,qA,nJ]) ?_
 have va:=bX (b:=4294967296) (by decide) a
 have la:=fC (b:=4294967296) (by decide) a
 unfold bH
 generalize aD 4294967296 a=xs at *
 have w0:IntKind.i64.wrap ((xs.length:Int)-1)=(xs.length:Int)-1:=wrap64 (by omega) (by omega)
 have wd:IntKind.u64.wrap (d:Int)=(d:Int):=fN _ (by omega)
 simp only[vR,tE,w0,RZ xs.length (by omega),VX,Nat.reduceEqDiff,Nat.reduceAdd]
 refine aW (fun(s:Nat×List Nat×Nat) ρ H=>s.1≤xs.length∧H=[.row 0 (s.2.1.map uV) 1 true]∧s.2.1.length=xs.length∧(∀d∈s.2.1,d<4294967296)∧s.2.2<d∧val 4294967296 (s.2.1.drop s.1)*d+s.2.2=val 4294967296 (xs.drop s.1) ∧
  ρ 0=AL xs∧ρ 1=uV d∧ρ 6 = .ref 0 0 0 xs.length xs.length∧ρ 7=VK .u64 s.2.2∧ρ 8=VI ((s.1:Int)-1)) (fun s=>s.1) (xs.length,List.replicate xs.length 0,0) ⟨Nat.le_refl _,rfl,by simp,Ai (by decide) _,CP,by simp[val,List.drop_replicate],rfl,rfl,rfl,rfl,rfl⟩ ?_
 rintro⟨j,outs,r⟩ ρ H ⟨hj,rfl,fU,lB,hr,hv,g0,g1,g6,g7,g8⟩
 simp only at hj fU lB hr hv g7 g8
 by_cases hz:(0:Int)≤(j:Int)-1
 ·obtain⟨i,rfl⟩:∃i,j=i+1:=⟨j-1,by omega⟩
  obtain⟨x,hx⟩:∃x,xs[i]? = some x:=⟨_,List.getElem?_eq_getElem (by omega)⟩
  have lx:=la x (List.mem_of_getElem? hx)
  have J6:((i+1:Nat):Int)-1=(i:Int):=by omega
  rw[J6] at g8 hz
  have e1:=aG (f:=uV) (t := .op) (H:=[.row 0 (outs.map uV) 1 true]) (size:=1) (k := .i64) hx rfl
  have e3:bF 1 (.ref 0 0 0 xs.length xs.length) (VI i) [.row 0 (outs.map uV) 1 true]=some (.ptr 0 0 i 0):=by rw[aV jJ (by omega),Nat.zero_add]
  have e4:∀s:Nat,cD 0 1 (.ptr 0 0 i 0) (uV s) [.row 0 (outs.map uV) 1 true]=some [.row 0 ((outs.set i s).map uV) 1 true]:=fun s=>NW (by omega)
  have w2:IntKind.i64.wrap ((i:Int)-1)=(i:Int)-1:=wrap64 (by omega) (by omega)
  have w3:IntKind.u64.wrap (x:Int)=(x:Int):=fN _ (by omega)
  have w4:IntKind.u64.wrap (((r*4294967296:Nat):Int)+(x:Int))=((r*4294967296+x:Nat):Int):=by rw[←Int.natCast_add];exact fN _ (by omega)
  have w5:=De r .u64 (by omega)
  have q1:=TN (r*4294967296+x) d (by omega) CP
  have q2:=Nz (r*4294967296+x) d CP
  have hq:(r*4294967296+x) / d<4294967296:=by
   rw[Nat.div_lt_iff_lt_mul CP]
   have:(r+1)*4294967296≤d*4294967296:=Nat.mul_le_mul_right _ hr
   rw[Nat.mul_comm 4294967296 d]
   omega
  simp only[mM,g0,g1,g6,g7,g8,hz,e1,e3,e4,w2,w3,w4,w5,wd,q1,q2,wrap32,Nat.mod_eq_of_lt hq,VX,Nat.reduceEqDiff,Nat.reduceAdd]
  refine⟨(i,outs.set i ((r*4294967296+x) / d),(r*4294967296+x) % d),by simp only;omega,by omega,rfl,by rw[List.length_set];exact fU,lO lB hq,Nat.mod_lt _ CP,?_,by (repeat' apply And.intro)<;>first | rfl | trivial⟩
  have h1:=Nat.mod_add_div (r*4294967296+x) d
  rw[set_drop (by omega),sC,sO hx,←hv]
  exact OB h1
 ·have UN:j=0:=by omega
  subst UN
  rw[List.drop_zero,List.drop_zero,va] at hv
  have h1:a / d=val 4294967296 outs:=by
   rw[←hv,Nat.mul_comm,Nat.mul_add_div CP,Nat.div_eq_of_lt hr,Nat.add_zero]
  have h2:a % d=r:=by
   rw[←hv,Nat.mul_comm,Nat.mul_add_mod,Nat.mod_eq_of_lt hr]
  simp only[mM,g0,g1,g6,g7,g8,hz,VX,Nat.reduceEqDiff,Nat.reduceAdd]
  refine rL (m:=a / d) jJ (by omega) (Nat.le_refl _) (by omega) (fun d hd=>lB d (List.mem_of_mem_take hd)) (by rw[List.take_of_length_le (by omega)];exact h1.symm) fun k hk he => ?_
  simp only[wrap32,Nat.mod_eq_of_lt (show r<4294967296 by omega),g7,VX,Nat.reduceEqDiff,Nat.reduceAdd]
  rw[h2]
  exact bE (d:=6) (IS (d:=5) jJ (by omega) hk he) (aH rfl)
theorem Ft {n g e:Nat} {es:List VV} {w:Bool}:aK (List.replicate n eR.dead++[.row g es e w]) n g=some (es,e,w):=by rw[IG];exact aR
theorem apT {n:Nat} (xs:List Nat):xI n (xs.map uV)=true:=by
 rw[wY]
 intro x hx
 obtain⟨y,_,rfl⟩:=List.mem_map.1 hx
 rfl
theorem xK (a s:Nat) (hs:s≤31) (ha:(aD 4294967296 a).length≤17592186044416):FC 220 [bH a,VI s] fun n r L=>∃outs:List Nat,r = .ref n 0 0 ((aD 4294967296 a).length+1) ((aD 4294967296 a).length+1)∧L=[.row 0 (outs.map uV) 1 true]∧outs.length=(aD 4294967296 a).length+1∧(∀d∈outs,d<4294967296)∧val 4294967296 outs=a*2^s∧(∀d,outs[(aD 4294967296 a).length]? = some d→d<2^s):=by
 refine FC.walk ⟨true,false⟩ CH (Nat.le_of_ble_eq_true rfl) fun n => ?_
 have va:=bX (b:=4294967296) (by decide) a
 have la:=fC (b:=4294967296) (by decide) a
 unfold bH
 generalize aD 4294967296 a=xs at *
 have hS:0<2^s:=Nat.pow_pos (by decide)
 have hSW:2^s*2^(32-s)=4294967296:=by rw[←Nat.pow_add,show s+(32-s)=32 by omega]
 have w0:IntKind.i64.wrap ((xs.length:Int)+1)=((xs.length+1:Nat):Int):=wrapN _ (by omega) (by omega)
 simp only[xU,uL,w0,Ti (xs.length+1) n (by omega),List.length_replicate,VX,Nat.reduceEqDiff,Nat.reduceAdd]
 refine aW (fun(t:Nat×List Nat×Nat) ρ H=>t.1≤xs.length∧H=List.replicate n .dead++[.row 0 (t.2.1.map uV) 1 true]∧t.2.1.length=xs.length+1∧(∀d∈t.2.1,d<4294967296)∧t.2.1[t.1]? = some t.2.2∧t.2.2<2^s∧val 4294967296 (t.2.1.take t.1)+4294967296^t.1*t.2.2=val 4294967296 (xs.take t.1)*2^s ∧
  ρ 1=VI s∧ρ 5 = .ref n 0 0 (xs.length+1) (xs.length+1)∧ρ 13=AL xs∧ρ 14=VI xs.length∧ρ 15=VI t.1) (fun t=>xs.length-t.1) (0,List.replicate (xs.length+1) 0,0) ⟨Nat.zero_le _,rfl,by simp,Ai (by decide) _,by simp,hS,by simp[val],rfl,rfl,rfl,rfl,rfl⟩ ?_
 rintro⟨i,outs,c⟩ ρ H ⟨hi,rfl,fU,lB,hoc,hc,hv,g1,g5,g13,g14,g15⟩
 simp only at hi fU lB hoc hc hv g15
 by_cases cB:(i:Int)<(xs.length:Int)
 ·obtain⟨x,hx⟩:∃x,xs[i]? = some x:=⟨_,List.getElem?_eq_getElem (by omega)⟩
  have lx:=la x (List.mem_of_getElem? hx)
  have e1:=aG (f:=uV) (t := .op) (H:=List.replicate n .dead++[.row 0 (outs.map uV) 1 true]) (size:=1) (k := .i64) hx rfl
  have wx:IntKind.u64.wrap (x:Int)=(x:Int):=fN _ (by omega)
  have wi:IntKind.i64.wrap ((i:Int)+1)=((i+1:Nat):Int):=wrapN (i+1) (by omega) (by omega)
  have w5:=adP x s lx hs
  obtain⟨m,hm⟩:∃m,(x*2^s) % 4294967296=m*2^s:=by
   refine⟨x % 2^(32-s),?_⟩
   rw[←hSW,Nat.mul_comm x,Nat.mul_mod_mul_left,Nat.mul_comm]
  have hhi:(x*2^s) / 4294967296<2^s:=by
   rw[Nat.div_lt_iff_lt_mul (by decide),Nat.mul_comm (2^s)]
   exact Nat.mul_lt_mul_of_pos_right lx hS
  have aX:(x*2^s) % 4294967296<4294967296:=Nat.mod_lt _ (by decide)
  have hmm:m<2^(32-s):=by
   have:m*2^s<2^(32-s)*2^s:=by rw[←hm,Nat.mul_comm (2^(32-s)) (2^s),hSW];exact aX
   exact Nat.lt_of_mul_lt_mul_right this
  have aeI:m*2^s+c<4294967296:=by
   have:(m+1)*2^s≤2^(32-s)*2^s:=Nat.mul_le_mul_right _ hmm
   rw[Nat.mul_comm (2^(32-s)),hSW,Nat.add_mul] at this
   omega
  have or1:=aeE c m s hc aeI
  have e3:bF 1 (.ref n 0 0 (xs.length+1) (xs.length+1)) (VI i) (List.replicate n .dead++[.row 0 (outs.map uV) 1 true])=some (.ptr n 0 i 0):=by rw[aV Ft (by omega),Nat.zero_add]
  have e4:cU false 1 (.ptr n 0 i 0) (List.replicate n .dead++[.row 0 (outs.map uV) 1 true])=some (uV c):=iM Ft hoc
  have e5:∀(os:List Nat) (j t:Nat),j<os.length→cD n 1 (.ptr n 0 j 0) (uV t) (List.replicate n .dead++[.row 0 (os.map uV) 1 true])=some (List.replicate n .dead++[.row 0 ((os.set j t).map uV) 1 true]):=fun os j t hj=>by
   rw[gU (f:=uV) (e:=1) Ft hj (Nat.le_refl _) rfl rfl,X9]
   rfl
  have e6:bF 1 (.ref n 0 0 (xs.length+1) (xs.length+1)) (VI ((i+1:Nat):Int)) (List.replicate n .dead++[.row 0 ((outs.set i (c+m*2^s)).map uV) 1 true])=some (.ptr n 0 (i+1) 0):=by rw[aV Ft (by omega),Nat.zero_add]
  have e7:=e5 outs i (c+m*2^s) (by omega)
  have e8:=e5 (outs.set i (c+m*2^s)) (i+1) ((x*2^s) / 4294967296) (by rw[List.length_set];omega)
  have hq:(x*2^s) / 4294967296 % 4294967296=(x*2^s) / 4294967296:=Nat.mod_eq_of_lt (by
   have:2^s≤2^31:=Nat.pow_le_pow_right (by decide) hs
   omega)
  simp only[nH,g1,g5,g13,g14,g15,cB,e1,e3,e4,e6,e7,e8,wx,wi,w5,wrap32,sK,hm,or1,hq,VX,Nat.reduceEqDiff,Nat.reduceAdd]
  refine⟨(i+1,(outs.set i (c+m*2^s)).set (i+1) ((x*2^s) / 4294967296),(x*2^s) / 4294967296),by simp only;omega,by omega,rfl,by rw[List.length_set,List.length_set];exact fU,
   lO (lO lB (by omega)) (by
    have:2^s≤2^31:=Nat.pow_le_pow_right (by decide) hs
    omega),by rw[List.getElem?_set_self (by rw[List.length_set];omega)],hhi,?_,by (repeat' apply And.intro)<;>first | rfl | trivial⟩
  rw[List.take_set_of_le (Nat.le_refl _),dP (by omega),aT hx,Nat.pow_succ]
  have h1:=Nat.mod_add_div (x*2^s) 4294967296
  rw[hm] at h1
  exact Q6 hv h1
 ·have pD:i=xs.length:=by omega
  subst pD
  rw[List.take_length,va] at hv
  have DK:val 4294967296 outs=a*2^s:=by
   have h1:=aT (b:=4294967296) hoc
   rw[List.take_of_length_le (by omega)] at h1
   rw[h1]
   exact hv
  simp only[nH,g1,g5,g13,g14,g15,cB,VX,Nat.reduceEqDiff,Nat.reduceAdd]
  exact⟨_,rfl,by simp[jB],by simp[kT,apT outs],outs,rfl,fU,lB,DK,fun d hd=>by rw[hoc] at hd;injection hd with hd;omega⟩
end Go.PM
namespace Go.PM
theorem Ni (n:Nat) (hn:n≤35184372088832):yP [.int .i64 0] 8 (VI (n:Int)) (VI (n:Int)) []=some (.ref 0 0 0 n n,[.row 0 ((List.replicate n 0).map tV) 1 true]):=oW (f:=tV) (x:=0) rfl (by omega) (by omega)
theorem M6 {outs:List Nat} {i d:Nat} (hi:i<outs.length):cD 0 1 (.ptr 0 0 i 0) (VI (d:Int)) [.row 0 (outs.map tV) 1 true]=some [.row 0 ((outs.set i d).map tV) 1 true]:=by
 rw[show VI (d:Int)=tV d from rfl,gU (f:=tV) (e:=1) IN hi (Nat.le_refl _) rfl rfl]
 rfl
theorem KD {b g:Nat} {rows:List Nat} {w:Bool} {H:aA} {j d:Nat} (hr:aK H b g=some (rows.map tV,1,w)) (hj:rows[j]? = some d):cU false 1 (.ptr b g j 0) H=some (VI (d:Int)):=tG hr hj
theorem adT {n i:Nat} {outs:List Nat} (h:i<n):bF 1 (.ref 0 0 0 n n) (VI (i:Int)) [.row 0 (outs.map tV) 1 true]=some (.ptr 0 0 i 0):=by rw[aV IN h,Nat.zero_add]
theorem wr {x:Int} (n:Nat) (h:x=n) (hn:n≤9223372036854775807):IntKind.i64.wrap x=(n:Int):=wrapN n h hn
theorem zI (a b:Nat) (Hi:b≤a) (ha:(aD 1000000000 a).length≤17592186044416):TC 179 [bT a,bT b] (bT (a-b)):=by
 refine TC.walk ⟨true,false⟩ Fv rfl (Nat.le_of_ble_eq_true rfl) (by simp[aN,cA]) (mW _) ?_
 have hle:=fA (b:=1000000000) (by decide) Hi
 simp only[BE,zF,KI,cQ,VX,Nat.reduceEqDiff,Nat.reduceAdd]
 refine aW (fun(s:Nat×List Nat×Nat) ρ H=>s.1=s.2.1.length∧s.1≤(aD 1000000000 a).length∧H=[.row s.2.1.length (s.2.1.map tV) 1 true]∧(∀d∈s.2.1,d<1000000000)∧s.2.2≤1∧val 1000000000 ((aD 1000000000 a).take s.1)+1000000000^s.1*s.2.2=val 1000000000 s.2.1+val 1000000000 ((aD 1000000000 b).take s.1) ∧
  ρ 0=bT a∧ρ 1=bT b∧ρ 5 = .ref 0 s.2.1.length 0 s.2.1.length s.2.1.length∧ρ 6=VI s.2.2∧ρ 11=VI (aD 1000000000 a).length∧ρ 12=VI s.1) (fun s=>(aD 1000000000 a).length-s.1) (0,[],0) ⟨rfl,Nat.zero_le _,rfl,by simp,by simp,by simp[val],rfl,rfl,rfl,rfl,rfl,rfl⟩ ?_
 rintro⟨i,outs,l⟩ ρ H ⟨hi,IK,rfl,lB,hc,hv,g0,g1,g5,g6,g11,g12⟩
 simp only at hi IK lB hc hv g5 g6 g12
 by_cases cB:(i:Int)<((aD 1000000000 a).length:Int)
 ·have hx:=P3 (b:=1000000000) (by decide) (n:=a) (i:=i) (by omega)
  have e1:bF 1 (bT a) (VI i) [.row outs.length (outs.map tV) 1 true]=some (.cP (tV (a / 1000000000^i % 1000000000)) 0):=aG (f:=tV) (t := .op) (size:=1) (k := .i64) hx rfl
  have c2:=Cj b i
  have t1:=DT (b:=1000000000) (aD 1000000000 a) i
  have t2:=DT (b:=1000000000) (aD 1000000000 b) i
  rw[G5 (by decide)] at t1 t2
  have lx:=Nat.mod_lt (a / 1000000000^i) (show 0<1000000000 by decide)
  have ly:=Nat.mod_lt (b / 1000000000^i) (show 0<1000000000 by decide)
  generalize a / 1000000000^i % 1000000000=x at *
  generalize b / 1000000000^i % 1000000000=y at *
  have wi:IntKind.i64.wrap ((i:Int)+1)=((i+1:Nat):Int):=wrapN (i+1) (by omega) (by omega)
  have w1:IntKind.i64.wrap ((x:Int)-(y:Int))=(x:Int)-(y:Int):=wrap64 (by omega) (by omega)
  have w2:IntKind.i64.wrap ((x:Int)-(y:Int)-(l:Int))=(x:Int)-(y:Int)-(l:Int):=wrap64 (by omega) (by omega)
  have step:∀r l':Nat,r<1000000000→l'≤1→r+y+l=x+1000000000*l'→(∀d∈outs++[r],d<1000000000)∧val 1000000000 ((aD 1000000000 a).take (i+1))+1000000000^(i+1)*l'=val 1000000000 (outs++[r])+val 1000000000 ((aD 1000000000 b).take (i+1)):=by
   intro r l' hr _ hd
   refine⟨fun d h => ?_,?_⟩
   ·rcases List.mem_append.1 h with h | h
    ·exact lB d h
    ·rw[List.mem_singleton.1 h];exact hr
   ·rw[t1,t2,sL,←hi,Nat.pow_succ]
    exact H6 hv hd
  by_cases mP:(x:Int)-(y:Int)-(l:Int)<0
  ·obtain⟨r,hr⟩:∃r:Nat,r+y+l=x+1000000000:=⟨x+1000000000-l-y,by omega⟩
   have w3:IntKind.i64.wrap ((x:Int)-(y:Int)-(l:Int)+1000000000)=(r:Int):=wrapN r (by omega) (by omega)
   obtain⟨s1,s2⟩:=step r 1 (by omega) (Nat.le_refl _) (by omega)
   have a1:=aaS (ds:=outs) (d:=r) (by omega)
   simp only[mN,g0,g1,g5,g6,g11,g12,cB,e1,c2,w1,w2,w3,wi,mP,sE,uS,a1,VX,Nat.reduceEqDiff,Nat.reduceAdd]
   refine⟨(i+1,outs++[r],1),by simp only;omega,by simp;omega,by simp only;omega,by simp,s1,Nat.le_refl _,s2,?_⟩
   simp only[List.length_append,List.length_singleton]
   try (repeat' apply And.intro)<;>first | rfl | trivial
  ·obtain⟨r,hr⟩:∃r:Nat,r+y+l=x:=⟨x-l-y,by omega⟩
   obtain⟨s1,s2⟩:=step r 0 (by omega) (by omega) (by omega)
   have er:(x:Int)-(y:Int)-(l:Int)=(r:Int):=by omega
   have a1:=aaS (ds:=outs) (d:=r) (by omega)
   have w3:IntKind.i64.wrap ((x:Int)-(y:Int)-(l:Int))=(r:Int):=wrapN r er (by omega)
   have KZ:¬(r:Int)<0:=by omega
   simp only[mN,g0,g1,g5,g6,g11,g12,cB,e1,c2,w1,w3,wi,KZ,sE,uS,a1,VX,Nat.reduceEqDiff,Nat.reduceAdd]
   refine⟨(i+1,outs++[r],0),by simp only;omega,by simp;omega,by simp only;omega,by simp,s1,Nat.zero_le _,s2,?_⟩
   simp only[List.length_append,List.length_singleton]
   try (repeat' apply And.intro)<;>first | rfl | trivial
 ·have pD:i=(aD 1000000000 a).length:=by omega
  rw[pD,List.take_length,List.take_of_length_le (l:=aD 1000000000 b) hle,bX (by decide),bX (by decide)] at hv
  have iD:=oE lB
  rw[←hi,pD] at iD
  have DK:val 1000000000 outs=a-b:=by
   rcases Nat.lt_or_ge l 1 with h | h
   ·have:l=0:=by omega
    subst this
    rw[Nat.mul_zero] at hv
    omega
   ·have:l=1:=by omega
    subst this
    rw[Nat.mul_one] at hv
    omega
  simp only[mN,g0,g1,g5,g6,g11,g12,cB,VX,Nat.reduceEqDiff,Nat.reduceAdd]
  refine Gn lB rfl (by omega) DK ?_
  simp only[VX,Nat.reduceEqDiff,Nat.reduceAdd]
  exact Ql _
theorem lL (a b:Nat) (ha:(aD 1000000000 a).length≤17592186044416) (hb:(aD 1000000000 b).length≤17592186044416):TC 162 [bT a,bT b] (bT (a*b)):=by
 refine TC.walk ⟨true,false⟩ He rfl (Nat.le_of_ble_eq_true rfl) (by simp[aN,cA]) (mW _) ?_
 have va:=bX (b:=1000000000) (by decide) a
 have vb:=bX (b:=1000000000) (by decide) b
 have la:=fC (b:=1000000000) (by decide) a
 have lb:=fC (b:=1000000000) (by decide) b
 unfold bT
 generalize aD 1000000000 a=xs at *
 generalize aD 1000000000 b=ys at *
 have w0:IntKind.i64.wrap ((xs.length:Int)+(ys.length:Int))=((xs.length+ys.length:Nat):Int):=wrapN _ (by omega) (by omega)
 simp only[B9,AG,dM,w0,Ni (xs.length+ys.length) (by omega),VX,Nat.reduceEqDiff,Nat.reduceAdd]
 generalize hN:xs.length+ys.length=N at *
 refine aW (fun(s:Nat×List Nat) ρ H=>s.1≤xs.length∧H=[.row 0 (s.2.map tV) 1 true]∧s.2.length=N∧(∀d∈s.2,d<1000000000)∧val 1000000000 (s.2.take (s.1+ys.length))=val 1000000000 (xs.take s.1)*b∧(∀j,s.1+ys.length≤j→j<N→s.2[j]? = some 0) ∧
  ρ 0=iB xs∧ρ 1=iB ys∧ρ 5 = .ref 0 0 0 N N∧ρ 17=VI xs.length∧ρ 18=VI s.1) (fun s=>xs.length-s.1) (0,List.replicate N 0) ⟨Nat.zero_le _,rfl,by simp,Ai (by decide) _,by simp[val,List.take_replicate,rD],fun j _ h=>by simp[List.getElem?_replicate,h],rfl,rfl,rfl,rfl,rfl⟩ ?_
 rintro⟨i,outs⟩ ρ H ⟨hi,rfl,fU,lB,hv,hzr,g0,g1,g5,g17,g18⟩
 simp only at hi fU lB hv hzr g18
 by_cases cB:(i:Int)<(xs.length:Int)
 ·obtain⟨x,hx⟩:∃x,xs[i]? = some x:=⟨_,List.getElem?_eq_getElem (by omega)⟩
  have lx:=la x (List.mem_of_getElem? hx)
  have e1:∀os:List Nat,bF 1 (iB xs) (VI i) [.row 0 (os.map tV) 1 true]=some (.cP (tV x) 0):=fun os=>aG (f:=tV) (t := .op) (size:=1) (k := .i64) hx rfl
  simp only[rW,g0,g1,g5,g17,g18,cB,dM,VX,Nat.reduceEqDiff,Nat.reduceAdd]
  refine aW (fun(s:Nat×List Nat×Nat) ρ H=>s.1≤ys.length∧H=[.row 0 (s.2.1.map tV) 1 true]∧s.2.1.length=N∧(∀d∈s.2.1,d<1000000000)∧s.2.2<1000000000 ∧
   val 1000000000 (s.2.1.take (i+s.1))+1000000000^(i+s.1)*s.2.2=val 1000000000 (outs.take (i+s.1))+1000000000^i*(x*val 1000000000 (ys.take s.1))∧(∀j,i+s.1≤j→s.2.1[j]? = outs[j]?) ∧
   ρ 0=iB xs∧ρ 1=iB ys∧ρ 5 = .ref 0 0 0 N N∧ρ 6=VI i∧ρ 7=VI s.2.2∧ρ 17=VI xs.length∧ρ 18=VI i∧ρ 22=VI ys.length∧ρ 23=VI s.1) (fun s=>ys.length-s.1) (0,outs,0) ⟨Nat.zero_le _,rfl,fU,lB,by simp,by simp[val],fun _ _=>rfl,by (repeat' apply And.intro)<;>first | rfl | trivial⟩ ?_
  rintro⟨k,os,c⟩ pM H ⟨hk,rfl,Nx,NO,hc,KR,ES,k0,k1,k5,k6,k7,EI,QP,k22,k23⟩
  simp only at hk Nx NO hc KR ES k7 k23
  have wi:IntKind.i64.wrap ((i:Int)+1)=((i+1:Nat):Int):=wrapN (i+1) (by omega) (by omega)
  by_cases hkn:(k:Int)<(ys.length:Int)
  ·obtain⟨y,hy⟩:∃y,ys[k]? = some y:=⟨_,List.getElem?_eq_getElem (by omega)⟩
   have ly:=lb y (List.mem_of_getElem? hy)
   obtain⟨o,ho⟩:∃o,os[i+k]? = some o:=⟨_,List.getElem?_eq_getElem (by omega)⟩
   have lo:=NO o (List.mem_of_getElem? ho)
   have ho':outs[i+k]? = some o:=by rw[←ES (i+k) (Nat.le_refl _)];exact ho
   have f1:bF 1 (iB ys) (VI k) [.row 0 (os.map tV) 1 true]=some (.cP (tV y) 0):=aG (f:=tV) (t := .op) (size:=1) (k := .i64) hy rfl
   have w1:IntKind.i64.wrap ((i:Int)+(k:Int))=((i+k:Nat):Int):=wrapN _ (by omega) (by omega)
   have f2:bF 1 (.ref 0 0 0 N N) (VI ((i+k:Nat):Int)) [.row 0 (os.map tV) 1 true]=some (.ptr 0 0 (i+k) 0):=adT (by omega)
   have f3:cU false 1 (.ptr 0 0 (i+k) 0) [.row 0 (os.map tV) 1 true]=some (VI (o:Int)):=KD IN ho
   have f4:∀s:Nat,cD 0 1 (.ptr 0 0 (i+k) 0) (VI (s:Int)) [.row 0 (os.map tV) 1 true]=some [.row 0 ((os.set (i+k) s).map tV) 1 true]:=fun s=>M6 (by omega)
   have Aj:x*y≤999999999*999999999:=Nat.mul_le_mul (by omega) (by omega)
   have w5:IntKind.i64.wrap ((x:Int)*(y:Int))=((x*y:Nat):Int):=wrapN _ (by simp) (by omega)
   have w6:IntKind.i64.wrap ((o:Int)+((x*y:Nat):Int))=((o+x*y:Nat):Int):=wrapN _ (by omega) (by omega)
   have w7:IntKind.i64.wrap (((o+x*y:Nat):Int)+(c:Int))=((o+x*y+c:Nat):Int):=wrapN _ (by omega) (by omega)
   have wk:IntKind.i64.wrap ((k:Int)+1)=((k+1:Nat):Int):=wrapN (k+1) (by omega) (by omega)
   have r1:=Lj (o+x*y+c)
   have q1:=Mz (o+x*y+c) (by omega)
   simp only[rR,k0,k1,k5,k6,k7,EI,QP,k22,k23,hkn,e1,f1,f2,f3,f4,w1,w5,w6,w7,wk,r1,q1,VX,Nat.reduceEqDiff,Nat.reduceAdd]
   have hq:(o+x*y+c) / 1000000000<1000000000:=Nat.div_lt_of_lt_mul (by omega)
   refine⟨(k+1,os.set (i+k) ((o+x*y+c) % 1000000000),(o+x*y+c) / 1000000000),by simp only;omega,by omega,rfl,by rw[List.length_set];exact Nx,lO NO (Nat.mod_lt _ (by decide)),hq,?_,fun j hj => ?_,by (repeat' apply And.intro)<;>first | rfl | trivial⟩
   ·have h1:=Nat.mod_add_div (o+x*y+c) 1000000000
    rw[show o+x*y+c=c+(x*y+o) by omega] at h1 ⊢
    rw[←Nat.add_assoc,dP (by omega),aT ho',aT hy,Nat.pow_succ]
    rw[Nat.pow_add] at KR ⊢
    exact PV KR h1
   ·rw[List.getElem?_set_ne (by omega)]
    exact ES j (by omega)
  ·have hke:k=ys.length:=by omega
   subst hke
   rw[List.take_length,vb,hv] at KR
   have w1:IntKind.i64.wrap ((i:Int)+(ys.length:Int))=((i+ys.length:Nat):Int):=wrapN _ (by omega) (by omega)
   have DN:os[i+ys.length]? = some 0:=by rw[ES _ (Nat.le_refl _)];exact hzr _ (Nat.le_refl _) (by omega)
   have f2:bF 1 (.ref 0 0 0 N N) (VI ((i+ys.length:Nat):Int)) [.row 0 (os.map tV) 1 true]=some (.ptr 0 0 (i+ys.length) 0):=adT (by omega)
   have f3:cU false 1 (.ptr 0 0 (i+ys.length) 0) [.row 0 (os.map tV) 1 true]=some (VI ((0:Nat):Int)):=KD IN DN
   have f4:∀s:Nat,cD 0 1 (.ptr 0 0 (i+ys.length) 0) (VI (s:Int)) [.row 0 (os.map tV) 1 true]=some [.row 0 ((os.set (i+ys.length) s).map tV) 1 true]:=fun s=>M6 (by omega)
   have w2:IntKind.i64.wrap (((0:Nat):Int)+(c:Int))=(c:Int):=wrapN _ (by omega) (by omega)
   simp only[rR,k0,k1,k5,k6,k7,EI,QP,k22,k23,hkn,dM,f2,f3,f4,w1,w2,wi,VX,Nat.reduceEqDiff,Nat.reduceAdd]
   refine⟨(i+1,os.set (i+ys.length) c),by simp only;omega,by omega,rfl,by rw[List.length_set];exact Nx,lO NO hc,?_,fun j hj VY => ?_,by (repeat' apply And.intro)<;>first | rfl | trivial⟩
   ·rw[show i+1+ys.length=i+ys.length+1 by omega,dP (by omega),KR,aT hx,Nat.add_mul,Nat.mul_assoc]
   ·rw[List.getElem?_set_ne (by omega),ES j (by omega)]
    exact hzr j (by omega) VY
 ·have pD:i=xs.length:=by omega
  subst pD
  rw[hN,List.take_length,va,List.take_of_length_le (by omega)] at hv
  simp only[rW,g0,g1,g5,g17,g18,cB,VX,Nat.reduceEqDiff,Nat.reduceAdd]
  refine Gn (m:=a*b) lB fU.symm (by omega) hv ?_
  simp only[VX,Nat.reduceEqDiff,Nat.reduceAdd]
  exact Ql _
theorem BF (a:Nat) (ha:(aD 1000000000 a).length≤17592186044416):TC 236 [bT a] (if (aD 1000000000 a).length≤2 then .eG [VI a,VB true] else .eG [VI 0,VB false]):=by
 refine TC.walk ⟨true,false⟩ IC rfl (Nat.le_of_ble_eq_true rfl) (by simp[aN,cA]) (by split<;>rfl) ?_
 by_cases h2:(aD 1000000000 a).length≤2
 ·rw[if_pos h2]
  have h3:¬(2:Int)<((aD 1000000000 a).length:Int):=by omega
  have c0:TC 225 [bT a,VI 0] (VI ((a % 1000000000:Nat):Int)):=by have:=Cj a 0;rwa [Nat.pow_zero,Nat.div_one] at this
  have c1:TC 225 [bT a,VI 1] (VI ((a / 1000000000 % 1000000000:Nat):Int)):=by have:=Cj a 1;rwa [Nat.pow_one] at this
  have aX:=jN (b:=1000000000) (by decide) a
  have hp:1000000000^(aD 1000000000 a).length≤1000000000^2:=Nat.pow_le_pow_right (by decide) h2
  have hm:a / 1000000000<1000000000:=Nat.div_lt_of_lt_mul (by omega)
  rw[Nat.mod_eq_of_lt hm] at c1
  have hmd:=Nat.mod_add_div a 1000000000
  have w1:IntKind.i64.wrap (1000000000*((a / 1000000000:Nat):Int))=((1000000000*(a / 1000000000):Nat):Int):=wrapN _ (by omega) (by omega)
  have w2:IntKind.i64.wrap (((a % 1000000000:Nat):Int)+((1000000000*(a / 1000000000):Nat):Int))=(a:Int):=wrapN _ (by omega) (by omega)
  simp only[zZ,vL,cQ,h3,c0,c1,w1,w2,VX,Nat.reduceEqDiff,Nat.reduceAdd]
  exact aJ rfl
 ·rw[if_neg h2]
  have h3:(2:Int)<((aD 1000000000 a).length:Int):=by omega
  simp only[zZ,vL,cQ,h3,VX,Nat.reduceEqDiff,Nat.reduceAdd]
  exact aJ rfl
theorem Xm {outs:List Nat} {n cap x:Nat} (hn:n=outs.length) (hc:n<cap):eJ 0 1 8 (.ref 0 0 0 n cap) [VI (x:Int)] [.row 0 ((outs++List.replicate (cap-n) 0).map tV) 1 true]=some (.ref 0 0 0 (n+1) cap,[.row 0 (((outs++[x])++List.replicate (cap-(n+1)) 0).map tV) 1 true]):=by
 subst hn
 simp only[eJ,aR,List.length_map,List.length_append,List.length_replicate,List.length_cons,List.length_nil,Nat.zero_add]
 rw[if_pos ⟨by decide,by decide⟩,if_pos ⟨trivial,Nat.le_refl _,by omega⟩,if_pos (by omega),if_neg (by omega),if_pos (by omega)]
 congr 3
 have e:List.replicate (cap-outs.length) 0=(0:Nat)::List.replicate (cap-(outs.length+1)) 0:=by
  rw[show cap-outs.length=(cap-(outs.length+1))+1 by omega,List.replicate_succ]
 simp only[cR,List.set_cons_zero,e,List.map_append,List.map_cons,List.length_cons,List.length_nil,List.map_nil]
 congr 1
 rw[List.take_left' (by simp),←List.drop_drop,List.drop_left' (by simp)]
 simp
theorem yJ (a d:Nat) (CP:0<d) (hd:d<1000000000) (ha:(aD 1000000000 a).length<17592186044416):TC 238 [bT a,VI (d:Int)] (bT (a*d)):=by
 refine TC.walk ⟨true,false⟩ Ey rfl (Nat.le_of_ble_eq_true rfl) (by simp[aN,cA];rfl) (mW _) ?_
 have w0:IntKind.i64.wrap (((aD 1000000000 a).length:Int)+1)=(((aD 1000000000 a).length+1:Nat):Int):=wrapN _ (by omega) (by omega)
 have mk:yP [.int .i64 0] 8 (VI 0) (VI (((aD 1000000000 a).length+1:Nat):Int)) []=some (.ref 0 0 0 0 ((aD 1000000000 a).length+1),[.row 0 ((([]:List Nat)++List.replicate ((aD 1000000000 a).length+1-0) 0).map tV) 1 true]):=by
  simp only[yP]
  rw[if_pos ⟨by omega,by omega,by omega,by omega⟩]
  simp
  rfl
 simp only[AH,yN,cQ,w0,mk,VX,Nat.reduceEqDiff,Nat.reduceAdd]
 refine aW (fun(s:Nat×List Nat×Nat) ρ H=>s.1=s.2.1.length∧s.1≤(aD 1000000000 a).length∧H=[.row 0 ((s.2.1++List.replicate ((aD 1000000000 a).length+1-s.1) 0).map tV) 1 true]∧s.2.2<d∧aD 1000000000 (a*d)=s.2.1++aD 1000000000 (a / 1000000000^s.1*d+s.2.2) ∧
  ρ 1=VI d∧ρ 5 = .ref 0 0 0 s.1 ((aD 1000000000 a).length+1)∧ρ 6=VI s.2.2∧ρ 14=bT a∧ρ 15=VI (aD 1000000000 a).length∧ρ 16=VI s.1) (fun s=>(aD 1000000000 a).length-s.1) (0,[],0) ⟨rfl,Nat.zero_le _,rfl,CP,by simp,rfl,rfl,rfl,rfl,rfl,rfl⟩ ?_
 rintro⟨i,outs,c⟩ ρ H ⟨hi,IK,rfl,hc,hv,g1,g5,g6,g14,g15,g16⟩
 simp only at hi IK hc hv g5 g6 g16
 by_cases cB:(i:Int)<((aD 1000000000 a).length:Int)
 ·have hx:=P3 (b:=1000000000) (by decide) (n:=a) (i:=i) (by omega)
  have hA:=(IX (b:=1000000000) (by decide) (n:=a) (i:=i)).1 (by omega)
  have e1:∀H,bF 1 (bT a) (VI i) H=some (.cP (tV (a / 1000000000^i % 1000000000)) 0):=fun H=>aG (f:=tV) (t := .op) (size:=1) (k := .i64) hx rfl
  have lx:=Nat.mod_lt (a / 1000000000^i) (show 0<1000000000 by decide)
  have fQ:a / 1000000000^i*d+c≠0:=by
   have:=Nat.mul_ne_zero hA (show d≠0 by omega)
   omega
  rw[VA (by decide) fQ,←Bg] at hv
  generalize a / 1000000000^i % 1000000000=x at *
  have hxd:x*d≤999999999*999999999:=Nat.mul_le_mul (by omega) (by omega)
  have w1:IntKind.i64.wrap ((x:Int)*(d:Int))=((x*d:Nat):Int):=wrapN _ (by simp) (by omega)
  have w2:IntKind.i64.wrap (((x*d:Nat):Int)+(c:Int))=((x*d+c:Nat):Int):=wrapN _ (by omega) (by omega)
  have wi:IntKind.i64.wrap ((i:Int)+1)=((i+1:Nat):Int):=wrapN (i+1) (by omega) (by omega)
  have r1:=Lj (x*d+c)
  have q1:=Mz (x*d+c) (by omega)
  have a1:=Xm (outs:=outs) (n:=i) (cap:=(aD 1000000000 a).length+1) (x:=(x*d+c) % 1000000000) hi (by omega)
  have hq:(x*d+c) / 1000000000<d:=by
   rw[Nat.div_lt_iff_lt_mul (by decide)]
   have h1:x*d≤999999999*d:=Nat.mul_le_mul_right _ (by omega)
   omega
  simp only[lC,g1,g5,g6,g14,g15,g16,cB,e1,w1,w2,wi,r1,q1,sE,uS,a1,VX,Nat.reduceEqDiff,Nat.reduceAdd]
  refine⟨(i+1,outs++[(x*d+c) % 1000000000],(x*d+c) / 1000000000),by simp only;omega,by simp;omega,by simp only;omega,rfl,hq,by rw[hv,List.append_assoc];rfl,?_⟩
  try (repeat' apply And.intro)<;>first | rfl | trivial
 ·have pD:i=(aD 1000000000 a).length:=by omega
  have hz:a / 1000000000^i=0:=by
   have:=mt (IX (b:=1000000000) (by decide) (n:=a) (i:=i)).2
   omega
  rw[hz,Nat.zero_mul,Nat.zero_add] at hv
  by_cases hcp:(0:Int)<(c:Int)
  ·rw[Cl (b:=1000000000) (by decide) (show c≠0 by omega) (show c<1000000000 by omega)] at hv
   have a1:=Xm (outs:=outs) (n:=i) (cap:=(aD 1000000000 a).length+1) (x:=c) hi (by omega)
   simp only[lC,g1,g5,g6,g14,g15,g16,cB,hcp,sE,uS,a1,VX,Nat.reduceEqDiff,Nat.reduceAdd]
   rw[bT,hv]
   rw[Nu aR (by simp;omega) (by omega) (dZ fun _=>rfl)]
   rw[List.map_append,List.take_left' (by simp;omega)]
  ·have hc0:c=0:=by omega
   rw[hc0,bZ,List.append_nil] at hv
   simp only[lC,g1,g5,g6,g14,g15,g16,cB,hcp,VX,Nat.reduceEqDiff,Nat.reduceAdd]
   rw[bT,hv]
   rw[Nu aR (by simp;omega) (by omega) (dZ fun _=>rfl)]
   rw[List.map_append,List.take_left' (by simp;omega)]
theorem IQ (a b:Nat) (ha:a≤9223372036854775807) (hb:0<b):fB .quo (.int .i64 (a:Int)) (.int .i64 (b:Int))=some (.int .i64 ((a / b:Nat):Int)):=by
 have h1:¬((b:Int)=0):=by omega
 have h2:(a:Int).tdiv (b:Int)=((a / b:Nat):Int):=by rw[Int.tdiv_eq_ediv_of_nonneg (by omega)];simp
 have h3:a / b≤a:=Nat.div_le_self _ _
 simp only[fB,if_true,h1,if_false,h2]
 generalize a / b=q at *
 rw[wrap64 (by omega) (by omega)]
theorem Kz (a b:Nat) (hb:0<b):fB .rem (.int .i64 (a:Int)) (.int .i64 (b:Int))=some (.int .i64 ((a % b:Nat):Int)):=by
 have h1:¬((b:Int)=0):=by omega
 have h2:(a:Int).tmod (b:Int)=((a % b:Nat):Int):=by rw[Int.tmod_eq_emod_of_nonneg (by omega)];simp
 simp only[fB,if_true,h1,if_false,h2]
theorem Wt {r d x:Nat} (hr:r<d) (hd:d<1000000000) (hx:x<1000000000):r*1000000000+x≤9223372036854775807:=by omega
theorem aeL {r d x:Nat} (CP:0<d) (hr:r<d) (hx:x<1000000000):(r*1000000000+x) / d<1000000000:=by
 rw[Nat.div_lt_iff_lt_mul CP]
 omega
theorem xE (a d:Nat) (CP:0<d) (hdT:d<1000000000) (ha:(aD 1000000000 a).length≤17592186044416):TC 237 [bT a,VI (d:Int)] (.eG [bT (a / d),VI ((a % d:Nat):Int)]):=by
 refine TC.walk ⟨true,false⟩ EF rfl (Nat.le_of_ble_eq_true rfl) (by simp[aN,cA];rfl) (by simp[gK,pB,mW,nJ]) ?_
 have va:=bX (b:=1000000000) (by decide) a
 have la:=fC (b:=1000000000) (by decide) a
 unfold bT
 generalize aD 1000000000 a=xs at *
 have w0:IntKind.i64.wrap ((xs.length:Int)-1)=(xs.length:Int)-1:=wrap64 (by omega) (by omega)
 simp only[Ap,xA,dM,w0,Ni xs.length (by omega),VX,Nat.reduceEqDiff,Nat.reduceAdd]
 refine aW (fun(s:Nat×List Nat×Nat) ρ H=>s.1≤xs.length∧H=[.row 0 (s.2.1.map tV) 1 true]∧s.2.1.length=xs.length∧(∀d∈s.2.1,d<1000000000)∧s.2.2<d∧val 1000000000 (s.2.1.drop s.1)*d+s.2.2=val 1000000000 (xs.drop s.1) ∧
  ρ 0=iB xs∧ρ 1=VI d∧ρ 6 = .ref 0 0 0 xs.length xs.length∧ρ 7=VI s.2.2∧ρ 8=VI ((s.1:Int)-1)) (fun s=>s.1) (xs.length,List.replicate xs.length 0,0) ⟨Nat.le_refl _,rfl,by simp,Ai (by decide) _,CP,by simp[val,List.drop_replicate],rfl,rfl,rfl,rfl,rfl⟩ ?_
 rintro⟨j,outs,r⟩ ρ H ⟨hj,rfl,fU,lB,hr,hv,g0,g1,g6,g7,g8⟩
 simp only at hj fU lB hr hv g7 g8
 by_cases hz:(0:Int)≤(j:Int)-1
 ·obtain⟨i,rfl⟩:∃i,j=i+1:=⟨j-1,by omega⟩
  obtain⟨x,hx⟩:∃x,xs[i]? = some x:=⟨_,List.getElem?_eq_getElem (by omega)⟩
  have lx:=la x (List.mem_of_getElem? hx)
  have J6:((i+1:Nat):Int)-1=(i:Int):=by omega
  rw[J6] at g8 hz
  have e1:=aG (f:=tV) (t := .op) (H:=[.row 0 (outs.map tV) 1 true]) (size:=1) (k := .i64) hx rfl
  have e3:bF 1 (.ref 0 0 0 xs.length xs.length) (VI i) [.row 0 (outs.map tV) 1 true]=some (.ptr 0 0 i 0):=adT (by omega)
  have e4:∀s:Nat,cD 0 1 (.ptr 0 0 i 0) (VI (s:Int)) [.row 0 (outs.map tV) 1 true]=some [.row 0 ((outs.set i s).map tV) 1 true]:=fun s=>M6 (by omega)
  have w2:IntKind.i64.wrap ((i:Int)-1)=(i:Int)-1:=wrap64 (by omega) (by omega)
  have w4:IntKind.i64.wrap ((r:Int)*1000000000)=((r*1000000000:Nat):Int):=wrapN _ (by omega) (by omega)
  have w5:IntKind.i64.wrap (((r*1000000000:Nat):Int)+(x:Int))=((r*1000000000+x:Nat):Int):=wrapN _ (by omega) (by omega)
  have DB:r*1000000000+x≤9223372036854775807:=Wt hr hdT lx
  have q1:=IQ (r*1000000000+x) d DB CP
  have q2:=Kz (r*1000000000+x) d CP
  have hq:(r*1000000000+x) / d<1000000000:=aeL CP hr lx
  simp only[pY,g0,g1,g6,g7,g8,hz,e1,e3,e4,w2,w4,w5,q1,q2,VX,Nat.reduceEqDiff,Nat.reduceAdd]
  refine⟨(i,outs.set i ((r*1000000000+x) / d),(r*1000000000+x) % d),by simp only;omega,by omega,rfl,by rw[List.length_set];exact fU,lO lB hq,Nat.mod_lt _ CP,?_,by (repeat' apply And.intro)<;>first | rfl | trivial⟩
  have h1:=Nat.mod_add_div (r*1000000000+x) d
  rw[set_drop (by omega),sC,sO hx,←hv]
  exact OB h1
 ·have UN:j=0:=by omega
  subst UN
  rw[List.drop_zero,List.drop_zero,va] at hv
  have h1:a / d=val 1000000000 outs:=by
   rw[←hv,Nat.mul_comm,Nat.mul_add_div CP,Nat.div_eq_of_lt hr,Nat.add_zero]
  have h2:a % d=r:=by
   rw[←hv,Nat.mul_comm,Nat.mul_add_mod,Nat.mod_eq_of_lt hr]
  simp only[pY,g0,g1,g6,g7,g8,hz,VX,Nat.reduceEqDiff,Nat.reduceAdd]
  refine Gn (m:=a / d) lB fU.symm (by omega) h1.symm ?_
  simp only[g7,VX,Nat.reduceEqDiff,Nat.reduceAdd]
  rw[h2]
  exact aJ (by simp[aP,aN,xF,bT,nJ])
end Go.PM
namespace Go.PM
theorem M7 {H:aA} {b b' g:Nat} {x:eR} (h:b≠b'):aK (H.set b x) b' g=aK H b' g:=by
 unfold aK
 rw[List.getElem?_set_ne h]
theorem zY {H:aA} {b g e:Nat} {es mU:List VV} {w w':Bool} (h:aK H b g=some (es,e,w)):aK (H.set b (.row g mU e w')) b g=some (mU,e,w'):=by
 have aX:b<H.length:=by
  unfold aK at h
  split at h
  ·rename_i hb
   exact(List.getElem?_eq_some_iff.1 hb).1
  ·cases h
 unfold aK
 rw[List.getElem?_set_self aX]
 simp
theorem rM {H:aA} {b:Nat} {x y:eR}:(H.set b x).set b y=H.set b y:=by rw[List.set_set]
theorem Bn {H:aA} {b g e:Nat} {es:List VV} {w:Bool} (h:aK H b g=some (es,e,w)):H.set b (.row g es e w)=H:=by
 apply List.ext_getElem?
 intro i
 by_cases hi:b=i
 ·subst hi
  unfold aK at h
  split at h
  ·rename_i hb
   split at h
   ·rename_i hg
    cases h
    rw[List.getElem?_set_self (List.getElem?_eq_some_iff.1 hb).1,hb,hg]
   ·cases h
  ·cases h
 ·rw[List.getElem?_set_ne hi]
theorem WL {H:aA} {b g o i lo d:Nat} {pre iF post:List Nat} (hr:aK H b g=some ((pre++iF++post).map uV,1,true)) (ho:pre.length=o) (hi:i<iF.length) (iD:lo≤b) :
  cD lo 1 (.ptr b g (o+i) 0) (uV d) H=some (H.set b (.row g ((pre++iF.set i d++post).map uV) 1 true)):=by
 rw[gU (f:=uV) (e:=1) hr (by simp only[List.length_append];omega) iD rfl rfl,SA ho hi]
theorem RJ {H:aA} {lo b g o L c b2 g2 n2 c2 t:Nat} {pre iF post vs Ln:List Nat} {w2:Bool} (hr:aK H b g=some ((pre++iF++post).map uV,1,true)) (hr2:aK H b2 g2=some (Ln.map uV,1,w2)) (hb:b≠b2) (iD:lo≤b)
  (ho:pre.length=o) (hL:iF.length=L) (asN:L≤70368744177664) (N4:Ln.take n2=vs) (ZM:n2≤Ln.length) (hle:n2≤L) (T8:∀d∈iF,d<4294967296) (Fc:∀d∈vs,d<4294967296) (ht:t<4294967296) (wT:t*val 4294967296 vs≤val 4294967296 iF+val 4294967296 vs) :
  qD 221 [.ref b g o L c,.ref b2 g2 0 n2 c2,VK .u64 t] lo H fun r H'=>∃rH:List Nat,H'=H.set b (.row g ((pre++rH++post).map uV) 1 true)∧rH.length=L∧(∀d∈rH,d<4294967296) ∧
   ((r=VB false∧val 4294967296 rH+t*val 4294967296 vs=val 4294967296 iF)∨(r=VB true∧val 4294967296 iF<t*val 4294967296 vs∧val 4294967296 rH+t*val 4294967296 vs=val 4294967296 iF+val 4294967296 vs)):=by
 refine qD.walk ⟨true,false⟩ Ih (Nat.le_of_ble_eq_true rfl) ?_
 have DR:vs.length=n2:=by rw[←N4,List.length_take];omega
 have yU:∀i,i<n2→Ln[i]? = vs[i]? := fun i hi=>by rw[←N4,List.getElem?_take_of_lt hi]
 have Nx:=oE T8
 have KR:=oE Fc
 rw[hL] at Nx
 rw[DR] at KR
 have hVL:val 4294967296 vs≤4294967296^L:=Nat.le_trans (Nat.le_of_lt KR) (Nat.pow_le_pow_right (by decide) hle)
 have e0:∀ {K:aA} {es:List VV},aK K b g=some (es,1,true)→pX (.ref b g o L c) K=some (VI L):=fun h=>eV h
 have e00:∀ {K:aA},aK K b2 g2=some (Ln.map uV,1,w2)→pX (.ref b2 g2 0 n2 c2) K=some (VI n2):=fun h=>eV h
 have rd:∀(s:List Nat),s.length=L→aK (H.set b (.row g ((pre++s++post).map uV) 1 true)) b g=some ((pre++s++post).map uV,1,true):=fun s _=>zY hr
 have rd2:∀(s:List Nat),aK (H.set b (.row g ((pre++s++post).map uV) 1 true)) b2 g2=some (Ln.map uV,1,w2):=fun s=>by rw[M7 hb];exact hr2
 have wi:∀i:Nat,i<L→IntKind.i64.wrap ((i:Int)+1)=((i+1:Nat):Int):=fun i hi=>wrapN (i+1) (by omega) (by omega)
 have back:∀(ρ:cG) (s:List Nat),s.length=L→(∀d∈s,d<4294967296)→(∀s2:List Nat,s2.length=L→(∀d∈s2,d<4294967296)→∀c,val 4294967296 s+val 4294967296 vs=val 4294967296 s2+4294967296^L*c→val 4294967296 s2+t*val 4294967296 vs=val 4294967296 iF+val 4294967296 vs)→val 4294967296 iF<t*val 4294967296 vs→ρ 0 = .ref b g o L c→ρ 1 = .ref b2 g2 0 n2 c2→ρ 7=VK .u64 0→ρ 58=VI L→ρ 59=VI 0 →
   VW ⟨true,false⟩ lo (.loop lS) (pP 2 (mY (VW ⟨true,false⟩ lo (.seq (.eT [⟨(some 6),(.mv (.const (.bool true))),none,false,[]⟩]) .ret) (AY [.tmp 6] fun r H'=>∃rH:List Nat,H'=H.set b (.row g ((pre++rH++post).map uV) 1 true)∧rH.length=L∧(∀d∈rH,d<4294967296)∧((r=VB false∧val 4294967296 rH+t*val 4294967296 vs=val 4294967296 iF)∨(r=VB true∧val 4294967296 iF<t*val 4294967296 vs∧val 4294967296 rH+t*val 4294967296 vs=val 4294967296 iF+val 4294967296 vs)))) (AY [.tmp 6] fun r H'=>∃rH:List Nat,H'=H.set b (.row g ((pre++rH++post).map uV) 1 true)∧rH.length=L∧(∀d∈rH,d<4294967296)∧((r=VB false∧val 4294967296 rH+t*val 4294967296 vs=val 4294967296 iF)∨(r=VB true∧val 4294967296 iF<t*val 4294967296 vs∧val 4294967296 rH+t*val 4294967296 vs=val 4294967296 iF+val 4294967296 vs))))) ρ (H.set b (.row g ((pre++s++post).map uV) 1 true)):=by
  intro ρ s hs NO aaK abA g0 g1 g7 g58 g59
  refine aW (fun(u:Nat×List Nat×Nat) ρ K=>u.1≤L∧K=H.set b (.row g ((pre++u.2.1++post).map uV) 1 true)∧u.2.1.length=L∧(∀d∈u.2.1,d<4294967296)∧u.2.2≤1∧val 4294967296 (s.take u.1)+val 4294967296 (vs.take u.1)=val 4294967296 (u.2.1.take u.1)+4294967296^u.1*u.2.2∧(∀j,u.1≤j→u.2.1[j]? = s[j]?) ∧
   ρ 0 = .ref b g o L c∧ρ 1 = .ref b2 g2 0 n2 c2∧ρ 7=VK .u64 u.2.2∧ρ 58=VI L∧ρ 59=VI u.1) (fun u=>L-u.1) (0,s,0) ⟨Nat.zero_le _,rfl,hs,NO,by simp,by simp[val],fun _ _=>rfl,g0,g1,g7,g58,g59⟩ ?_
  rintro⟨i,outs,cy⟩ pM K ⟨hi,rfl,fU,lB,hc,hv,ES,k0,k1,k7,k58,k59⟩
  simp only at hi fU lB hc hv ES k7 k59
  by_cases cB:(i:Int)<(L:Int)
  ·obtain⟨x,hx⟩:∃x,outs[i]? = some x:=⟨_,List.getElem?_eq_getElem (by omega)⟩
   have lx:=lB x (List.mem_of_getElem? hx)
   have Gk:s[i]? = some x:=by rw[←ES i (Nat.le_refl _)];exact hx
   have e1:bF 1 (.ref b g o L c) (VI i) (H.set b (.row g ((pre++outs++post).map uV) 1 true))=some (.ptr b g (o+i) 0):=aV (rd outs fU) (by omega)
   have e2:cU false 1 (.ptr b g (o+i) 0) (H.set b (.row g ((pre++outs++post).map uV) 1 true))=some (uV x):=iM (rd outs fU) (by rw[MO ho (by omega)];exact hx)
   have e3:∀d:Nat,cD lo 1 (.ptr b g (o+i) 0) (uV d) (H.set b (.row g ((pre++outs++post).map uV) 1 true))=some (H.set b (.row g ((pre++outs.set i d++post).map uV) 1 true)):=fun d=>by
    rw[WL (rd outs fU) ho (by omega) iD,rM]
   have e4:=e00 (rd2 outs)
   have w1:IntKind.u64.wrap (x:Int)=(x:Int):=fN _ (by omega)
   have w2:IntKind.u64.wrap ((cy:Int)+(x:Int))=((cy+x:Nat):Int):=by rw[←Int.natCast_add];exact fN _ (by omega)
   have wii:=wi i (by omega)
   have step:∀y,y<4294967296→(∀d,vs[i]? = some d→d=y)→(vs.length≤i→y=0) →
     (i+1≤L∧(outs.set i ((cy+x+y) % 4294967296)).length=L∧(∀d∈outs.set i ((cy+x+y) % 4294967296),d<4294967296)∧(cy+x+y) / 4294967296≤1∧val 4294967296 (s.take (i+1))+val 4294967296 (vs.take (i+1))=val 4294967296 ((outs.set i ((cy+x+y) % 4294967296)).take (i+1))+4294967296^(i+1)*((cy+x+y) / 4294967296))∧∀j,i+1≤j→(outs.set i ((cy+x+y) % 4294967296))[j]? = s[j]? := by
    intro y hy h1 h2
    refine⟨⟨by omega,by rw[List.length_set];exact fU,lO lB (Nat.mod_lt _ (by decide)),by omega,?_⟩,fun j hj=>by rw[List.getElem?_set_ne (by omega)];exact ES j (by omega)⟩
    have hy':val 4294967296 (vs.take (i+1))=val 4294967296 (vs.take i)+4294967296^i*y:=by
     cases Ro:vs[i]? with
     | some d=>rw[aT Ro,h1 d Ro]
     |
      none =>
      have hle:=List.getElem?_eq_none_iff.1 Ro
      rw[h2 hle,jL hle,jL (by omega),Nat.mul_zero,Nat.add_zero]
    rw[aT Gk,hy',dP (by omega),Nat.pow_succ]
    exact El hv rfl (Nat.mod_add_div _ _)
   by_cases aX:(i:Int)<(n2:Int)
   ·obtain⟨y,hy⟩:∃y,vs[i]? = some y:=⟨_,List.getElem?_eq_getElem (by omega)⟩
    have ly:=Fc y (List.mem_of_getElem? hy)
    have f1:bF 1 (.ref b2 g2 0 n2 c2) (VI i) (H.set b (.row g ((pre++outs++post).map uV) 1 true))=some (.ptr b2 g2 i 0):=by rw[aV (rd2 outs) (by omega),Nat.zero_add]
    have f2:cU false 1 (.ptr b2 g2 i 0) (H.set b (.row g ((pre++outs++post).map uV) 1 true))=some (uV y):=iM (rd2 outs) (by rw[yU i (by omega)];exact hy)
    have w3:IntKind.u64.wrap (y:Int)=(y:Int):=fN _ (by omega)
    have w4:IntKind.u64.wrap (((cy+x:Nat):Int)+(y:Int))=((cy+x+y:Nat):Int):=by rw[←Int.natCast_add];exact fN _ (by omega)
    obtain⟨⟨s1,s2,s3,s4,s5⟩,s6⟩:=step y ly (fun d hd=>by rw[hy] at hd;injection hd with hd;exact hd.symm) (fun h=>by omega)
    simp only[lS,k0,k1,k7,k58,k59,cB,aX,e1,e2,e3,e4,f1,f2,w1,w2,w3,w4,wii,wrap32,sK,VX,Nat.reduceEqDiff,Nat.reduceAdd]
    exact⟨(i+1,outs.set i ((cy+x+y) % 4294967296),(cy+x+y) / 4294967296),by simp only;omega,s1,rfl,s2,s3,s4,s5,s6,by (repeat' apply And.intro)<;>first | rfl | trivial⟩
   ·obtain⟨⟨s1,s2,s3,s4,s5⟩,s6⟩:=step 0 (by decide) (fun d hd=>by have:=(List.getElem?_eq_some_iff.1 hd).1;omega) (fun _=>rfl)
    simp only[Nat.add_zero] at s2 s3 s4 s5 s6
    simp only[lS,k0,k1,k7,k58,k59,cB,aX,e1,e2,e3,e4,w1,w2,wii,wrap32,sK,VX,Nat.reduceEqDiff,Nat.reduceAdd]
    exact⟨(i+1,outs.set i ((cy+x) % 4294967296),(cy+x) / 4294967296),by simp only;omega,s1,rfl,s2,s3,s4,s5,s6,by (repeat' apply And.intro)<;>first | rfl | trivial⟩
  ·have pD:i=L:=by omega
   subst pD
   rw[List.take_of_length_le (by omega),List.take_of_length_le (by omega),List.take_of_length_le (by omega)] at hv
   simp only[lS,k0,k1,k7,k58,k59,cB,VX,Nat.reduceEqDiff,Nat.reduceAdd]
   exact⟨outs,rfl,fU,lB,.inr ⟨abA,aaK outs fU lB cy hv⟩⟩
 simp only[D6,BN,e0 hr,VX,Nat.reduceEqDiff,Nat.reduceAdd]
 refine aW (fun(u:Nat×List Nat×Nat×Nat) ρ K=>u.1≤L∧K=H.set b (.row g ((pre++u.2.1++post).map uV) 1 true)∧u.2.1.length=L∧(∀d∈u.2.1,d<4294967296)∧u.2.2.1<4294967296∧u.2.2.2≤1∧val 4294967296 (iF.take u.1)+4294967296^u.1*(u.2.2.1+u.2.2.2)=val 4294967296 (u.2.1.take u.1)+t*val 4294967296 (vs.take u.1)∧(∀j,u.1≤j→u.2.1[j]? = iF[j]?) ∧
  ρ 0 = .ref b g o L c∧ρ 1 = .ref b2 g2 0 n2 c2∧ρ 2=VK .u64 t∧ρ 7=VK .u64 u.2.2.1∧ρ 8=VI u.2.2.2∧ρ 13=VI L∧ρ 14=VI u.1) (fun u=>L-u.1) (0,iF,0,0) ⟨Nat.zero_le _,(Bn hr).symm,hL,T8,by simp,by simp,by simp[val],fun _ _=>rfl,by (repeat' apply And.intro)<;>first | rfl | trivial⟩ ?_
 rintro⟨i,outs,cy,l⟩ ρ K ⟨hi,rfl,fU,lB,hc,Dd,hv,ES,k0,k1,k2,k7,k8,zK,AM⟩
 simp only at hi fU lB hc Dd hv ES k7 k8 AM
 by_cases cB:(i:Int)<(L:Int)
 ·obtain⟨x,hx⟩:∃x,outs[i]? = some x:=⟨_,List.getElem?_eq_getElem (by omega)⟩
  have lx:=lB x (List.mem_of_getElem? hx)
  have Gk:iF[i]? = some x:=by rw[←ES i (Nat.le_refl _)];exact hx
  have e1:bF 1 (.ref b g o L c) (VI i) (H.set b (.row g ((pre++outs++post).map uV) 1 true))=some (.ptr b g (o+i) 0):=aV (rd outs fU) (by omega)
  have e2:cU false 1 (.ptr b g (o+i) 0) (H.set b (.row g ((pre++outs++post).map uV) 1 true))=some (uV x):=iM (rd outs fU) (by rw[MO ho (by omega)];exact hx)
  have e3:∀d:Nat,cD lo 1 (.ptr b g (o+i) 0) (uV d) (H.set b (.row g ((pre++outs++post).map uV) 1 true))=some (H.set b (.row g ((pre++outs.set i d++post).map uV) 1 true)):=fun d=>by
   rw[WL (rd outs fU) ho (by omega) iD,rM]
  have e4:=e00 (rd2 outs)
  have wii:=wi i (by omega)
  have w1:IntKind.i64.wrap (x:Int)=(x:Int):=wrapN x rfl (by omega)
  have step:∀y c1,y<4294967296→c1=cy+t*y→(∀d,vs[i]? = some d→d=y)→(vs.length≤i→y=0) →
    c1 / 4294967296<4294967296∧IntKind.i64.wrap ((x:Int)-((c1 % 4294967296:Nat):Int)-(l:Int))=(x:Int)-((c1 % 4294967296:Nat):Int)-(l:Int)∧IntKind.i64.wrap ((x:Int)-((c1 % 4294967296:Nat):Int))=(x:Int)-((c1 % 4294967296:Nat):Int) ∧
    ∃r l',l'≤1∧((x:Int)-((c1 % 4294967296:Nat):Int)-(l:Int)<0↔l'=1)∧IntKind.u32.wrap ((x:Int)-((c1 % 4294967296:Nat):Int)-(l:Int))=((r:Nat):Int) ∧
    (i+1≤L∧(outs.set i r).length=L∧(∀d∈outs.set i r,d<4294967296)∧c1 / 4294967296<4294967296∧l'≤1∧val 4294967296 (iF.take (i+1))+4294967296^(i+1)*(c1 / 4294967296+l')=val 4294967296 ((outs.set i r).take (i+1))+t*val 4294967296 (vs.take (i+1))∧∀j,i+1≤j→(outs.set i r)[j]? = iF[j]?):=by
   intro y c1 hy hc1 h1 h2
   have hty:t*y≤4294967295*4294967295:=Nat.mul_le_mul (by omega) (by omega)
   have hm:=Nat.mod_lt c1 (show 0<4294967296 by decide)
   have hdv:=Nat.mod_add_div c1 4294967296
   have hq:c1 / 4294967296<4294967296:=Nat.div_lt_of_lt_mul (by omega)
   refine⟨hq,wrap64 (by omega) (by omega),wrap64 (by omega) (by omega),?_⟩
   obtain⟨r,l',CY,Gy,hd,hlw,mP⟩:∃r l':Nat,l'≤1∧r<4294967296∧r+c1 % 4294967296+l=x+4294967296*l'∧IntKind.u32.wrap ((x:Int)-((c1 % 4294967296:Nat):Int)-(l:Int))=((r:Nat):Int)∧((x:Int)-((c1 % 4294967296:Nat):Int)-(l:Int)<0↔l'=1):=by
    by_cases hn:(x:Int)-((c1 % 4294967296:Nat):Int)-(l:Int)<0
    ·exact⟨x+4294967296-c1 % 4294967296-l,1,by omega,by omega,by omega,JD (by omega) hn (by omega),fun _=>rfl,fun _=>hn⟩
    ·exact⟨x-c1 % 4294967296-l,0,by omega,by omega,by omega,by rw[IntKind.wrap_u32];omega,fun h=>absurd h hn,fun h=>by omega⟩
   refine⟨r,l',CY,mP,hlw,by omega,by rw[List.length_set];exact fU,lO lB Gy,hq,CY,?_,fun j hj=>by rw[List.getElem?_set_ne (by omega)];exact ES j (by omega)⟩
   have hy':val 4294967296 (vs.take (i+1))=val 4294967296 (vs.take i)+4294967296^i*y:=by
    cases Ro:vs[i]? with
    | some d=>rw[aT Ro,h1 d Ro]
    |
     none =>
     have hle:=List.getElem?_eq_none_iff.1 Ro
     rw[h2 hle,jL hle,jL (by omega),Nat.mul_zero,Nat.add_zero]
   rw[aT Gk,hy',dP (by omega),Nat.pow_succ]
   have:=U2 hv hc1 hdv.symm hd
   rw[this,Nat.mul_add,Nat.mul_left_comm t]
  by_cases aX:(i:Int)<(n2:Int)
  ·obtain⟨y,hy⟩:∃y,vs[i]? = some y:=⟨_,List.getElem?_eq_getElem (by omega)⟩
   have ly:=Fc y (List.mem_of_getElem? hy)
   have f1:bF 1 (.ref b2 g2 0 n2 c2) (VI i) (H.set b (.row g ((pre++outs++post).map uV) 1 true))=some (.ptr b2 g2 i 0):=by rw[aV (rd2 outs) (by omega),Nat.zero_add]
   have f2:cU false 1 (.ptr b2 g2 i 0) (H.set b (.row g ((pre++outs++post).map uV) 1 true))=some (uV y):=iM (rd2 outs) (by rw[yU i (by omega)];exact hy)
   have w3:IntKind.u64.wrap (y:Int)=(y:Int):=fN _ (by omega)
   have hty:t*y≤4294967295*4294967295:=Nat.mul_le_mul (by omega) (by omega)
   have w4:IntKind.u64.wrap ((t:Int)*(y:Int))=((t*y:Nat):Int):=by rw[←Int.natCast_mul];exact fN _ (by omega)
   have w5:IntKind.u64.wrap ((cy:Int)+((t*y:Nat):Int))=((cy+t*y:Nat):Int):=by rw[←Int.natCast_add];exact fN _ (by omega)
   have w6:IntKind.i64.wrap (((cy+t*y) % 4294967296:Nat):Int)=(((cy+t*y) % 4294967296:Nat):Int):=wrapN _ rfl (by omega)
   obtain⟨_,a1,a2,r,l',CY,mP,hw,s1,s2,s3,s4,s5,s6,s7⟩:=step y (cy+t*y) ly rfl (fun d hd=>by rw[hy] at hd;injection hd with hd;exact hd.symm) (fun h=>by omega)
   by_cases hn:(x:Int)-(((cy+t*y) % 4294967296:Nat):Int)-(l:Int)<0
   ·have:=mP.1 hn
    subst this
    simp only[fJ,k0,k1,k2,k7,k8,zK,AM,cB,aX,e1,e2,e3,e4,f1,f2,w1,w3,w4,w5,w6,a1,a2,hn,hw,wii,wrap32,sK,VX,Nat.reduceEqDiff,Nat.reduceAdd]
    exact⟨(i+1,outs.set i r,(cy+t*y) / 4294967296,1),by simp only;omega,s1,rfl,s2,s3,s4,s5,s6,s7,by (repeat' apply And.intro)<;>first | rfl | trivial⟩
   ·have:l'=0:=by
     have:l'≠1:=fun h=>hn (mP.2 h)
     omega
    subst this
    simp only[fJ,k0,k1,k2,k7,k8,zK,AM,cB,aX,e1,e2,e3,e4,f1,f2,w1,w3,w4,w5,w6,a1,a2,hn,hw,wii,wrap32,sK,VX,Nat.reduceEqDiff,Nat.reduceAdd]
    exact⟨(i+1,outs.set i r,(cy+t*y) / 4294967296,0),by simp only;omega,s1,rfl,s2,s3,s4,s5,s6,s7,by (repeat' apply And.intro)<;>first | rfl | trivial⟩
  ·have w6:IntKind.i64.wrap ((cy % 4294967296:Nat):Int)=((cy % 4294967296:Nat):Int):=wrapN _ rfl (by omega)
   obtain⟨_,a1,a2,r,l',CY,mP,hw,s1,s2,s3,s4,s5,s6,s7⟩:=step 0 cy (by decide) (by simp) (fun d hd=>by have:=(List.getElem?_eq_some_iff.1 hd).1;omega) (fun _=>rfl)
   by_cases hn:(x:Int)-((cy % 4294967296:Nat):Int)-(l:Int)<0
   ·have:=mP.1 hn
    subst this
    simp only[fJ,k0,k1,k2,k7,k8,zK,AM,cB,aX,e1,e2,e3,e4,w1,w6,a1,a2,hn,hw,wii,wrap32,sK,VX,Nat.reduceEqDiff,Nat.reduceAdd]
    exact⟨(i+1,outs.set i r,cy / 4294967296,1),by simp only;omega,s1,rfl,s2,s3,s4,s5,s6,s7,by (repeat' apply And.intro)<;>first | rfl | trivial⟩
   ·have:l'=0:=by
     have:l'≠1:=fun h=>hn (mP.2 h)
     omega
    subst this
    simp only[fJ,k0,k1,k2,k7,k8,zK,AM,cB,aX,e1,e2,e3,e4,w1,w6,a1,a2,hn,hw,wii,wrap32,sK,VX,Nat.reduceEqDiff,Nat.reduceAdd]
    exact⟨(i+1,outs.set i r,cy / 4294967296,0),by simp only;omega,s1,rfl,s2,s3,s4,s5,s6,s7,by (repeat' apply And.intro)<;>first | rfl | trivial⟩
 ·have pD:i=L:=by omega
  subst pD
  rw[List.take_of_length_le (by omega),List.take_of_length_le (by omega),List.take_of_length_le (by omega)] at hv
  have afR:=oE lB
  rw[fU] at afR
  by_cases hz:l=0∧cy=0
  ·obtain⟨rfl,rfl⟩:=hz
   simp only[fJ,k0,k1,k2,k7,k8,zK,AM,cB,Int.natCast_zero,VX,Nat.reduceEqDiff,Nat.reduceAdd]
   exact⟨outs,rfl,fU,lB,.inl (by simpa using hv.symm)⟩
  ·have Vr:cy+l=1:=by
    rcases W4 hv afR hVL wT with h | h<;>omega
   rw[Vr,Nat.mul_one] at hv
   have abA:val 4294967296 iF<t*val 4294967296 vs:=by omega
   have fin:∀s2:List Nat,s2.length=i→(∀d∈s2,d<4294967296)→∀c,val 4294967296 outs+val 4294967296 vs=val 4294967296 s2+4294967296^i*c→val 4294967296 s2+t*val 4294967296 vs=val 4294967296 iF+val 4294967296 vs:=by
    intro s2 h2 h3 c h4
    have h5:=oE h3
    rw[h2] at h5
    exact YT hv h4 h5 hVL wT Nx (by omega)
   have hlen:=e0 (rd outs fU)
   by_cases zB:(l:Int)=0
   ·have hcy:¬(cy:Int)=0:=by omega
    simp only[fJ,k0,k1,k2,k7,k8,zK,AM,cB,zB,hcy,hlen,VX,Nat.reduceEqDiff,Nat.reduceAdd]
    exact back _ outs fU lB fin abA k0 k1 (by rfl) (by rfl) (by rfl)
   ·simp only[fJ,k0,k1,k2,k7,k8,zK,AM,cB,zB,hlen,VX,Nat.reduceEqDiff,Nat.reduceAdd]
    exact back _ outs fU lB fin abA k0 k1 (by rfl) (by rfl) (by rfl)
end Go.PM