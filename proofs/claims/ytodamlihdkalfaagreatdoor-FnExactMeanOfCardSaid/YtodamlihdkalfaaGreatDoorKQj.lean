/- Texts of a claim, in one: part 10. -/
import Derived.Test.YtodamlihdkalfaaGreatDoorKQi
set_option linter.unusedSimpArgs false
set_option linter.unusedVariables false
namespace Go.PM
abbrev tV (d:Nat):VV:=VI (d:Int)
abbrev gB (ds:List Nat):VV:=bT tV ds
def bO (n:Nat):VV:=gB (aC 1000000000 n)
theorem Da:∀d:Nat,(aA (tV d)).length=1:=fun _=>rfl
theorem vR (ds:List Nat):aW (gB ds)=true:=jA Da fun _=>rfl
theorem SA (ds:List Nat):gH (gB ds)=true:=Bt Da (fun _=>rfl) fun _=>rfl
theorem bU (n:Nat):aW (bO n)=true:=vR _
theorem lE (n:Nat):gH (bO n)=true:=SA _
theorem Fg:bO 0 = .tree [] .op:=by rw[bO,bR];rfl
theorem Wr:bO 1=gB [1]:=by rw[bO,hC (by decide) (by decide),bR]
theorem cI (n:Nat) {H:aB}:pE (bO n) H=some (VI (aC 1000000000 n).length):=dZ
section
variable {α:Type} {f:α→VV} {xs:List α} {x:α} {H:aB}
theorem Hm {g e:Nat} {es:List VV} {w:Bool}:aV [.row g es e w] 0 g=some (es,e,w):=cE
theorem akX {e bytes:Nat} (he:1≤e) (hb:1≤bytes) (Bf:(xs.length+1)*bytes≤140737488355328):gF 0 e bytes (.ref 0 xs.length 0 xs.length xs.length) [f x] [.row xs.length (xs.map f) e true]=some (.ref 0 (xs.length+1) 0 (xs.length+1) (xs.length+1),[.row (xs.length+1) ((xs++[x]).map f) e true]):=by
 rw[oX (f:=f) (x:=x) cE rfl (Nat.le_refl _) he hb Bf]
 rfl
theorem Na {n g e:Nat} {w:Bool} (hp:∀x,aW (f x)=true) (hn:n=xs.length):fz depth [.row g (xs.map f) e w] (.ref 0 g 0 n n)=some (bT f xs):=CZ cE (by simpa using hn) (Nat.le_refl _) (dY hp)
end
theorem Il {lr:Bool}:qV lr [.int .i64 0] 0 [] []=some (.ref 0 0 0 0 0,[.row 0 (([]:List Nat).map tV) 1 true]):=nR (H:=[]) rfl
theorem qO {d:Int} {H:aB}:qV false [.int .i64 0] 1 [(0,VI d)] H=some (.tree [VI d] (.cl 1),H):=sL rfl rfl rfl
theorem sB {d:Int} {H:aB} {t:TK}:eY 1 (.tree [VI d] t) H=some [VI d]:=pB rfl rfl
theorem Ya {ds:List Nat} {d:Nat} (h:ds.length<17592186044416):gF 0 1 8 (.ref 0 ds.length 0 ds.length ds.length) [VI (d:Int)] [.row ds.length (ds.map tV) 1 true]=some (.ref 0 (ds.length+1) 0 (ds.length+1) (ds.length+1),[.row (ds.length+1) ((ds++[d]).map tV) 1 true]):=akX (f:=tV) (by decide) (by decide) (by omega)
theorem Kf (n:Nat):cU .rem (.int .i64 (n:Int)) (.int .i64 1000000000)=some (.int .i64 ((n % 1000000000:Nat):Int)):=by
 have h2:(n:Int).tmod 1000000000=((n % 1000000000:Nat):Int):=by rw[Int.tmod_eq_emod_of_nonneg (by omega)];simp
 simp only[cU,if_true,h2]
 rfl
theorem KI (n:Nat) (h:n≤9223372036854775807):cU .quo (.int .i64 (n:Int)) (.int .i64 1000000000)=some (.int .i64 ((n / 1000000000:Nat):Int)):=by
 have h2:(n:Int).tdiv 1000000000=((n / 1000000000:Nat):Int):=by rw[Int.tdiv_eq_ediv_of_nonneg (by omega)];simp
 simp only[cU,if_true,h2]
 rw[wrap64 (by omega) (by omega)]
 rfl
theorem pI (ds:List Nat) (h:∀d∈ds,d<1000000000) (hlen:ds.length≤70368744177664):TC 211 [gB ds] (bO (val 1000000000 ds)):=by
 refine TC.walk ⟨true,false⟩ Im rfl (Nat.le_of_ble_eq_true rfl) (by simp[aK,vR]) (lE _) ?_
 simp only[Ef,Bk,VX,Nat.reduceEqDiff,Nat.reduceAdd]
 refine bB (fun(xs:List Nat) ρ H'=>(∀d∈xs,d<1000000000)∧val 1000000000 xs=val 1000000000 ds∧xs.length≤ds.length∧H'=[]∧ρ 0=gB xs) (fun s=>s.length) ds ⟨h,rfl,Nat.le_refl _,rfl,rfl⟩ ?_
 rintro xs ρ H' ⟨hx,hv,hl,rfl,h0⟩
 have done:xs.getLast? ≠ some 0→fz depth [] (gB xs)=some (bO (val 1000000000 ds)):=fun eW=>by rw[bO,←hv,IJ (by decide) hx eW];exact aI (vR _)
 rcases Nat.eq_zero_or_pos xs.length with hz | hp
 ·have hxn:xs=[]:=List.length_eq_zero_iff.1 hz
  subst hxn
  simp only[oK,h0,Int.reduceLT,Int.natCast_zero,dZ,List.length_nil,VX,Nat.reduceEqDiff,Nat.reduceAdd]
  exact done (by simp)
 ·obtain⟨m,hm⟩:∃m,xs.length=m+1:=⟨xs.length-1,by omega⟩
  obtain⟨d,hd⟩:∃d,xs[m]? = some d:=⟨_,List.getElem?_eq_getElem (by omega)⟩
  have A0:(0:Int)<((m+1:Nat):Int):=by omega
  have w1:IntKind.i64.wrap (((m+1:Nat):Int)-1)=(m:Int):=by rw[wrap64 (by omega) (by omega)];omega
  have e1:=aP (f:=tV) (t := .op) (H:=[]) (size:=1) (k := .i64) hd rfl
  by_cases BG:(d:Int)=0
  ·have hd1:d=0:=by omega
   subst hd1
   have e2:=Gu (f:=tV) (size:=1) (t := .op) (H:=[]) (k2 := .i64) (xs:=xs) (h:=m) Da (by omega) (by omega)
   have Ns:xs=xs.take m++[0]:=by
    have:=List.take_append_drop m xs
    have h3:=(List.getElem?_eq_some_iff.1 hd)
    rw[List.drop_eq_getElem_cons h3.1,h3.2,List.drop_of_length_le (by omega)] at this
    exact this.symm
   simp only[oK,h0,hm,A0,w1,e1,e2,BG,dZ,VX,Nat.reduceEqDiff,Nat.reduceAdd]
   refine⟨xs.take m,by simp only[List.length_take];omega,fun d hd=>hx d (List.mem_of_mem_take hd),?_,by simp only[List.length_take];omega,by first | rfl | exact⟨rfl,rfl⟩⟩
   rw[←hv]
   conv=>rhs;rw[Ns]
   rw[pY]
   simp
  ·simp only[oK,h0,hm,A0,w1,e1,BG,dZ,VX,Nat.reduceEqDiff,Nat.reduceAdd]
   exact done (L6 hm hd (by omega))
theorem E4 {outs:List Nat} {n g m:Nat} {lo:Nat} {w:Bool} {K:VV→aB→Prop} (hd:∀d∈outs,d<1000000000) (hn:n=outs.length) (hlen:outs.length≤70368744177664) (hm:val 1000000000 outs=m) (hk:K (bO m) (cH [.row g (outs.map tV) 1 w] [0])) :
  dJ 211 [.ref 0 g 0 n n] lo [.row g (outs.map tV) 1 w] K:=by
 subst hm
 rw[TC.X4 (f:=tV) (pI outs hd hlen) cE hn (Nat.le_refl _) Da (fun _=>rfl) rfl rfl]
 exact hk
theorem Po {H:aB} (n:Nat):fz depth H (bO n)=some (bO n):=aI (bU n)
theorem nW (n:Int) (h1:n≤9223372036854775807):TC 161 [VI n] (bO n.toNat):=by
 refine TC.walk ⟨true,false⟩ JV rfl (Nat.le_of_ble_eq_true rfl) rfl (lE _) ?_
 simp only[GC,CO,Il,VX,Nat.reduceEqDiff,Nat.reduceAdd]
 refine bB (fun(s:Int×List Nat) ρ H=>s.1≤9223372036854775807∧H=[.row s.2.length (s.2.map tV) 1 true]∧s.2.length≤63∧s.1.toNat*2^s.2.length≤9223372036854775807∧aC 1000000000 n.toNat=s.2++aC 1000000000 s.1.toNat∧ρ 0=VI s.1∧ρ 3 = .ref 0 s.2.length 0 s.2.length s.2.length) (fun s=>s.1.toNat) (n,[]) ⟨h1,rfl,by simp,by simp only[List.length_nil,Nat.pow_zero,Nat.mul_one];omega,rfl,rfl,rfl⟩ ?_
 rintro⟨m,ds⟩ ρ H ⟨hm,rfl,hl,aX,hd,g0,g3⟩
 simp only at hm hl aX hd g0 g3
 by_cases hp:(0:Int)<m
 ·obtain⟨k,rfl⟩:∃k:Nat,m=(k:Int):=⟨m.toNat,by omega⟩
  rw[Int.toNat_natCast] at aX hd
  have hk0:k≠0:=by omega
  have Gj:ds.length<63:=by
   rcases Nat.lt_or_ge ds.length 63 with h | h
   ·exact h
   ·have e:2^ds.length=9223372036854775808:=by rw[show ds.length=63 by omega]
    rw[e] at aX
    omega
  have r1:=Kf k
  have q1:=KI k (by omega)
  have a1:=Ya (ds:=ds) (d:=k % 1000000000) (by omega)
  simp only[vY,g0,g3,hp,r1,q1,qO,sB,a1,VX,Nat.reduceEqDiff,Nat.reduceAdd]
  refine⟨(((k / 1000000000:Nat):Int),ds++[k % 1000000000]),?_,by simp only;omega,by simp,by simp;omega,?_,?_,rfl,by simp⟩
  ·simp only[Int.toNat_natCast];exact Nat.div_lt_self (by omega) (by decide)
  ·simp only[Int.toNat_natCast,List.length_append,List.length_singleton,Nat.pow_succ]
   have h1:k / 1000000000*2≤k:=by omega
   have:=Nat.mul_le_mul_right (2^ds.length) h1
   rw[Nat.mul_assoc,Nat.mul_comm 2] at this
   omega
  ·simp only[Int.toNat_natCast]
   rw[hd,hC (by decide) hk0,List.append_assoc]
   rfl
 ·have hz:m.toNat=0:=by omega
  rw[hz,bR,List.append_nil] at hd
  simp only[vY,g0,g3,hp,VX,Nat.reduceEqDiff,Nat.reduceAdd]
  rw[bO,hd]
  exact Na (fun _=>rfl) rfl
theorem rY (a b:Nat) (ha:(aC 1000000000 a).length≤17592186044416) (hb:(aC 1000000000 b).length≤17592186044416):TC 178 [bO a,bO b] (VI (dX a b)):=by
 refine TC.walk ⟨true,false⟩ JH rfl (Nat.le_of_ble_eq_true rfl) (by simp[aK,bU]) rfl ?_
 have fin:∀ {x:Int},x=dX a b→fz depth [] (VI x)=some (VI (dX a b)):=fun h=>by rw[h];exact aI rfl
 unfold bO gB
 by_cases hl:(((aC 1000000000 a).length:Nat):Int)=(((aC 1000000000 b).length:Nat):Int)
 ·have A7:(aC 1000000000 a).length=(aC 1000000000 b).length:=by omega
  have w1:IntKind.i64.wrap ((((aC 1000000000 b).length:Nat):Int)-1)=(((aC 1000000000 b).length:Nat):Int)-1:=wrap64 (by omega) (by omega)
  simp only[wP,rX,hl,w1,VX,Nat.reduceEqDiff,Nat.reduceAdd]
  refine bB (fun(j:Nat) ρ H=>j≤(aC 1000000000 b).length∧H=[]∧(aC 1000000000 a).drop j=(aC 1000000000 b).drop j∧ρ 0=bT tV (aC 1000000000 a)∧ρ 1=bT tV (aC 1000000000 b)∧ρ 5=VI ((j:Int)-1)) (fun j=>j) (aC 1000000000 b).length ⟨Nat.le_refl _,rfl,by rw[List.drop_length,←A7,List.drop_length],rfl,rfl,rfl⟩ ?_
  rintro j ρ H ⟨hj,rfl,hd,h0,h1,h5⟩
  by_cases hz:(0:Int)≤(j:Int)-1
  ·obtain⟨i,rfl⟩:∃i,j=i+1:=⟨j-1,by omega⟩
   obtain⟨x,hx⟩:∃x,(aC 1000000000 a)[i]? = some x:=⟨_,List.getElem?_eq_getElem (by omega)⟩
   obtain⟨y,hy⟩:∃y,(aC 1000000000 b)[i]? = some y:=⟨_,List.getElem?_eq_getElem (by omega)⟩
   have JD:((i+1:Nat):Int)-1=(i:Int):=by omega
   have e1:=aP (f:=tV) (t := .op) (H:=[]) (size:=1) (k := .i64) hx rfl
   have e2:=aP (f:=tV) (t := .op) (H:=[]) (size:=1) (k := .i64) hy rfl
   rw[JD] at h5 hz
   have w2:IntKind.i64.wrap ((i:Int)-1)=(i:Int)-1:=wrap64 (by omega) (by omega)
   by_cases Af:(x:Int)=(y:Int)
   ·simp only[mP,h0,h1,h5,hz,e1,e2,Af,w2,VX,Nat.reduceEqDiff,Nat.reduceAdd]
    have Z1:x=y:=by omega
    subst Z1
    refine⟨i,by omega,by omega,?_⟩
    obtain⟨g1,g2⟩:=List.getElem?_eq_some_iff.1 hx
    obtain⟨g3,g4⟩:=List.getElem?_eq_some_iff.1 hy
    rw[List.drop_eq_getElem_cons g1,List.drop_eq_getElem_cons g3,g2,g4,hd]
    exact⟨rfl,rfl⟩
   ·by_cases aX:(x:Int)<(y:Int)
    ·simp only[mP,h0,h1,h5,hz,e1,e2,Af,aX,VX,Nat.reduceEqDiff,Nat.reduceAdd]
     refine fin ?_
     have:=B0 (eE (by decide) a) A7 hx hy hd (by omega)
     rw[bW (by decide),bW (by decide)] at this
     simp[dX,this]
    ·simp only[mP,h0,h1,h5,hz,e1,e2,Af,aX,VX,Nat.reduceEqDiff,Nat.reduceAdd]
     refine fin ?_
     have:=B0 (eE (by decide) b) A7.symm hy hx hd.symm (by omega)
     rw[bW (by decide),bW (by decide)] at this
     rw[dX,if_neg (by omega),if_neg (by omega)]
  ·have PT:j=0:=by omega
   subst PT
   simp only[mP,h0,h1,h5,hz,VX,Nat.reduceEqDiff,Nat.reduceAdd]
   refine fin ?_
   have:=Pk (b:=1000000000) (by decide) (by simpa using hd)
   subst this
   simp[dX]
 ·by_cases aX:(((aC 1000000000 a).length:Nat):Int)<(((aC 1000000000 b).length:Nat):Int)
  ·simp only[wP,rX,hl,aX,VX,Nat.reduceEqDiff,Nat.reduceAdd]
   refine fin ?_
   have:=B3 (b:=1000000000) (by decide) (m:=a) (n:=b) (by omega)
   simp[dX,this]
  ·simp only[wP,rX,hl,aX,VX,Nat.reduceEqDiff,Nat.reduceAdd]
   refine fin ?_
   have:=B3 (b:=1000000000) (by decide) (m:=b) (n:=a) (by omega)
   rw[dX,if_neg (by omega),if_neg (by omega)]
theorem G9 (ds:List Nat) (i:Nat):TC 225 [gB ds,VI (i:Int)] (tV (ds.getD i 0)):=by
 refine TC.walk ⟨true,false⟩ He rfl (Nat.le_of_ble_eq_true rfl) (by simp[aK,vR];rfl) rfl ?_
 by_cases h:(i:Int)<(ds.length:Int)
 ·obtain⟨d,hd⟩:∃d,ds[i]? = some d:=⟨_,List.getElem?_eq_getElem (by omega)⟩
  have e1:=aP (f:=tV) (t := .op) (H:=[]) (size:=1) (k := .i64) hd rfl
  simp only[xI,sQ,dZ,h,e1,VX,Nat.reduceEqDiff,Nat.reduceAdd]
  rw[List.getD_eq_getElem?_getD,hd]
  exact aI rfl
 ·simp only[xI,sQ,dZ,h,VX,Nat.reduceEqDiff,Nat.reduceAdd]
  rw[List.getD_eq_getElem?_getD,List.getElem?_eq_none (by omega)]
  exact aI rfl
theorem Ba (n i:Nat):TC 225 [bO n,VI (i:Int)] (tV (n / 1000000000^i % 1000000000)):=by
 have:=G9 (aC 1000000000 n) i
 rwa [EX (by decide)] at this
theorem E8 (a b:Nat) (ha:(aC 1000000000 a).length<17592186044416) (hb:(aC 1000000000 b).length<17592186044416):TC 177 [bO a,bO b] (bO (a+b)):=by
 refine TC.walk ⟨true,false⟩ Fo rfl (Nat.le_of_ble_eq_true rfl) (by simp[aK,bU]) (lE _) ?_
 simp only[AU,xO,Il,VX,Nat.reduceEqDiff,Nat.reduceAdd]
 have hL:=Mx (b:=1000000000) (by decide) (m:=a) (n:=b) (k:=17592186044416-1) (by omega) (by omega)
 refine bB (fun(s:Nat×List Nat×Nat) ρ H=>s.1=s.2.1.length∧H=[.row s.2.1.length (s.2.1.map tV) 1 true]∧s.2.2≤1∧aC 1000000000 (a+b)=s.2.1++aC 1000000000 (a / 1000000000^s.1+b / 1000000000^s.1+s.2.2)∧ρ 0=bO a∧ρ 1=bO b∧ρ 5 = .ref 0 s.2.1.length 0 s.2.1.length s.2.1.length∧ρ 6=VI s.2.2∧ρ 7=VI s.1)
  (fun s=>(aC 1000000000 (a+b)).length-s.1) (0,[],0) ⟨rfl,rfl,by simp,by simp,rfl,rfl,rfl,rfl,rfl⟩ ?_
 rintro⟨i,ds,c⟩ ρ H ⟨hi,rfl,hc,hd,g0,g1,g5,g6,g7⟩
 simp only at hi hc hd g5 g6 g7
 have la:=BN (b:=1000000000) (by decide) (n:=a) (i:=i)
 have lb:=BN (b:=1000000000) (by decide) (n:=b) (i:=i)
 have c1:=Ba a i
 have c2:=Ba b i
 have m1:=Nat.mod_lt (a / 1000000000^i) (show 0<1000000000 by decide)
 have m2:=Nat.mod_lt (b / 1000000000^i) (show 0<1000000000 by decide)
 have Wm:a / 1000000000^i+b / 1000000000^i+c≠0→aC 1000000000 (a+b)=ds++(a / 1000000000^i % 1000000000+b / 1000000000^i % 1000000000+c) % 1000000000::aC 1000000000 (a / 1000000000^(i+1)+b / 1000000000^(i+1)+(a / 1000000000^i % 1000000000+b / 1000000000^i % 1000000000+c) / 1000000000):=fun h=>by
  rw[hd,Tf (by decide) h,pT,pT]
 generalize a / 1000000000^i=A at *
 generalize b / 1000000000^i=B at *
 by_cases Ja:A+B+c=0
 ·have h1:¬(i:Int)<((aC 1000000000 a).length:Int):=by omega
  have h2:¬(i:Int)<((aC 1000000000 b).length:Int):=by omega
  have h3:¬(0:Int)<(c:Int):=by omega
  simp only[jK,g0,g1,g5,g6,g7,cI,h1,h2,h3,VX,Nat.reduceEqDiff,Nat.reduceAdd]
  rw[Ja,bR,List.append_nil] at hd
  rw[bO,hd]
  exact Na (fun _=>rfl) rfl
 ·have hdn:=Wm Ja
  have aX:i<(aC 1000000000 (a+b)).length:=by
   rw[hdn,List.length_append,List.length_cons]
   omega
  have w1:IntKind.i64.wrap (((A % 1000000000:Nat):Int)+((B % 1000000000:Nat):Int))=((A % 1000000000+B % 1000000000:Nat):Int):=wrapN _ (by omega) (by omega)
  have w2:IntKind.i64.wrap (((A % 1000000000+B % 1000000000:Nat):Int)+(c:Int))=((A % 1000000000+B % 1000000000+c:Nat):Int):=wrapN _ (by omega) (by omega)
  have wi:IntKind.i64.wrap ((i:Int)+1)=((i+1:Nat):Int):=wrapN (i+1) (by omega) (by omega)
  have r1:=Kf (A % 1000000000+B % 1000000000+c)
  have q1:=KI (A % 1000000000+B % 1000000000+c) (by omega)
  have a1:=Ya (ds:=ds) (d:=(A % 1000000000+B % 1000000000+c) % 1000000000) (by omega)
  have aaM:aC 1000000000 (a+b)=(ds++[(A % 1000000000+B % 1000000000+c) % 1000000000])++aC 1000000000 (a / 1000000000^(i+1)+b / 1000000000^(i+1)+(A % 1000000000+B % 1000000000+c) / 1000000000):=by rw[hdn,List.append_assoc];rfl
  by_cases h1:(i:Int)<((aC 1000000000 a).length:Int)
  ·simp only[jK,g0,g1,g5,g6,g7,cI,h1,c1,c2,w1,w2,wi,r1,q1,qO,sB,a1,VX,Nat.reduceEqDiff,Nat.reduceAdd]
   refine⟨(i+1,ds++[(A % 1000000000+B % 1000000000+c) % 1000000000],(A % 1000000000+B % 1000000000+c) / 1000000000),by simp only;omega,by simp;omega,by simp,by simp only;omega,aaM,?_⟩
   simp only[List.length_append,List.length_singleton]
   try (repeat' apply And.intro)<;>first | rfl | trivial
  ·by_cases h2:(i:Int)<((aC 1000000000 b).length:Int)
   ·simp only[jK,g0,g1,g5,g6,g7,cI,h1,h2,c1,c2,w1,w2,wi,r1,q1,qO,sB,a1,VX,Nat.reduceEqDiff,Nat.reduceAdd]
    refine⟨(i+1,ds++[(A % 1000000000+B % 1000000000+c) % 1000000000],(A % 1000000000+B % 1000000000+c) / 1000000000),by simp only;omega,by simp;omega,by simp,by simp only;omega,aaM,?_⟩
    simp only[List.length_append,List.length_singleton]
    try (repeat' apply And.intro)<;>first | rfl | trivial
   ·have h3:(0:Int)<(c:Int):=by omega
    simp only[jK,g0,g1,g5,g6,g7,cI,h1,h2,h3,c1,c2,w1,w2,wi,r1,q1,qO,sB,a1,VX,Nat.reduceEqDiff,Nat.reduceAdd]
    refine⟨(i+1,ds++[(A % 1000000000+B % 1000000000+c) % 1000000000],(A % 1000000000+B % 1000000000+c) / 1000000000),by simp only;omega,by simp;omega,by simp,by simp only;omega,aaM,?_⟩
    simp only[List.length_append,List.length_singleton]
    try (repeat' apply And.intro)<;>first | rfl | trivial
end Go.PM
namespace Go.PM
theorem Lu (n:Nat) (hn:n≤35184372088832):xY [.int .i64 0] 8 (VI (n:Int)) (VI (n:Int)) []=some (.ref 0 0 0 n n,[.row 0 ((List.replicate n 0).map tV) 1 true]):=uB (f:=tV) (x:=0) rfl (by omega) (by omega)
theorem LD {outs:List Nat} {i d:Nat} (hi:i<outs.length):dC 0 1 (.ptr 0 0 i 0) (VI (d:Int)) [.row 0 (outs.map tV) 1 true]=some [.row 0 ((outs.set i d).map tV) 1 true]:=by
 rw[show VI (d:Int)=tV d from rfl,fX (f:=tV) (e:=1) Hm hi (Nat.le_refl _) rfl rfl]
 rfl
theorem HU {b g:Nat} {rows:List Nat} {w:Bool} {H:aB} {j d:Nat} (hr:aV H b g=some (rows.map tV,1,w)) (hj:rows[j]? = some d):gM false 1 (.ptr b g j 0) H=some (VI (d:Int)):=BU hr hj
theorem adT {n i:Nat} {outs:List Nat} (h:i<n):bE 1 (.ref 0 0 0 n n) (VI (i:Int)) [.row 0 (outs.map tV) 1 true]=some (.ptr 0 0 i 0):=by rw[bD Hm h,Nat.zero_add]
theorem wr {x:Int} (n:Nat) (h:x=n) (hn:n≤9223372036854775807):IntKind.i64.wrap x=(n:Int):=wrapN n h hn
theorem wU (a b:Nat) (Dw:b≤a) (ha:(aC 1000000000 a).length≤17592186044416):TC 179 [bO a,bO b] (bO (a-b)):=by
 refine TC.walk ⟨true,false⟩ Eg rfl (Nat.le_of_ble_eq_true rfl) (by simp[aK,bU]) (lE _) ?_
 have hle:=dD (b:=1000000000) (by decide) Dw
 simp only[Ai,xA,Il,cI,VX,Nat.reduceEqDiff,Nat.reduceAdd]
 refine bB (fun(s:Nat×List Nat×Nat) ρ H=>s.1=s.2.1.length∧s.1≤(aC 1000000000 a).length∧H=[.row s.2.1.length (s.2.1.map tV) 1 true]∧(∀d∈s.2.1,d<1000000000)∧s.2.2≤1∧val 1000000000 ((aC 1000000000 a).take s.1)+1000000000^s.1*s.2.2=val 1000000000 s.2.1+val 1000000000 ((aC 1000000000 b).take s.1) ∧
  ρ 0=bO a∧ρ 1=bO b∧ρ 5 = .ref 0 s.2.1.length 0 s.2.1.length s.2.1.length∧ρ 6=VI s.2.2∧ρ 11=VI (aC 1000000000 a).length∧ρ 12=VI s.1) (fun s=>(aC 1000000000 a).length-s.1) (0,[],0) ⟨rfl,Nat.zero_le _,rfl,by simp,by simp,by simp[val],rfl,rfl,rfl,rfl,rfl,rfl⟩ ?_
 rintro⟨i,outs,l⟩ ρ H ⟨hi,Hn,rfl,jS,hc,hv,g0,g1,g5,g6,g11,g12⟩
 simp only at hi Hn jS hc hv g5 g6 g12
 by_cases cX:(i:Int)<((aC 1000000000 a).length:Int)
 ·have hx:=IN (b:=1000000000) (by decide) (n:=a) (i:=i) (by omega)
  have e1:bE 1 (bO a) (VI i) [.row outs.length (outs.map tV) 1 true]=some (.cO (tV (a / 1000000000^i % 1000000000)) 0):=aP (f:=tV) (t := .op) (size:=1) (k := .i64) hx rfl
  have c2:=Ba b i
  have t1:=CB (b:=1000000000) (aC 1000000000 a) i
  have t2:=CB (b:=1000000000) (aC 1000000000 b) i
  rw[EX (by decide)] at t1 t2
  have lx:=Nat.mod_lt (a / 1000000000^i) (show 0<1000000000 by decide)
  have ly:=Nat.mod_lt (b / 1000000000^i) (show 0<1000000000 by decide)
  generalize a / 1000000000^i % 1000000000=x at *
  generalize b / 1000000000^i % 1000000000=y at *
  have wi:IntKind.i64.wrap ((i:Int)+1)=((i+1:Nat):Int):=wrapN (i+1) (by omega) (by omega)
  have w1:IntKind.i64.wrap ((x:Int)-(y:Int))=(x:Int)-(y:Int):=wrap64 (by omega) (by omega)
  have w2:IntKind.i64.wrap ((x:Int)-(y:Int)-(l:Int))=(x:Int)-(y:Int)-(l:Int):=wrap64 (by omega) (by omega)
  have step:∀r l':Nat,r<1000000000→l'≤1→r+y+l=x+1000000000*l'→(∀d∈outs++[r],d<1000000000)∧val 1000000000 ((aC 1000000000 a).take (i+1))+1000000000^(i+1)*l'=val 1000000000 (outs++[r])+val 1000000000 ((aC 1000000000 b).take (i+1)):=by
   intro r l' hr _ hd
   refine⟨fun d h => ?_,?_⟩
   ·rcases List.mem_append.1 h with h | h
    ·exact jS d h
    ·rw[List.mem_singleton.1 h];exact hr
   ·rw[t1,t2,pY,←hi,Nat.pow_succ]
    exact GQ hv hd
  by_cases lO:(x:Int)-(y:Int)-(l:Int)<0
  ·obtain⟨r,hr⟩:∃r:Nat,r+y+l=x+1000000000:=⟨x+1000000000-l-y,by omega⟩
   have w3:IntKind.i64.wrap ((x:Int)-(y:Int)-(l:Int)+1000000000)=(r:Int):=wrapN r (by omega) (by omega)
   obtain⟨s1,s2⟩:=step r 1 (by omega) (Nat.le_refl _) (by omega)
   have a1:=Ya (ds:=outs) (d:=r) (by omega)
   simp only[kY,g0,g1,g5,g6,g11,g12,cX,e1,c2,w1,w2,w3,wi,lO,qO,sB,a1,VX,Nat.reduceEqDiff,Nat.reduceAdd]
   refine⟨(i+1,outs++[r],1),by simp only;omega,by simp;omega,by simp only;omega,by simp,s1,Nat.le_refl _,s2,?_⟩
   simp only[List.length_append,List.length_singleton]
   try (repeat' apply And.intro)<;>first | rfl | trivial
  ·obtain⟨r,hr⟩:∃r:Nat,r+y+l=x:=⟨x-l-y,by omega⟩
   obtain⟨s1,s2⟩:=step r 0 (by omega) (by omega) (by omega)
   have er:(x:Int)-(y:Int)-(l:Int)=(r:Int):=by omega
   have a1:=Ya (ds:=outs) (d:=r) (by omega)
   have w3:IntKind.i64.wrap ((x:Int)-(y:Int)-(l:Int))=(r:Int):=wrapN r er (by omega)
   have Xz:¬(r:Int)<0:=by omega
   simp only[kY,g0,g1,g5,g6,g11,g12,cX,e1,c2,w1,w3,wi,Xz,qO,sB,a1,VX,Nat.reduceEqDiff,Nat.reduceAdd]
   refine⟨(i+1,outs++[r],0),by simp only;omega,by simp;omega,by simp only;omega,by simp,s1,Nat.zero_le _,s2,?_⟩
   simp only[List.length_append,List.length_singleton]
   try (repeat' apply And.intro)<;>first | rfl | trivial
 ·have qW:i=(aC 1000000000 a).length:=by omega
  rw[qW,List.take_length,List.take_of_length_le (l:=aC 1000000000 b) hle,bW (by decide),bW (by decide)] at hv
  have gV:=mT jS
  rw[←hi,qW] at gV
  have Jw:val 1000000000 outs=a-b:=by
   rcases Nat.lt_or_ge l 1 with h | h
   ·have:l=0:=by omega
    subst this
    rw[Nat.mul_zero] at hv
    omega
   ·have:l=1:=by omega
    subst this
    rw[Nat.mul_one] at hv
    omega
  simp only[kY,g0,g1,g5,g6,g11,g12,cX,VX,Nat.reduceEqDiff,Nat.reduceAdd]
  refine E4 jS rfl (by omega) Jw ?_
  simp only[VX,Nat.reduceEqDiff,Nat.reduceAdd]
  exact Po _
theorem fU (a b:Nat) (ha:(aC 1000000000 a).length≤17592186044416) (hb:(aC 1000000000 b).length≤17592186044416):TC 162 [bO a,bO b] (bO (a*b)):=by
 refine TC.walk ⟨true,false⟩ FI rfl (Nat.le_of_ble_eq_true rfl) (by simp[aK,bU]) (lE _) ?_
 have va:=bW (b:=1000000000) (by decide) a
 have vb:=bW (b:=1000000000) (by decide) b
 have la:=eE (b:=1000000000) (by decide) a
 have lb:=eE (b:=1000000000) (by decide) b
 unfold bO
 generalize aC 1000000000 a=xs at *
 generalize aC 1000000000 b=ys at *
 have w0:IntKind.i64.wrap ((xs.length:Int)+(ys.length:Int))=((xs.length+ys.length:Nat):Int):=wrapN _ (by omega) (by omega)
 simp only[Bl,xT,dZ,w0,Lu (xs.length+ys.length) (by omega),VX,Nat.reduceEqDiff,Nat.reduceAdd]
 generalize hN:xs.length+ys.length=N at *
 refine bB (fun(s:Nat×List Nat) ρ H=>s.1≤xs.length∧H=[.row 0 (s.2.map tV) 1 true]∧s.2.length=N∧(∀d∈s.2,d<1000000000)∧val 1000000000 (s.2.take (s.1+ys.length))=val 1000000000 (xs.take s.1)*b∧(∀j,s.1+ys.length≤j→j<N→s.2[j]? = some 0) ∧
  ρ 0=gB xs∧ρ 1=gB ys∧ρ 5 = .ref 0 0 0 N N∧ρ 17=VI xs.length∧ρ 18=VI s.1) (fun s=>xs.length-s.1) (0,List.replicate N 0) ⟨Nat.zero_le _,rfl,by simp,xL (by decide) _,by simp[val,List.take_replicate,oV],fun j _ h=>by simp[List.getElem?_replicate,h],rfl,rfl,rfl,rfl,rfl⟩ ?_
 rintro⟨i,outs⟩ ρ H ⟨hi,rfl,iC,jS,hv,hzr,g0,g1,g5,g17,g18⟩
 simp only at hi iC jS hv hzr g18
 by_cases cX:(i:Int)<(xs.length:Int)
 ·obtain⟨x,hx⟩:∃x,xs[i]? = some x:=⟨_,List.getElem?_eq_getElem (by omega)⟩
  have lx:=la x (List.mem_of_getElem? hx)
  have e1:∀os:List Nat,bE 1 (gB xs) (VI i) [.row 0 (os.map tV) 1 true]=some (.cO (tV x) 0):=fun os=>aP (f:=tV) (t := .op) (size:=1) (k := .i64) hx rfl
  simp only[pM,g0,g1,g5,g17,g18,cX,dZ,VX,Nat.reduceEqDiff,Nat.reduceAdd]
  refine bB (fun(s:Nat×List Nat×Nat) ρ H=>s.1≤ys.length∧H=[.row 0 (s.2.1.map tV) 1 true]∧s.2.1.length=N∧(∀d∈s.2.1,d<1000000000)∧s.2.2<1000000000 ∧
   val 1000000000 (s.2.1.take (i+s.1))+1000000000^(i+s.1)*s.2.2=val 1000000000 (outs.take (i+s.1))+1000000000^i*(x*val 1000000000 (ys.take s.1))∧(∀j,i+s.1≤j→s.2.1[j]? = outs[j]?) ∧
   ρ 0=gB xs∧ρ 1=gB ys∧ρ 5 = .ref 0 0 0 N N∧ρ 6=VI i∧ρ 7=VI s.2.2∧ρ 17=VI xs.length∧ρ 18=VI i∧ρ 22=VI ys.length∧ρ 23=VI s.1) (fun s=>ys.length-s.1) (0,outs,0) ⟨Nat.zero_le _,rfl,iC,jS,by simp,by simp[val],fun _ _=>rfl,by (repeat' apply And.intro)<;>first | rfl | trivial⟩ ?_
  rintro⟨k,os,c⟩ Kh H ⟨hk,rfl,MC,LH,hc,JY,Dx,k0,k1,k5,k6,k7,EJ,Uy,k22,k23⟩
  simp only at hk MC LH hc JY Dx k7 k23
  have wi:IntKind.i64.wrap ((i:Int)+1)=((i+1:Nat):Int):=wrapN (i+1) (by omega) (by omega)
  by_cases hkn:(k:Int)<(ys.length:Int)
  ·obtain⟨y,hy⟩:∃y,ys[k]? = some y:=⟨_,List.getElem?_eq_getElem (by omega)⟩
   have ly:=lb y (List.mem_of_getElem? hy)
   obtain⟨o,ho⟩:∃o,os[i+k]? = some o:=⟨_,List.getElem?_eq_getElem (by omega)⟩
   have lo:=LH o (List.mem_of_getElem? ho)
   have Vd:outs[i+k]? = some o:=by rw[←Dx (i+k) (Nat.le_refl _)];exact ho
   have f1:bE 1 (gB ys) (VI k) [.row 0 (os.map tV) 1 true]=some (.cO (tV y) 0):=aP (f:=tV) (t := .op) (size:=1) (k := .i64) hy rfl
   have w1:IntKind.i64.wrap ((i:Int)+(k:Int))=((i+k:Nat):Int):=wrapN _ (by omega) (by omega)
   have f2:bE 1 (.ref 0 0 0 N N) (VI ((i+k:Nat):Int)) [.row 0 (os.map tV) 1 true]=some (.ptr 0 0 (i+k) 0):=adT (by omega)
   have f3:gM false 1 (.ptr 0 0 (i+k) 0) [.row 0 (os.map tV) 1 true]=some (VI (o:Int)):=HU Hm ho
   have f4:∀s:Nat,dC 0 1 (.ptr 0 0 (i+k) 0) (VI (s:Int)) [.row 0 (os.map tV) 1 true]=some [.row 0 ((os.set (i+k) s).map tV) 1 true]:=fun s=>LD (by omega)
   have Af:x*y≤999999999*999999999:=Nat.mul_le_mul (by omega) (by omega)
   have w5:IntKind.i64.wrap ((x:Int)*(y:Int))=((x*y:Nat):Int):=wrapN _ (by simp) (by omega)
   have w6:IntKind.i64.wrap ((o:Int)+((x*y:Nat):Int))=((o+x*y:Nat):Int):=wrapN _ (by omega) (by omega)
   have w7:IntKind.i64.wrap (((o+x*y:Nat):Int)+(c:Int))=((o+x*y+c:Nat):Int):=wrapN _ (by omega) (by omega)
   have wk:IntKind.i64.wrap ((k:Int)+1)=((k+1:Nat):Int):=wrapN (k+1) (by omega) (by omega)
   have r1:=Kf (o+x*y+c)
   have q1:=KI (o+x*y+c) (by omega)
   simp only[qC,k0,k1,k5,k6,k7,EJ,Uy,k22,k23,hkn,e1,f1,f2,f3,f4,w1,w5,w6,w7,wk,r1,q1,VX,Nat.reduceEqDiff,Nat.reduceAdd]
   have hq:(o+x*y+c) / 1000000000<1000000000:=Nat.div_lt_of_lt_mul (by omega)
   refine⟨(k+1,os.set (i+k) ((o+x*y+c) % 1000000000),(o+x*y+c) / 1000000000),by simp only;omega,by omega,rfl,by rw[List.length_set];exact MC,jZ LH (Nat.mod_lt _ (by decide)),hq,?_,fun j hj => ?_,by (repeat' apply And.intro)<;>first | rfl | trivial⟩
   ·have h1:=Nat.mod_add_div (o+x*y+c) 1000000000
    rw[show o+x*y+c=c+(x*y+o) by omega] at h1 ⊢
    rw[←Nat.add_assoc,dG (by omega),aS Vd,aS hy,Nat.pow_succ]
    rw[Nat.pow_add] at JY ⊢
    exact Nf JY h1
   ·rw[List.getElem?_set_ne (by omega)]
    exact Dx j (by omega)
  ·have hke:k=ys.length:=by omega
   subst hke
   rw[List.take_length,vb,hv] at JY
   have w1:IntKind.i64.wrap ((i:Int)+(ys.length:Int))=((i+ys.length:Nat):Int):=wrapN _ (by omega) (by omega)
   have Cl:os[i+ys.length]? = some 0:=by rw[Dx _ (Nat.le_refl _)];exact hzr _ (Nat.le_refl _) (by omega)
   have f2:bE 1 (.ref 0 0 0 N N) (VI ((i+ys.length:Nat):Int)) [.row 0 (os.map tV) 1 true]=some (.ptr 0 0 (i+ys.length) 0):=adT (by omega)
   have f3:gM false 1 (.ptr 0 0 (i+ys.length) 0) [.row 0 (os.map tV) 1 true]=some (VI ((0:Nat):Int)):=HU Hm Cl
   have f4:∀s:Nat,dC 0 1 (.ptr 0 0 (i+ys.length) 0) (VI (s:Int)) [.row 0 (os.map tV) 1 true]=some [.row 0 ((os.set (i+ys.length) s).map tV) 1 true]:=fun s=>LD (by omega)
   have w2:IntKind.i64.wrap (((0:Nat):Int)+(c:Int))=(c:Int):=wrapN _ (by omega) (by omega)
   simp only[qC,k0,k1,k5,k6,k7,EJ,Uy,k22,k23,hkn,dZ,f2,f3,f4,w1,w2,wi,VX,Nat.reduceEqDiff,Nat.reduceAdd]
   refine⟨(i+1,os.set (i+ys.length) c),by simp only;omega,by omega,rfl,by rw[List.length_set];exact MC,jZ LH hc,?_,fun j hj Uq => ?_,by (repeat' apply And.intro)<;>first | rfl | trivial⟩
   ·rw[show i+1+ys.length=i+ys.length+1 by omega,dG (by omega),JY,aS hx,Nat.add_mul,Nat.mul_assoc]
   ·rw[List.getElem?_set_ne (by omega),Dx j (by omega)]
    exact hzr j (by omega) Uq
 ·have qW:i=xs.length:=by omega
  subst qW
  rw[hN,List.take_length,va,List.take_of_length_le (by omega)] at hv
  simp only[pM,g0,g1,g5,g17,g18,cX,VX,Nat.reduceEqDiff,Nat.reduceAdd]
  refine E4 (m:=a*b) jS iC.symm (by omega) hv ?_
  simp only[VX,Nat.reduceEqDiff,Nat.reduceAdd]
  exact Po _
theorem Ad (a:Nat) (ha:(aC 1000000000 a).length≤17592186044416):TC 236 [bO a] (if (aC 1000000000 a).length≤2 then .eK [VI a,VB true] else .eK [VI 0,VB false]):=by
 refine TC.walk ⟨true,false⟩ G8 rfl (Nat.le_of_ble_eq_true rfl) (by simp[aK,bU]) (by split<;>rfl) ?_
 by_cases h2:(aC 1000000000 a).length≤2
 ·rw[if_pos h2]
  have h3:¬(2:Int)<((aC 1000000000 a).length:Int):=by omega
  have c0:TC 225 [bO a,VI 0] (VI ((a % 1000000000:Nat):Int)):=by have:=Ba a 0;rwa [Nat.pow_zero,Nat.div_one] at this
  have c1:TC 225 [bO a,VI 1] (VI ((a / 1000000000 % 1000000000:Nat):Int)):=by have:=Ba a 1;rwa [Nat.pow_one] at this
  have aX:=fN (b:=1000000000) (by decide) a
  have hp:1000000000^(aC 1000000000 a).length≤1000000000^2:=Nat.pow_le_pow_right (by decide) h2
  have hm:a / 1000000000<1000000000:=Nat.div_lt_of_lt_mul (by omega)
  rw[Nat.mod_eq_of_lt hm] at c1
  have hmd:=Nat.mod_add_div a 1000000000
  have w1:IntKind.i64.wrap (1000000000*((a / 1000000000:Nat):Int))=((1000000000*(a / 1000000000):Nat):Int):=wrapN _ (by omega) (by omega)
  have w2:IntKind.i64.wrap (((a % 1000000000:Nat):Int)+((1000000000*(a / 1000000000):Nat):Int))=(a:Int):=wrapN _ (by omega) (by omega)
  simp only[xH,sT,cI,h3,c0,c1,w1,w2,VX,Nat.reduceEqDiff,Nat.reduceAdd]
  exact aI rfl
 ·rw[if_neg h2]
  have h3:(2:Int)<((aC 1000000000 a).length:Int):=by omega
  simp only[xH,sT,cI,h3,VX,Nat.reduceEqDiff,Nat.reduceAdd]
  exact aI rfl
theorem U1 {outs:List Nat} {n cap x:Nat} (hn:n=outs.length) (hc:n<cap):gF 0 1 8 (.ref 0 0 0 n cap) [VI (x:Int)] [.row 0 ((outs++List.replicate (cap-n) 0).map tV) 1 true]=some (.ref 0 0 0 (n+1) cap,[.row 0 (((outs++[x])++List.replicate (cap-(n+1)) 0).map tV) 1 true]):=by
 subst hn
 simp only[gF,cE,List.length_map,List.length_append,List.length_replicate,List.length_cons,List.length_nil,Nat.zero_add]
 rw[if_pos ⟨by decide,by decide⟩,if_pos ⟨trivial,Nat.le_refl _,by omega⟩,if_pos (by omega),if_neg (by omega),if_pos (by omega)]
 congr 3
 have e:List.replicate (cap-outs.length) 0=(0:Nat)::List.replicate (cap-(outs.length+1)) 0:=by
  rw[show cap-outs.length=(cap-(outs.length+1))+1 by omega,List.replicate_succ]
 simp only[cK,List.set_cons_zero,e,List.map_append,List.map_cons,List.length_cons,List.length_nil,List.map_nil]
 congr 1
 rw[List.take_left' (by simp),←List.drop_drop,List.drop_left' (by simp)]
 simp
theorem uS (a d:Nat) (BG:0<d) (hd:d<1000000000) (ha:(aC 1000000000 a).length<17592186044416):TC 238 [bO a,VI (d:Int)] (bO (a*d)):=by
 refine TC.walk ⟨true,false⟩ C5 rfl (Nat.le_of_ble_eq_true rfl) (by simp[aK,bU];rfl) (lE _) ?_
 have w0:IntKind.i64.wrap (((aC 1000000000 a).length:Int)+1)=(((aC 1000000000 a).length+1:Nat):Int):=wrapN _ (by omega) (by omega)
 have mk:xY [.int .i64 0] 8 (VI 0) (VI (((aC 1000000000 a).length+1:Nat):Int)) []=some (.ref 0 0 0 0 ((aC 1000000000 a).length+1),[.row 0 ((([]:List Nat)++List.replicate ((aC 1000000000 a).length+1-0) 0).map tV) 1 true]):=by
  simp only[xY]
  rw[if_pos ⟨by omega,by omega,by omega,by omega⟩]
  simp
  rfl
 simp only[yG,vX,cI,w0,mk,VX,Nat.reduceEqDiff,Nat.reduceAdd]
 refine bB (fun(s:Nat×List Nat×Nat) ρ H=>s.1=s.2.1.length∧s.1≤(aC 1000000000 a).length∧H=[.row 0 ((s.2.1++List.replicate ((aC 1000000000 a).length+1-s.1) 0).map tV) 1 true]∧s.2.2<d∧aC 1000000000 (a*d)=s.2.1++aC 1000000000 (a / 1000000000^s.1*d+s.2.2) ∧
  ρ 1=VI d∧ρ 5 = .ref 0 0 0 s.1 ((aC 1000000000 a).length+1)∧ρ 6=VI s.2.2∧ρ 14=bO a∧ρ 15=VI (aC 1000000000 a).length∧ρ 16=VI s.1) (fun s=>(aC 1000000000 a).length-s.1) (0,[],0) ⟨rfl,Nat.zero_le _,rfl,BG,by simp,rfl,rfl,rfl,rfl,rfl,rfl⟩ ?_
 rintro⟨i,outs,c⟩ ρ H ⟨hi,Hn,rfl,hc,hv,g1,g5,g6,g14,g15,g16⟩
 simp only at hi Hn hc hv g5 g6 g16
 by_cases cX:(i:Int)<((aC 1000000000 a).length:Int)
 ·have hx:=IN (b:=1000000000) (by decide) (n:=a) (i:=i) (by omega)
  have hA:=(BN (b:=1000000000) (by decide) (n:=a) (i:=i)).1 (by omega)
  have e1:∀H,bE 1 (bO a) (VI i) H=some (.cO (tV (a / 1000000000^i % 1000000000)) 0):=fun H=>aP (f:=tV) (t := .op) (size:=1) (k := .i64) hx rfl
  have lx:=Nat.mod_lt (a / 1000000000^i) (show 0<1000000000 by decide)
  have eW:a / 1000000000^i*d+c≠0:=by
   have:=Nat.mul_ne_zero hA (show d≠0 by omega)
   omega
  rw[SZ (by decide) eW,←pT] at hv
  generalize a / 1000000000^i % 1000000000=x at *
  have hxd:x*d≤999999999*999999999:=Nat.mul_le_mul (by omega) (by omega)
  have w1:IntKind.i64.wrap ((x:Int)*(d:Int))=((x*d:Nat):Int):=wrapN _ (by simp) (by omega)
  have w2:IntKind.i64.wrap (((x*d:Nat):Int)+(c:Int))=((x*d+c:Nat):Int):=wrapN _ (by omega) (by omega)
  have wi:IntKind.i64.wrap ((i:Int)+1)=((i+1:Nat):Int):=wrapN (i+1) (by omega) (by omega)
  have r1:=Kf (x*d+c)
  have q1:=KI (x*d+c) (by omega)
  have a1:=U1 (outs:=outs) (n:=i) (cap:=(aC 1000000000 a).length+1) (x:=(x*d+c) % 1000000000) hi (by omega)
  have hq:(x*d+c) / 1000000000<d:=by
   rw[Nat.div_lt_iff_lt_mul (by decide)]
   have h1:x*d≤999999999*d:=Nat.mul_le_mul_right _ (by omega)
   omega
  simp only[jU,g1,g5,g6,g14,g15,g16,cX,e1,w1,w2,wi,r1,q1,qO,sB,a1,VX,Nat.reduceEqDiff,Nat.reduceAdd]
  refine⟨(i+1,outs++[(x*d+c) % 1000000000],(x*d+c) / 1000000000),by simp only;omega,by simp;omega,by simp only;omega,rfl,hq,by rw[hv,List.append_assoc];rfl,?_⟩
  try (repeat' apply And.intro)<;>first | rfl | trivial
 ·have qW:i=(aC 1000000000 a).length:=by omega
  have hz:a / 1000000000^i=0:=by
   have:=mt (BN (b:=1000000000) (by decide) (n:=a) (i:=i)).2
   omega
  rw[hz,Nat.zero_mul,Nat.zero_add] at hv
  by_cases hcp:(0:Int)<(c:Int)
  ·rw[BD (b:=1000000000) (by decide) (show c≠0 by omega) (show c<1000000000 by omega)] at hv
   have a1:=U1 (outs:=outs) (n:=i) (cap:=(aC 1000000000 a).length+1) (x:=c) hi (by omega)
   simp only[jU,g1,g5,g6,g14,g15,g16,cX,hcp,qO,sB,a1,VX,Nat.reduceEqDiff,Nat.reduceAdd]
   rw[bO,hv]
   rw[Hx cE (by simp;omega) (by omega) (dY fun _=>rfl)]
   rw[List.map_append,List.take_left' (by simp;omega)]
  ·have hc0:c=0:=by omega
   rw[hc0,bR,List.append_nil] at hv
   simp only[jU,g1,g5,g6,g14,g15,g16,cX,hcp,VX,Nat.reduceEqDiff,Nat.reduceAdd]
   rw[bO,hv]
   rw[Hx cE (by simp;omega) (by omega) (dY fun _=>rfl)]
   rw[List.map_append,List.take_left' (by simp;omega)]
theorem Hs (a b:Nat) (ha:a≤9223372036854775807) (hb:0<b):cU .quo (.int .i64 (a:Int)) (.int .i64 (b:Int))=some (.int .i64 ((a / b:Nat):Int)):=by
 have h1:¬((b:Int)=0):=by omega
 have h2:(a:Int).tdiv (b:Int)=((a / b:Nat):Int):=by rw[Int.tdiv_eq_ediv_of_nonneg (by omega)];simp
 have h3:a / b≤a:=Nat.div_le_self _ _
 simp only[cU,if_true,h1,if_false,h2]
 generalize a / b=q at *
 rw[wrap64 (by omega) (by omega)]
theorem HN (a b:Nat) (hb:0<b):cU .rem (.int .i64 (a:Int)) (.int .i64 (b:Int))=some (.int .i64 ((a % b:Nat):Int)):=by
 have h1:¬((b:Int)=0):=by omega
 have h2:(a:Int).tmod (b:Int)=((a % b:Nat):Int):=by rw[Int.tmod_eq_emod_of_nonneg (by omega)];simp
 simp only[cU,if_true,h1,if_false,h2]
theorem Wv {r d x:Nat} (hr:r<d) (hd:d<1000000000) (hx:x<1000000000):r*1000000000+x≤9223372036854775807:=by omega
theorem aaT {r d x:Nat} (BG:0<d) (hr:r<d) (hx:x<1000000000):(r*1000000000+x) / d<1000000000:=by
 rw[Nat.div_lt_iff_lt_mul BG]
 omega
theorem vC (a d:Nat) (BG:0<d) (hdT:d<1000000000) (ha:(aC 1000000000 a).length≤17592186044416):TC 237 [bO a,VI (d:Int)] (.eK [bO (a / d),VI ((a % d:Nat):Int)]):=by
 refine TC.walk ⟨true,false⟩ Df rfl (Nat.le_of_ble_eq_true rfl) (by simp[aK,bU];rfl) (by simp[gH,pF,lE,lL]) ?_
 have va:=bW (b:=1000000000) (by decide) a
 have la:=eE (b:=1000000000) (by decide) a
 unfold bO
 generalize aC 1000000000 a=xs at *
 have w0:IntKind.i64.wrap ((xs.length:Int)-1)=(xs.length:Int)-1:=wrap64 (by omega) (by omega)
 simp only[xX,vV,dZ,w0,Lu xs.length (by omega),VX,Nat.reduceEqDiff,Nat.reduceAdd]
 refine bB (fun(s:Nat×List Nat×Nat) ρ H=>s.1≤xs.length∧H=[.row 0 (s.2.1.map tV) 1 true]∧s.2.1.length=xs.length∧(∀d∈s.2.1,d<1000000000)∧s.2.2<d∧val 1000000000 (s.2.1.drop s.1)*d+s.2.2=val 1000000000 (xs.drop s.1) ∧
  ρ 0=gB xs∧ρ 1=VI d∧ρ 6 = .ref 0 0 0 xs.length xs.length∧ρ 7=VI s.2.2∧ρ 8=VI ((s.1:Int)-1)) (fun s=>s.1) (xs.length,List.replicate xs.length 0,0) ⟨Nat.le_refl _,rfl,by simp,xL (by decide) _,BG,by simp[val,List.drop_replicate],rfl,rfl,rfl,rfl,rfl⟩ ?_
 rintro⟨j,outs,r⟩ ρ H ⟨hj,rfl,iC,jS,hr,hv,g0,g1,g6,g7,g8⟩
 simp only at hj iC jS hr hv g7 g8
 by_cases hz:(0:Int)≤(j:Int)-1
 ·obtain⟨i,rfl⟩:∃i,j=i+1:=⟨j-1,by omega⟩
  obtain⟨x,hx⟩:∃x,xs[i]? = some x:=⟨_,List.getElem?_eq_getElem (by omega)⟩
  have lx:=la x (List.mem_of_getElem? hx)
  have JD:((i+1:Nat):Int)-1=(i:Int):=by omega
  rw[JD] at g8 hz
  have e1:=aP (f:=tV) (t := .op) (H:=[.row 0 (outs.map tV) 1 true]) (size:=1) (k := .i64) hx rfl
  have e3:bE 1 (.ref 0 0 0 xs.length xs.length) (VI i) [.row 0 (outs.map tV) 1 true]=some (.ptr 0 0 i 0):=adT (by omega)
  have e4:∀s:Nat,dC 0 1 (.ptr 0 0 i 0) (VI (s:Int)) [.row 0 (outs.map tV) 1 true]=some [.row 0 ((outs.set i s).map tV) 1 true]:=fun s=>LD (by omega)
  have w2:IntKind.i64.wrap ((i:Int)-1)=(i:Int)-1:=wrap64 (by omega) (by omega)
  have w4:IntKind.i64.wrap ((r:Int)*1000000000)=((r*1000000000:Nat):Int):=wrapN _ (by omega) (by omega)
  have w5:IntKind.i64.wrap (((r*1000000000:Nat):Int)+(x:Int))=((r*1000000000+x:Nat):Int):=wrapN _ (by omega) (by omega)
  have Cn:r*1000000000+x≤9223372036854775807:=Wv hr hdT lx
  have q1:=Hs (r*1000000000+x) d Cn BG
  have q2:=HN (r*1000000000+x) d BG
  have hq:(r*1000000000+x) / d<1000000000:=aaT BG hr lx
  simp only[nO,g0,g1,g6,g7,g8,hz,e1,e3,e4,w2,w4,w5,q1,q2,VX,Nat.reduceEqDiff,Nat.reduceAdd]
  refine⟨(i,outs.set i ((r*1000000000+x) / d),(r*1000000000+x) % d),by simp only;omega,by omega,rfl,by rw[List.length_set];exact iC,jZ jS hq,Nat.mod_lt _ BG,?_,by (repeat' apply And.intro)<;>first | rfl | trivial⟩
  have h1:=Nat.mod_add_div (r*1000000000+x) d
  rw[set_drop (by omega),qF,pS hx,←hv]
  exact Pj h1
 ·have PT:j=0:=by omega
  subst PT
  rw[List.drop_zero,List.drop_zero,va] at hv
  have h1:a / d=val 1000000000 outs:=by
   rw[←hv,Nat.mul_comm,Nat.mul_add_div BG,Nat.div_eq_of_lt hr,Nat.add_zero]
  have h2:a % d=r:=by
   rw[←hv,Nat.mul_comm,Nat.mul_add_mod,Nat.mod_eq_of_lt hr]
  simp only[nO,g0,g1,g6,g7,g8,hz,VX,Nat.reduceEqDiff,Nat.reduceAdd]
  refine E4 (m:=a / d) jS iC.symm (by omega) h1.symm ?_
  simp only[g7,VX,Nat.reduceEqDiff,Nat.reduceAdd]
  rw[h2]
  exact aI (by simp[aW,aK,vR,bO,lL])
end Go.PM
namespace Go.PM
section
variable {H:aB} {b g o i lo d:Nat} {L R:List VV} {low:List Nat}
theorem Wk (hr:aV H b g=some (L++low.map tV++R,1,true)) (ho:L.length=o) (hi:low[i]? = some d):gM false 1 (.ptr b g (o+i) 0) H=some (VI (d:Int)):=by
 have aX:=(List.getElem?_eq_some_iff.1 hi).1
 rw[Mu hr (x:=tV d) (by rw[Mm ho (by simpa using aX)];simp[hi])]
 rfl
theorem V6 (hr:aV H b g=some (L++low.map tV++R,1,true)) (ho:L.length=o) (hi:i<low.length) (gV:lo≤b):dC lo 1 (.ptr b g (o+i) 0) (VI (d:Int)) H=some (H.set b (.row g (L++(low.set i d).map tV++R) 1 true)):=by
 rw[CY hr (by simp only[List.length_append,List.length_map];omega) gV rfl rfl,RX ho (by simpa using hi),List.map_set]
theorem QI {n:Nat} {z:Int} (hr:aV H b g=some (L++low.map tV++VI z::R,1,true)) (ho:L.length=o) (hn:low.length=n):gM false 1 (.ptr b g (o+n) 0) H=some (VI z):=by
 rw[Mu hr (x:=VI z) (by rw[List.getElem?_append_right (by simp;omega)];simp[ho,hn])]
 rfl
theorem WG {n:Nat} {z z':Int} (hr:aV H b g=some (L++low.map tV++VI z::R,1,true)) (ho:L.length=o) (hn:low.length=n) (gV:lo≤b):dC lo 1 (.ptr b g (o+n) 0) (VI z') H=some (H.set b (.row g (L++low.map tV++VI z'::R) 1 true)):=by
 rw[CY hr (by simp only[List.length_append,List.length_map,List.length_cons];omega) gV rfl rfl,List.set_append_right _ _ (by simp;omega)]
 congr 5
 simp[ho,hn]
end
theorem MO {P A N B c u x t r k m q T:Nat} (h:A+P*c=N+t*B) (h1:r+m+c=u+T*k) (h2:m+T*q=x*t):(A+P*u)+P*T*(q+k)=(N+P*r)+t*(B+P*x):=by
 have e1:P*(r+m+c)=P*(u+T*k):=by rw[h1]
 have e2:P*(m+T*q)=P*(x*t):=by rw[h2]
 grind
theorem V7 {x t:Nat} (hx:x<1000000000) (ht:t<1000000000):x*t≤999999998000000001∧x*t / 1000000000≤999999998:=by
 have h:x*t≤999999999*999999999:=Nat.mul_le_mul (by omega) (by omega)
 omega
theorem TL {H:aB} {lo b g o n N t top:Nat} {L R:List VV} {low vs:List Nat} (hr:aV H b g=some (L++low.map tV++VI (top:Int)::R,1,true)) (gV:lo≤b) (ho:L.length=o) (hl:low.length=n) (CV:vs.length=n) (hN:o+n<N) (A2:N≤70368744177664)
  (Wh:∀d∈low,d<1000000000) (DU:∀d∈vs,d<1000000000) (ht:t<1000000000) (U7:top<1000000000) :
  vN 239 [.ref b g 0 N N,gB vs,VI (o:Int),VI (t:Int)] lo H fun r H'=>∃(xU:List Nat) (c:Nat),H'=H.set b (.row g (L++xU.map tV++VI ((top:Int)-(c:Int))::R) 1 true)∧xU.length=n∧(∀d∈xU,d<1000000000)∧c≤1000000000 ∧
   r=VB (decide ((top:Int)-(c:Int)<0))∧val 1000000000 low+1000000000^n*c=val 1000000000 xU+t*val 1000000000 vs:=by
 refine vN.walk ⟨true,false⟩ DW (Nat.le_of_ble_eq_true rfl) ?_
 have rd:∀(s:List Nat) (z:Int),aV (H.set b (.row g (L++s.map tV++VI z::R) 1 true)) b g=some (L++s.map tV++VI z::R,1,true):=fun s z=>lF hr
 have ad:∀(K:aB) (es:List VV) (i:Nat),aV K b g=some (es,1,true)→i≤n→bE 1 (.ref b g 0 N N) (VI ((o+i:Nat):Int)) K=some (.ptr b g (o+i) 0):=fun K es i h hi=>by rw[bD h (by omega),Nat.zero_add]
 simp only[Ar,wI,dZ,VX,Nat.reduceEqDiff,Nat.reduceAdd]
 refine bB (fun(u:Nat×List Nat×Nat) ρ K=>u.1≤n∧K=H.set b (.row g (L++u.2.1.map tV++VI (top:Int)::R) 1 true)∧u.2.1.length=n∧(∀d∈u.2.1,d<1000000000)∧u.2.2≤1000000000∧val 1000000000 (low.take u.1)+1000000000^u.1*u.2.2=val 1000000000 (u.2.1.take u.1)+t*val 1000000000 (vs.take u.1)∧(∀j,u.1≤j→u.2.1[j]? = low[j]?) ∧
  ρ 0 = .ref b g 0 N N∧ρ 1=gB vs∧ρ 2=VI o∧ρ 3=VI t∧ρ 9=VI u.2.2∧ρ 13=gB vs∧ρ 14=VI vs.length∧ρ 15=VI u.1) (fun u=>n-u.1) (0,low,0) ⟨Nat.zero_le _,(tE hr).symm,hl,Wh,by simp,by simp[val],fun _ _=>rfl,by (repeat' apply And.intro)<;>first | rfl | trivial⟩ ?_
 rintro⟨i,outs,c⟩ ρ K ⟨hi,rfl,iC,jS,hc,hv,Dx,k0,k1,k2,k3,k9,yZ,AF,Hv⟩
 simp only at hi iC jS hc hv Dx k9 Hv
 by_cases cX:(i:Int)<(vs.length:Int)
 ·obtain⟨u,hu⟩:∃u,outs[i]? = some u:=⟨_,List.getElem?_eq_getElem (by omega)⟩
  have lu:=jS u (List.mem_of_getElem? hu)
  have hu':low[i]? = some u:=by rw[←Dx i (Nat.le_refl _)];exact hu
  obtain⟨x,hx⟩:∃x,vs[i]? = some x:=⟨_,List.getElem?_eq_getElem (by omega)⟩
  have lx:=DU x (List.mem_of_getElem? hx)
  obtain⟨xt1,xt2⟩:=V7 lx ht
  have e1:bE 1 (gB vs) (VI i) (H.set b (.row g (L++outs.map tV++VI (top:Int)::R) 1 true))=some (.cO (tV x) 0):=aP (f:=tV) (t := .op) (size:=1) (k := .i64) hx rfl
  have w1:IntKind.i64.wrap ((o:Int)+(i:Int))=((o+i:Nat):Int):=wrapN _ (by omega) (by omega)
  have e2:=ad _ _ i (rd outs top) (by omega)
  have e3:=Wk (rd outs top) ho hu
  have e4:∀d:Nat,dC lo 1 (.ptr b g (o+i) 0) (VI (d:Int)) (H.set b (.row g (L++outs.map tV++VI (top:Int)::R) 1 true))=some (H.set b (.row g (L++(outs.set i d).map tV++VI (top:Int)::R) 1 true)):=fun d=>by rw[V6 (rd outs top) ho (by omega) gV,kL]
  have w2:IntKind.i64.wrap ((x:Int)*(t:Int))=((x*t:Nat):Int):=wrapN _ (by simp) (by omega)
  have r1:=Kf (x*t)
  have q1:=KI (x*t) (by omega)
  have hm:=Nat.mod_lt (x*t) (show 0<1000000000 by decide)
  have hdv:=Nat.mod_add_div (x*t) 1000000000
  have wi:IntKind.i64.wrap ((i:Int)+1)=((i+1:Nat):Int):=wrapN (i+1) (by omega) (by omega)
  generalize hmq:x*t % 1000000000=m at *
  generalize hqq:x*t / 1000000000=q at *
  have w3:IntKind.i64.wrap ((u:Int)-(m:Int))=(u:Int)-(m:Int):=wrap64 (by omega) (by omega)
  have w4:IntKind.i64.wrap ((u:Int)-(m:Int)-(c:Int))=(u:Int)-(m:Int)-(c:Int):=wrap64 (by omega) (by omega)
  have step:∀r k:Nat,r<1000000000→r+m+c=u+1000000000*k→val 1000000000 (low.take (i+1))+1000000000^(i+1)*(q+k)=val 1000000000 ((outs.set i r).take (i+1))+t*val 1000000000 (vs.take (i+1))∧(∀d∈outs.set i r,d<1000000000)∧(∀j,i+1≤j→(outs.set i r)[j]? = low[j]?)∧(outs.set i r).length=n:=by
   intro r k hr hk
   refine⟨?_,jZ jS hr,fun j hj=>by rw[List.getElem?_set_ne (by omega)];exact Dx j (by omega),by rw[List.length_set];exact iC⟩
   rw[aS hu',aS hx,dG (by omega),Nat.pow_succ]
   exact MO hv hk hdv
  by_cases h1:(u:Int)-(m:Int)-(c:Int)<0
  ·have w5:IntKind.i64.wrap ((u:Int)-(m:Int)-(c:Int)+1000000000)=(u:Int)-(m:Int)-(c:Int)+1000000000:=wrap64 (by omega) (by omega)
   have w6:IntKind.i64.wrap ((q:Int)+1)=((q+1:Nat):Int):=wrapN _ (by omega) (by omega)
   by_cases h2:(u:Int)-(m:Int)-(c:Int)+1000000000<0
   ·obtain⟨r,hr⟩:∃r:Nat,r+m+c=u+1000000000*2:=⟨u+1000000000*2-m-c,by omega⟩
    have w7:IntKind.i64.wrap ((u:Int)-(m:Int)-(c:Int)+1000000000+1000000000)=(r:Int):=wrapN r (by omega) (by omega)
    have w8:IntKind.i64.wrap (((q+1:Nat):Int)+1)=((q+2:Nat):Int):=wrapN _ (by omega) (by omega)
    obtain⟨s1,s2,s3,s4⟩:=step r 2 (by omega) hr
    simp only[iR,k0,k1,k2,k3,k9,yZ,AF,Hv,cX,e1,e2,e3,e4,w1,w2,w3,w4,w5,w6,w7,w8,wi,r1,q1,h1,h2,VX,Nat.reduceEqDiff,Nat.reduceAdd]
    refine⟨(i+1,outs.set i r,q+2),by simp only;omega,by omega,rfl,s4,s2,by simp only;omega,s1,s3,?_⟩
    try (repeat' apply And.intro)<;>first | rfl | trivial
   ·obtain⟨r,hr⟩:∃r:Nat,r+m+c=u+1000000000*1:=⟨u+1000000000*1-m-c,by omega⟩
    have w7:IntKind.i64.wrap ((u:Int)-(m:Int)-(c:Int)+1000000000)=(r:Int):=wrapN r (by omega) (by omega)
    have h3:¬(r:Int)<0:=by omega
    obtain⟨s1,s2,s3,s4⟩:=step r 1 (by omega) hr
    simp only[iR,k0,k1,k2,k3,k9,yZ,AF,Hv,cX,e1,e2,e3,e4,w1,w2,w3,w4,w6,w7,wi,r1,q1,h1,h3,VX,Nat.reduceEqDiff,Nat.reduceAdd]
    refine⟨(i+1,outs.set i r,q+1),by simp only;omega,by omega,rfl,s4,s2,by simp only;omega,s1,s3,?_⟩
    try (repeat' apply And.intro)<;>first | rfl | trivial
  ·obtain⟨r,hr⟩:∃r:Nat,r+m+c=u+1000000000*0:=⟨u-m-c,by omega⟩
   have w7:IntKind.i64.wrap ((u:Int)-(m:Int)-(c:Int))=(r:Int):=wrapN r (by omega) (by omega)
   have h3:¬(r:Int)<0:=by omega
   obtain⟨s1,s2,s3,s4⟩:=step r 0 (by omega) hr
   simp only[iR,k0,k1,k2,k3,k9,yZ,AF,Hv,cX,e1,e2,e3,e4,w1,w2,w3,w7,wi,r1,q1,h3,VX,Nat.reduceEqDiff,Nat.reduceAdd]
   refine⟨(i+1,outs.set i r,q),by simp only;omega,by omega,rfl,s4,s2,by simp only;omega,s1,s3,?_⟩
   try (repeat' apply And.intro)<;>first | rfl | trivial
 ·have qW:i=n:=by omega
  subst qW
  rw[List.take_of_length_le (by omega),List.take_of_length_le (by omega),List.take_of_length_le (by omega)] at hv
  have w1:IntKind.i64.wrap ((o:Int)+(vs.length:Int))=((o+i:Nat):Int):=wrapN _ (by omega) (by omega)
  have e2:=ad _ _ i (rd outs top) (by omega)
  have e2':=ad _ _ i (rd outs ((top:Int)-(c:Int))) (by omega)
  have e3:=QI (rd outs top) ho iC
  have e3':=QI (rd outs ((top:Int)-(c:Int))) ho iC
  have e4:dC lo 1 (.ptr b g (o+i) 0) (VI ((top:Int)-(c:Int))) (H.set b (.row g (L++outs.map tV++VI (top:Int)::R) 1 true))=some (H.set b (.row g (L++outs.map tV++VI ((top:Int)-(c:Int))::R) 1 true)):=by rw[WG (rd outs top) ho iC gV,kL]
  have w2:IntKind.i64.wrap ((top:Int)-(c:Int))=(top:Int)-(c:Int):=wrap64 (by omega) (by omega)
  simp only[iR,k0,k1,k2,k3,k9,yZ,AF,Hv,cX,dZ,w1,w2,e2,e2',e3,e3',e4,VX,Nat.reduceEqDiff,Nat.reduceAdd]
  refine⟨outs,c,rfl,iC,jS,hc,?_,hv⟩
  try rfl
theorem S7 {H:aB} {lo b g o n N:Nat} {z:Int} {L R:List VV} {low vs:List Nat} (hr:aV H b g=some (L++low.map tV++VI z::R,1,true)) (gV:lo≤b) (ho:L.length=o) (hl:low.length=n) (CV:vs.length=n) (hN:o+n<N) (A2:N≤70368744177664)
  (Wh:∀d∈low,d<1000000000) (DU:∀d∈vs,d<1000000000) (hz : -1000000000≤z) (Pq:z≤1000000000) :
  vN 240 [.ref b g 0 N N,gB vs,VI (o:Int)] lo H fun r H'=>∃(xU:List Nat) (c:Nat),H'=H.set b (.row g (L++xU.map tV++VI (z+(c:Int))::R) 1 true)∧xU.length=n∧(∀d∈xU,d<1000000000)∧c≤1 ∧
   val 1000000000 low+val 1000000000 vs=val 1000000000 xU+1000000000^n*c:=by
 refine vN.walk ⟨true,false⟩ DD (Nat.le_of_ble_eq_true rfl) ?_
 have rd:∀(s:List Nat) (z:Int),aV (H.set b (.row g (L++s.map tV++VI z::R) 1 true)) b g=some (L++s.map tV++VI z::R,1,true):=fun s z=>lF hr
 have ad:∀(K:aB) (es:List VV) (i:Nat),aV K b g=some (es,1,true)→i≤n→bE 1 (.ref b g 0 N N) (VI ((o+i:Nat):Int)) K=some (.ptr b g (o+i) 0):=fun K es i h hi=>by rw[bD h (by omega),Nat.zero_add]
 simp only[Aw,xB,dZ,VX,Nat.reduceEqDiff,Nat.reduceAdd]
 refine bB (fun(u:Nat×List Nat×Nat) ρ K=>u.1≤n∧K=H.set b (.row g (L++u.2.1.map tV++VI z::R) 1 true)∧u.2.1.length=n∧(∀d∈u.2.1,d<1000000000)∧u.2.2≤1∧val 1000000000 (low.take u.1)+val 1000000000 (vs.take u.1)=val 1000000000 (u.2.1.take u.1)+1000000000^u.1*u.2.2∧(∀j,u.1≤j→u.2.1[j]? = low[j]?) ∧
  ρ 0 = .ref b g 0 N N∧ρ 1=gB vs∧ρ 2=VI o∧ρ 6=VI u.2.2∧ρ 10=gB vs∧ρ 11=VI vs.length∧ρ 12=VI u.1) (fun u=>n-u.1) (0,low,0) ⟨Nat.zero_le _,(tE hr).symm,hl,Wh,by simp,by simp[val],fun _ _=>rfl,by (repeat' apply And.intro)<;>first | rfl | trivial⟩ ?_
 rintro⟨i,outs,c⟩ ρ K ⟨hi,rfl,iC,jS,hc,hv,Dx,k0,k1,k2,k6,Ul,Si,Gd⟩
 simp only at hi iC jS hc hv Dx k6 Gd
 by_cases cX:(i:Int)<(vs.length:Int)
 ·obtain⟨u,hu⟩:∃u,outs[i]? = some u:=⟨_,List.getElem?_eq_getElem (by omega)⟩
  have lu:=jS u (List.mem_of_getElem? hu)
  have hu':low[i]? = some u:=by rw[←Dx i (Nat.le_refl _)];exact hu
  obtain⟨x,hx⟩:∃x,vs[i]? = some x:=⟨_,List.getElem?_eq_getElem (by omega)⟩
  have lx:=DU x (List.mem_of_getElem? hx)
  have e1:bE 1 (gB vs) (VI i) (H.set b (.row g (L++outs.map tV++VI z::R) 1 true))=some (.cO (tV x) 0):=aP (f:=tV) (t := .op) (size:=1) (k := .i64) hx rfl
  have w1:IntKind.i64.wrap ((o:Int)+(i:Int))=((o+i:Nat):Int):=wrapN _ (by omega) (by omega)
  have e2:=ad _ _ i (rd outs z) (by omega)
  have e3:=Wk (rd outs z) ho hu
  have e4:∀d:Nat,dC lo 1 (.ptr b g (o+i) 0) (VI (d:Int)) (H.set b (.row g (L++outs.map tV++VI z::R) 1 true))=some (H.set b (.row g (L++(outs.set i d).map tV++VI z::R) 1 true)):=fun d=>by rw[V6 (rd outs z) ho (by omega) gV,kL]
  have w2:IntKind.i64.wrap ((u:Int)+(x:Int))=((u+x:Nat):Int):=wrapN _ (by omega) (by omega)
  have w3:IntKind.i64.wrap (((u+x:Nat):Int)+(c:Int))=((u+x+c:Nat):Int):=wrapN _ (by omega) (by omega)
  have r1:=Kf (u+x+c)
  have q1:=KI (u+x+c) (by omega)
  have wi:IntKind.i64.wrap ((i:Int)+1)=((i+1:Nat):Int):=wrapN (i+1) (by omega) (by omega)
  simp only[oT,k0,k1,k2,k6,Ul,Si,Gd,cX,e1,e2,e3,e4,w1,w2,w3,wi,r1,q1,VX,Nat.reduceEqDiff,Nat.reduceAdd]
  refine⟨(i+1,outs.set i ((u+x+c) % 1000000000),(u+x+c) / 1000000000),by simp only;omega,by omega,rfl,by rw[List.length_set];exact iC,jZ jS (Nat.mod_lt _ (by decide)),by simp only;omega,?_,fun j hj=>by rw[List.getElem?_set_ne (by omega)];exact Dx j (by omega),?_⟩
  ·simp only
   rw[aS hu',aS hx,dG (by omega),Nat.pow_succ]
   exact Du hv (show c+u+x=u+x+c by omega) (Nat.mod_add_div _ _)
  ·try (repeat' apply And.intro)<;>first | rfl | trivial
 ·have qW:i=n:=by omega
  subst qW
  rw[List.take_of_length_le (by omega),List.take_of_length_le (by omega),List.take_of_length_le (by omega)] at hv
  have w1:IntKind.i64.wrap ((o:Int)+(vs.length:Int))=((o+i:Nat):Int):=wrapN _ (by omega) (by omega)
  have e2:=ad _ _ i (rd outs z) (by omega)
  have e3:=QI (rd outs z) ho iC
  have e4:dC lo 1 (.ptr b g (o+i) 0) (VI (z+(c:Int))) (H.set b (.row g (L++outs.map tV++VI z::R) 1 true))=some (H.set b (.row g (L++outs.map tV++VI (z+(c:Int))::R) 1 true)):=by rw[WG (rd outs z) ho iC gV,kL]
  have w2:IntKind.i64.wrap (z+(c:Int))=z+(c:Int):=wrap64 (by omega) (by omega)
  simp only[oT,k0,k1,k2,k6,Ul,Si,Gd,cX,dZ,w1,w2,e2,e3,e4,VX,Nat.reduceEqDiff,Nat.reduceAdd]
  exact⟨outs,c,rfl,iC,jS,hc,hv⟩
end Go.PM
namespace Go.PM
abbrev H2 (us os:List Nat):aB:=[.row 0 (us.map tV) 1 true,.row 0 (os.map tV) 1 true]
theorem PG {us os:List Nat}:aV (H2 us os) 0 0=some (us.map tV,1,true):=rfl
theorem afA {us os:List Nat}:aV (H2 us os) 1 0=some (os.map tV,1,true):=rfl
theorem X7 {P a Z:Nat} {y:Int} (h:(a:Int)+(P:Int)*y=(Z:Int)) (ha:a<P) (hZ:Z<P):y=0∧a=Z:=by
 have hy:y=0:=by
  rcases Int.lt_trichotomy y 0 with h1 | h1 | h1
  ·have:(P:Int)*y≤(P:Int)*(-1):=Int.mul_le_mul_of_nonneg_left (by omega) (by omega)
   omega
  ·exact h1
  ·have:(P:Int)*1≤(P:Int)*y:=Int.mul_le_mul_of_nonneg_left (by omega) (by omega)
   omega
 subst hy
 rw[Int.mul_zero] at h
 exact⟨rfl,by omega⟩
theorem Qt {us:List Nat} {i n N V:Nat} (hN:us.length=N) (cX:i+n<N) (hd:∀d∈us,d<1000000000) (hV:V<1000000000^n) (As:val 1000000000 (us.drop (i+1))<V) :
  us=us.take i++(us.drop i).take (n+1)++us.drop (i+(n+1))∧(us.take i).length=i∧((us.drop i).take (n+1)).length=n+1∧val 1000000000 ((us.drop i).take (n+1))<1000000000*V∧val 1000000000 (us.drop i)=val 1000000000 ((us.drop i).take (n+1))∧val 1000000000 (us.drop (i+(n+1)))=0∧∀j,j<n+1→((us.drop i).take (n+1))[j]? = us[i+j]? := by
 obtain⟨x,hx⟩:∃x,us[i]? = some x:=⟨_,List.getElem?_eq_getElem (by omega)⟩
 have lx:=hd x (List.mem_of_getElem? hx)
 have h1:=pS (b:=1000000000) hx
 have h2:val 1000000000 (us.drop i)<1000000000*V:=by
  have:1000000000*(val 1000000000 (us.drop (i+1))+1)≤1000000000*V:=Nat.mul_le_mul_left _ As
  omega
 have h3:=nF (b:=1000000000) (us.drop i) (n+1)
 have h4:((us.drop i).take (n+1)).length=n+1:=by rw[List.length_take,List.length_drop];omega
 rw[h4,List.drop_drop] at h3
 have h5:val 1000000000 (us.drop (i+(n+1)))=0:=by
  rcases Nat.eq_zero_or_pos (val 1000000000 (us.drop (i+(n+1)))) with h | h
  ·exact h
  ·have h6:1000000000^(n+1)*1≤1000000000^(n+1)*val 1000000000 (us.drop (i+(n+1))):=Nat.mul_le_mul_left _ h
   have h7:1000000000*V≤1000000000^(n+1):=by rw[Nat.pow_succ,Nat.mul_comm];exact Nat.mul_le_mul_right _ (by omega)
   omega
 rw[h5,Nat.mul_zero,Nat.add_zero] at h3
 refine⟨?_,by rw[List.length_take];omega,h4,by omega,h3,h5,fun j hj => ?_⟩
 ·rw[List.append_assoc,←List.drop_drop,List.take_append_drop,List.take_append_drop]
 ·rw[List.getElem?_take_of_lt hj,List.getElem?_drop]
theorem leT {g:Nat} (h:(1000000000:Int)≤(g:Int)):1000000000≤g:=by omega
theorem Wu {g:Nat} (h:¬(1000000000:Int)≤(g:Int)):g<1000000000:=by omega
theorem ltC {a b:Nat} (h:(a:Int)<(b:Int)):a<b:=by omega
theorem alX {a b:Nat} (h:¬(a:Int)<(b:Int)):b≤a:=by omega
theorem Li {a:Nat} (h:a*1000000000≤9223372036854775807):IntKind.i64.wrap ((a:Int)*1000000000)=((a*1000000000:Nat):Int):=wrapN _ (by omega) h
theorem Ky {a b:Nat} (h:a+b≤9223372036854775807):IntKind.i64.wrap ((a:Int)+(b:Int))=((a+b:Nat):Int):=wrapN _ (by omega) h
theorem S5 {a b:Nat} (h:a*b≤9223372036854775807):IntKind.i64.wrap ((a:Int)*(b:Int))=((a*b:Nat):Int):=wrapN _ (by simp) h
theorem x17 {a:Nat} (h:a<1000000000):a*1000000000≤9223372036854775807:=by omega
theorem x18 {a b:Nat} (h:a<1000000000) (hb:b<1000000000):a*1000000000+b≤1000000000000000000:=by omega
theorem Oj {gE vs us os:List Nat} {n u2 u1 u0 v1 v0 N i g left:Nat} (G:tC 1000000000 gE vs n u2 u1 u0 v1 v0) {ρ:cP} {Q:VQ} (hN:us.length=N) (hiN:i+(n+2)<N) (A2:N≤70368744177664) (YP:us[i+n]? = some u0)
  (g13:ρ 13 = .ref 0 0 0 N N) (g14:ρ 14=gB vs) (g15:ρ 15=VI ((n+2:Nat):Int)) (g17:ρ 17=VI i) (g19:ρ 19=VI g) (g20:ρ 20=VI left) (hh:u2*1000000000+u1=g*v1+left) (hq:val 1000000000 gE / val 1000000000 vs≤g) (hl:left<1000000000) (hgb:g≤1000000000000000000)
  (hQ:∀(aU:cP) (g':Nat),val 1000000000 gE / val 1000000000 vs≤g'→g'≤val 1000000000 gE / val 1000000000 vs+1→g'<1000000000→aU 19=VI g'→aU 12=ρ 12→aU 13=ρ 13→aU 14=ρ 14→aU 15=ρ 15→aU 16=ρ 16→aU 17=ρ 17→Q (.exit 2) aU (H2 us os)) :
  VW ⟨true,false⟩ 0 (.loop fF) Q ρ (H2 us os):=by
 have lv1:=G.Sc
 have lv0:=G.Xp
 have lu0:=G.Y9
 have qlt:=G.YR
 have jO:=G.pos
 have CV:=G.I2
 refine bB (fun(t:Nat×Nat) aU H=>H=H2 us os∧u2*1000000000+u1=t.1*v1+t.2∧val 1000000000 gE / val 1000000000 vs≤t.1∧t.2<1000000000∧t.1≤1000000000000000000 ∧
  aU 13 = .ref 0 0 0 N N∧aU 14=gB vs∧aU 15=VI ((n+2:Nat):Int)∧aU 17=VI i∧aU 19=VI t.1∧aU 20=VI t.2∧aU 12=ρ 12∧aU 16=ρ 16) (fun t=>1000000000-t.2) (g,left) ⟨rfl,hh,hq,hl,hgb,g13,g14,g15,g17,g19,g20,rfl,rfl⟩ ?_
 rintro⟨g,left⟩ Kh H ⟨rfl,hh,hq,hl,hgb,yZ,AF,Hv,EJ,XL,k20,Gd,XF⟩
 simp only at hh hq hl hgb XL k20
 have f1:bE 1 (gB vs) (VI ((n+1:Nat):Int)) (H2 us os)=some (.cO (tV v1) 0):=aP (f:=tV) (t := .op) (size:=1) (k := .i64) G.f1 rfl
 have f0:bE 1 (gB vs) (VI (n:Int)) (H2 us os)=some (.cO (tV v0) 0):=aP (f:=tV) (t := .op) (size:=1) (k := .i64) G.f0 rfl
 have wn2:IntKind.i64.wrap (((n+2:Nat):Int)-2)=(n:Int):=wrapN _ (by omega) (by omega)
 have wn1:IntKind.i64.wrap (((n+2:Nat):Int)-1)=((n+1:Nat):Int):=wrapN _ (by omega) (by omega)
 have wi:IntKind.i64.wrap ((i:Int)+((n+2:Nat):Int))=((i+(n+2):Nat):Int):=wrapN _ (by omega) (by omega)
 have wi2:IntKind.i64.wrap (((i+(n+2):Nat):Int)-2)=((i+n:Nat):Int):=wrapN _ (by omega) (by omega)
 have e1:bE 1 (.ref 0 0 0 N N) (VI ((i+n:Nat):Int)) (H2 us os)=some (.ptr 0 0 (i+n) 0):=by rw[bD PG (by omega),Nat.zero_add]
 have e2:gM false 1 (.ptr 0 0 (i+n) 0) (H2 us os)=some (VI (u0:Int)):=HU PG YP
 have wl:IntKind.i64.wrap ((left:Int)+(v1:Int))=((left+v1:Nat):Int):=wrapN _ (by omega) (by omega)
 have down:val 1000000000 gE / val 1000000000 vs<g→∃g',g=g'+1∧IntKind.i64.wrap ((g:Int)-1)=(g':Int)∧u2*1000000000+u1=g'*v1+(left+v1)∧val 1000000000 gE / val 1000000000 vs≤g':=by
  intro h
  have Za:1≤g:=Nat.lt_of_le_of_lt (Nat.zero_le _) h
  obtain⟨g',rfl⟩:∃g',g=g'+1:=⟨g-1,by omega⟩
  refine⟨g',rfl,wrapN _ (by omega) (by omega),?_,by omega⟩
  rw[hh,Nat.add_mul]
  omega
 have hmu:∀g':Nat,left+v1<1000000000→1000000000-(g',left+v1).2<1000000000-(g,left).2:=fun g' h=>by
  show 1000000000-(left+v1)<1000000000-left
  omega
 have hle:∀g':Nat,g=g'+1→g'≤1000000000000000000:=fun g' h=>by
  omega
 have alP:left*1000000000+u0≤9223372036854775807:=Nat.le_trans (x18 hl lu0) (by decide)
 have amS:left*1000000000≤9223372036854775807:=x17 hl
 have ws:IntKind.i64.wrap ((left:Int)*1000000000)=((left*1000000000:Nat):Int):=Li amS
 have wa:IntKind.i64.wrap (((left*1000000000:Nat):Int)+(u0:Int))=((left*1000000000+u0:Nat):Int):=Ky alP
 obtain⟨s13,s14,s15,s17⟩:Kh 13=ρ 13∧Kh 14=ρ 14∧Kh 15=ρ 15∧Kh 17=ρ 17:=⟨by rw[yZ,g13],by rw[AF,g14],by rw[Hv,g15],by rw[EJ,g17]⟩
 by_cases hA:(1000000000:Int)≤(g:Int)
 ·have hA':=leT hA
  obtain⟨g',UU,wg,Qy,JX⟩:=down (Nat.lt_of_lt_of_le qlt hA')
  by_cases hB:(1000000000:Int)≤((left+v1:Nat):Int)
  ·obtain⟨c1,c2⟩:=G.broken Qy (leT hB)
   simp only[fF,yZ,AF,Hv,EJ,XL,k20,hA,hB,f1,wn1,wg,wl,VX,Nat.reduceEqDiff,Nat.reduceAdd]
   exact hQ _ g' JX (G.Tk Qy (Nat.le_of_lt c1) c2) c1 rfl Gd s13 s14 s15 XF s17
  ·simp only[fF,yZ,AF,Hv,EJ,XL,k20,hA,hB,f1,wn1,wg,wl,VX,Nat.reduceEqDiff,Nat.reduceAdd]
   refine⟨(g',left+v1),hmu g' (Wu hB),Qy,JX,Wu hB,hle g' UU,?_⟩
   exact⟨rfl,rfl,Gd,XF⟩
 ·have hA':=Wu hA
  have hgv:g*v0≤999999999*999999999:=Nat.mul_le_mul (Nat.le_of_lt_succ hA') (Nat.le_of_lt_succ lv0)
  have wm:IntKind.i64.wrap ((g:Int)*(v0:Int))=((g*v0:Nat):Int):=S5 (Nat.le_trans hgv (by decide))
  by_cases hT:((left*1000000000+u0:Nat):Int)<((g*v0:Nat):Int)
  ·obtain⟨g',UU,wg,Qy,JX⟩:=down (G.too hh (ltC hT))
   by_cases hB:(1000000000:Int)≤((left+v1:Nat):Int)
   ·obtain⟨c1,c2⟩:=G.broken Qy (leT hB)
    simp only[fF,yZ,AF,Hv,EJ,XL,k20,hA,hB,hT,f1,f0,e1,e2,wn1,wn2,wi,wi2,ws,wa,wm,wg,wl,VX,Nat.reduceEqDiff,Nat.reduceAdd]
    exact hQ _ g' JX (G.Tk Qy (Nat.le_of_lt c1) c2) c1 rfl Gd s13 s14 s15 XF s17
   ·simp only[fF,yZ,AF,Hv,EJ,XL,k20,hA,hB,hT,f1,f0,e1,e2,wn1,wn2,wi,wi2,ws,wa,wm,wg,wl,VX,Nat.reduceEqDiff,Nat.reduceAdd]
    refine⟨(g',left+v1),hmu g' (Wu hB),Qy,JX,Wu hB,hle g' UU,?_⟩
    exact⟨rfl,rfl,Gd,XF⟩
  ·simp only[fF,yZ,AF,Hv,EJ,XL,k20,hA,hT,f0,e1,e2,wn2,wi,wi2,ws,wa,wm,VX,Nat.reduceEqDiff,Nat.reduceAdd]
   exact hQ _ g hq (G.Tk hh (Nat.le_of_lt hA') (alX hT)) hA' XL Gd s13 s14 s15 XF s17
theorem KB {Ci Uo vs:List Nat} {N m n v1 v0 A s:Nat} {ρ:cP} {Q:VQ} (hN:Ci.length=N) (hm:m+(n+2)=N) (A2:N≤70368744177664) (F8:∀d∈Ci,d<1000000000) (CV:vs.length=n+2) (DU:∀d∈vs,d<1000000000) (f1:vs[n+1]? = some v1) (f0:vs[n]? = some v0) (jO:1≤v1)
  (hA:val 1000000000 Ci=A) (As:val 1000000000 (Ci.drop m)<val 1000000000 vs) (iC:Uo.length=m) (jS:∀d∈Uo,d<1000000000)
  (g12:ρ 12=VI s) (g13:ρ 13 = .ref 0 0 0 N N) (g14:ρ 14=gB vs) (g15:ρ 15=VI ((n+2:Nat):Int)) (g16:ρ 16 = .ref 1 0 0 m m) (g17:ρ 17=VI ((m:Int)-1))
  (hQ:∀(aU:cP) (us os:List Nat),aU 12=VI s→aU 13 = .ref 0 0 0 N N→aU 16 = .ref 1 0 0 m m→us.length=N→(∀d∈us,d<1000000000)→os.length=m→(∀d∈os,d<1000000000)→val 1000000000 us+val 1000000000 vs*val 1000000000 os=A→val 1000000000 us<val 1000000000 vs→Q (.exit 0) aU (H2 us os)) :
  VW ⟨true,false⟩ 0 (.loop gP) Q ρ (H2 Ci Uo):=by
 have hVb:=mT DU
 rw[CV] at hVb
 refine bB (fun(t:Nat×List Nat×List Nat) aU H=>t.1≤m∧H=H2 t.2.1 t.2.2∧t.2.1.length=N∧(∀d∈t.2.1,d<1000000000)∧t.2.2.length=m∧(∀d∈t.2.2,d<1000000000)∧val 1000000000 (t.2.1.drop t.1)<val 1000000000 vs∧val 1000000000 t.2.1+1000000000^t.1*val 1000000000 vs*val 1000000000 (t.2.2.drop t.1)=A ∧
  aU 12=VI s∧aU 13 = .ref 0 0 0 N N∧aU 14=gB vs∧aU 15=VI ((n+2:Nat):Int)∧aU 16 = .ref 1 0 0 m m∧aU 17=VI ((t.1:Int)-1)) (fun t=>t.1) (m,Ci,Uo) ⟨Nat.le_refl _,rfl,hN,F8,iC,jS,As,by rw[List.drop_of_length_le (by simp only;omega)];simpa[val] using hA,g12,g13,g14,g15,g16,g17⟩ ?_
 rintro⟨j,us,os⟩ Kh H ⟨hj,rfl,MQ,F8,iC,jS,aX,hv,Gd,yZ,AF,Hv,XF,EJ⟩
 simp only at hj MQ F8 iC jS aX hv EJ
 by_cases hz:(0:Int)≤(j:Int)-1
 ·obtain⟨i,rfl⟩:∃i,j=i+1:=⟨j-1,by omega⟩
  have JD:((i+1:Nat):Int)-1=(i:Int):=by omega
  rw[JD] at EJ hz
  obtain⟨Q3,Az,MC,hsW,W8,WW,wC⟩:=Qt (n:=n+2) MQ (by omega) F8 hVb aX
  generalize TY:(us.drop i).take (n+2+1)=gE at *
  have LH:∀d∈gE,d<1000000000:=fun d hd=>by rw[←TY] at hd;exact F8 d (List.mem_of_mem_drop (List.mem_of_mem_take hd))
  obtain⟨u2,Zl⟩:∃u2,us[i+(n+2)]? = some u2:=⟨_,List.getElem?_eq_getElem (by omega)⟩
  obtain⟨u1,Xx⟩:∃u1,us[i+(n+1)]? = some u1:=⟨_,List.getElem?_eq_getElem (by omega)⟩
  obtain⟨u0,YP⟩:∃u0,us[i+n]? = some u0:=⟨_,List.getElem?_eq_getElem (by omega)⟩
  have G:tC 1000000000 gE vs n u2 u1 u0 v1 v0:=⟨by decide,LH,DU,MC,CV,by rw[wC _ (by omega)];exact Zl,by rw[wC _ (by omega)];exact Xx,by rw[wC _ (by omega)];exact YP,f1,f0,jO,hsW⟩
  have lu2:=G.ZE
  have lu1:=G.VF
  have lv1:=G.Sc
  have qlt:=G.YR
  have E2:=G.E2
  have w1:IntKind.i64.wrap ((i:Int)+((n+2:Nat):Int))=((i+(n+2):Nat):Int):=wrapN _ (by omega) (by omega)
  have w2:IntKind.i64.wrap (((i+(n+2):Nat):Int)-1)=((i+(n+1):Nat):Int):=wrapN _ (by omega) (by omega)
  have wn1:IntKind.i64.wrap (((n+2:Nat):Int)-1)=((n+1:Nat):Int):=wrapN _ (by omega) (by omega)
  have ev1:bE 1 (gB vs) (VI ((n+1:Nat):Int)) (H2 us os)=some (.cO (tV v1) 0):=aP (f:=tV) (t := .op) (size:=1) (k := .i64) f1 rfl
  have e2:bE 1 (.ref 0 0 0 N N) (VI ((i+(n+2):Nat):Int)) (H2 us os)=some (.ptr 0 0 (i+(n+2)) 0):=by rw[bD PG (by omega),Nat.zero_add]
  have e1:bE 1 (.ref 0 0 0 N N) (VI ((i+(n+1):Nat):Int)) (H2 us os)=some (.ptr 0 0 (i+(n+1)) 0):=by rw[bD PG (by omega),Nat.zero_add]
  have l2:gM false 1 (.ptr 0 0 (i+(n+2)) 0) (H2 us os)=some (VI (u2:Int)):=HU PG Zl
  have l1:gM false 1 (.ptr 0 0 (i+(n+1)) 0) (H2 us os)=some (VI (u1:Int)):=HU PG Xx
  have ajD:u2*1000000000+u1≤1000000000000000000:=x18 lu2 lu1
  have akW:u2*1000000000≤9223372036854775807:=x17 lu2
  have afQ:u2*1000000000+u1≤9223372036854775807:=Nat.le_trans ajD (by decide)
  have ws2:IntKind.i64.wrap ((u2:Int)*1000000000)=((u2*1000000000:Nat):Int):=Li akW
  have wa:IntKind.i64.wrap (((u2*1000000000:Nat):Int)+(u1:Int))=((u2*1000000000+u1:Nat):Int):=Ky afQ
  have q1:=Hs (u2*1000000000+u1) v1 afQ jO
  have q2:=HN (u2*1000000000+u1) v1 jO
  simp only[gP,Gd,yZ,AF,Hv,XF,EJ,hz,w1,w2,wn1,ev1,e1,e2,l1,l2,ws2,wa,q1,q2,VX,Nat.reduceEqDiff,Nat.reduceAdd]
  clear ws2 wa q1 q2 e1 e2 l1 l2 ev1 w1 w2 wn1
  have hh:=Nat.mod_add_div (u2*1000000000+u1) v1
  have hml:=Nat.mod_lt (u2*1000000000+u1) jO
  have hdl:(u2*1000000000+u1) / v1≤u2*1000000000+u1:=Nat.div_le_self _ _
  have JU:val 1000000000 gE / val 1000000000 vs≤(u2*1000000000+u1) / v1:=by
   have t1:=(AT (n:=n+1) (xs:=gE) LH (by omega) (by rw[wC _ (by omega)];exact Zl) (by rw[wC _ (by omega)];exact Xx)).2
   have t2:=(wQ (n:=n+1) DU CV f1).1
   rw[Nat.le_div_iff_mul_le jO]
   have t3:val 1000000000 gE / val 1000000000 vs*(v1*1000000000^(n+1))≤val 1000000000 gE / val 1000000000 vs*val 1000000000 vs:=Nat.mul_le_mul_left _ t2
   have t4:=Nat.div_mul_le_self (val 1000000000 gE) (val 1000000000 vs)
   have t5:val 1000000000 gE / val 1000000000 vs*v1*1000000000^(n+1)<(u2*1000000000+u1+1)*1000000000^(n+1):=by rw[Nat.mul_assoc];omega
   have:=Nat.lt_of_mul_lt_mul_right t5
   omega
  generalize hQ1:(u2*1000000000+u1) / v1=g0 at *
  generalize hQ2:(u2*1000000000+u1) % v1=l0 at *
  refine Oj (i:=i) G MQ (by omega) A2 YP yZ AF Hv EJ (by rfl) (by rfl) (by rw[Nat.mul_comm g0];omega) JU (by omega) (by omega) ?_
  intro Qn g' hq JX hgW r19 ZG Ys r14 r15 r16 r17
  have M5:Qn 12=VI s:=ZG.trans Gd
  have NR:Qn 13 = .ref 0 0 0 N N:=Ys.trans yZ
  have NZ:Qn 14=gB vs:=r14.trans AF
  have Nd:Qn 15=VI ((n+2:Nat):Int):=r15.trans Hv
  have XR:Qn 16 = .ref 1 0 0 m m:=r16.trans XF
  have Yv:Qn 17=VI i:=r17.trans EJ
  simp only[M5,NR,NZ,Nd,XR,Yv,r19,VX,Nat.reduceEqDiff,Nat.reduceAdd]
  have vF:g'*val 1000000000 vs≤val 1000000000 gE+val 1000000000 vs:=by
   have:=Nat.mul_le_mul_right (val 1000000000 vs) JX
   rw[Nat.add_mul,Nat.one_mul] at this
   have:=Nat.div_mul_le_self (val 1000000000 gE) (val 1000000000 vs)
   omega
  obtain⟨low,abZ⟩:∃low,low=gE.take (n+2):=⟨_,rfl⟩
  have hll:low.length=n+2:=by rw[abZ,List.length_take];omega
  have Wh:∀d∈low,d<1000000000:=fun d hd=>LH d (by rw[abZ] at hd;exact List.mem_of_mem_take hd)
  have hsg:gE=low++[u2]:=by
   have h1:gE[n+2]? = some u2:=by rw[wC _ (by omega)];exact Zl
   have h2:=List.take_append_drop (n+2) gE
   have h3:=(List.getElem?_eq_some_iff.1 h1)
   rw[List.drop_eq_getElem_cons h3.1,h3.2,List.drop_of_length_le (by omega),←abZ] at h2
   exact h2.symm
  have MU:val 1000000000 gE=val 1000000000 low+1000000000^(n+2)*u2:=by rw[hsg,pY,hll]
  have EF:∀(lw:List Nat) (t:Nat),(us.take i).map tV++lw.map tV++VI (t:Int)::(us.drop (i+(n+2+1))).map tV=(us.take i++(lw++[t])++us.drop (i+(n+2+1))).map tV:=fun lw t=>by simp
  have Xz:aV (H2 us os) 0 0=some ((us.take i).map tV++low.map tV++VI (u2:Int)::(us.drop (i+(n+2+1))).map tV,1,true):=by
   rw[EF,←hsg,←Q3]
   rfl
  refine oW rfl ((TL (o:=i) (n:=n+2) Xz (Nat.zero_le _) (by simpa using Az) hll CV (by omega) A2 Wh DU hgW lu2).mono ?_)
  rintro r H' ⟨xU,c,rfl,A7,Wm,hc,hr,hE⟩
  have aoR:val 1000000000 low<1000000000^(n+2):=by have:=mT Wh;rwa [hll] at this
  have ajE:val 1000000000 xU<1000000000^(n+2):=by have:=mT Wm;rwa [A7] at this
  have rows:∀(lw:List Nat) (t q:Nat),lw.length=n+2→(∀d∈lw,d<1000000000)→t<1000000000→q=val 1000000000 gE / val 1000000000 vs→val 1000000000 lw+1000000000^(n+2)*t=val 1000000000 gE % val 1000000000 vs →
    ((us.take i++(lw++[t])++us.drop (i+(n+2+1))).length=N∧(∀d∈us.take i++(lw++[t])++us.drop (i+(n+2+1)),d<1000000000)∧val 1000000000 ((us.take i++(lw++[t])++us.drop (i+(n+2+1))).drop i)<val 1000000000 vs∧val 1000000000 (us.take i++(lw++[t])++us.drop (i+(n+2+1)))+1000000000^i*val 1000000000 vs*val 1000000000 ((os.set i q).drop i)=A):=by
   intro lw t q hlw ajY ht Pt XK
   have Zm:val 1000000000 (lw++[t])=val 1000000000 gE % val 1000000000 vs:=by rw[pY,hlw];exact XK
   have alD:(lw++[t]).length=n+3:=by rw[List.length_append,hlw];rfl
   have alH:∀d∈lw++[t],d<1000000000:=fun d hd=>by
    rcases List.mem_append.1 hd with h | h
    ·exact ajY d h
    ·rw[List.mem_singleton.1 h];exact ht
   generalize lw++[t]=oU at *
   have Yr:=Nat.mod_lt (val 1000000000 gE) E2
   have PE:(us.take i++oU++us.drop (i+(n+2+1))).drop i=oU++us.drop (i+(n+2+1)):=by rw[List.append_assoc,List.drop_append,List.drop_of_length_le (by omega),Az];simp
   have PR:(us.take i++oU++us.drop (i+(n+2+1))).take i=us.take i:=by rw[List.append_assoc,List.take_append_of_le_length (by omega),List.take_of_length_le (by omega)]
   have Nk:val 1000000000 ((us.take i++oU++us.drop (i+(n+2+1))).drop i)=val 1000000000 oU:=by rw[PE,vS,WW,Nat.mul_zero,Nat.add_zero]
   refine⟨by rw[List.length_append,List.length_append,Az,alD,List.length_drop];omega,fun d hd => ?_,by rw[Nk,Zm];exact Yr,?_⟩
   ·rw[List.mem_append,List.mem_append] at hd
    rcases hd with(hd | hd) | hd
    ·exact F8 d (List.mem_of_mem_take hd)
    ·exact alH d hd
    ·exact F8 d (List.mem_of_mem_drop hd)
   ·have h1:=Nat.div_add_mod (val 1000000000 gE) (val 1000000000 vs)
    rw[←Pt,←Zm,Nat.mul_comm] at h1
    have h2:=nF (b:=1000000000) us i
    have h3:=nF (b:=1000000000) (us.take i++oU++us.drop (i+(n+2+1))) i
    rw[PR,Az,Nk] at h3
    rw[Az,W8] at h2
    rw[set_drop (by omega),qF,h3]
    rw[h2,Nat.pow_succ] at hv
    exact HT h1.symm hv
  have e3:∀(EE:List Nat) (d:Nat),bE 1 (.ref 1 0 0 m m) (VI i) (H2 EE os)=some (.ptr 1 0 i 0)∧dC 0 1 (.ptr 1 0 i 0) (VI (d:Int)) (H2 EE os)=some (H2 EE (os.set i d)):=fun EE d=>by
   refine⟨by rw[bD afA (by omega),Nat.zero_add],?_⟩
   rw[show VI (d:Int)=tV d from rfl,fX (f:=tV) (e:=1) afA (by omega) (Nat.zero_le _) rfl rfl]
   rfl
  have wi:IntKind.i64.wrap ((i:Int)-1)=(i:Int)-1:=wrap64 (by omega) (by omega)
  have ZX:=Nat.div_add_mod (val 1000000000 gE) (val 1000000000 vs)
  have Yr:=Nat.mod_lt (val 1000000000 gE) E2
  generalize hPP:1000000000^(n+2)=P at *
  by_cases lO:(u2:Int)-(c:Int)<0
  ·
   rw[decide_eq_true lO] at hr
   subst hr
   have hgt:val 1000000000 gE<g'*val 1000000000 vs:=by
    have h1:P*(u2+1)≤P*c:=Nat.mul_le_mul_left _ (by omega)
    rw[Nat.mul_add,Nat.mul_one] at h1
    omega
   have Pt:g'=val 1000000000 gE / val 1000000000 vs+1:=by
    rcases Nat.lt_or_ge (val 1000000000 gE / val 1000000000 vs) g' with h | h
    ·omega
    ·have h1:g'*val 1000000000 vs≤val 1000000000 gE / val 1000000000 vs*val 1000000000 vs:=Nat.mul_le_mul_right _ h
     have:=Nat.div_mul_le_self (val 1000000000 gE) (val 1000000000 vs)
     omega
   have Za:1≤g':=by rw[Pt];exact Nat.le_add_left 1 _
   have wg:IntKind.i64.wrap ((g':Int)-1)=((g'-1:Nat):Int):=wrapN _ (by omega) (by omega)
   simp only[M5,NR,NZ,Nd,XR,Yv,r19,wg,VX,Nat.reduceEqDiff,Nat.reduceAdd]
   have hr1:aV ((H2 us os).set 0 (.row 0 ((us.take i).map tV++xU.map tV++VI ((u2:Int)-(c:Int))::(us.drop (i+(n+2+1))).map tV) 1 true)) 0 0=some ((us.take i).map tV++xU.map tV++VI ((u2:Int)-(c:Int))::(us.drop (i+(n+2+1))).map tV,1,true):=rfl
   refine oW rfl ((S7 (o:=i) (n:=n+2) hr1 (Nat.zero_le _) (by simpa using Az) A7 CV (by omega) A2 Wm DU (by omega) (by omega)).mono ?_)
   rintro r H' ⟨QP,c2,rfl,Gj,hd2,XH,hE2⟩
   rw[hPP] at hE2
   have abG:val 1000000000 QP<P:=by have:=mT hd2;rwa [Gj,hPP] at this
   obtain⟨hy,hZ⟩:(u2:Int)-(c:Int)+(c2:Int)=0∧val 1000000000 QP=val 1000000000 gE % val 1000000000 vs:=by
    refine X7 (P:=P) ?_ abG (by omega)
    have i1:(P:Int)*((u2:Int)-(c:Int)+(c2:Int))=(P:Int)*u2-(P:Int)*c+(P:Int)*c2:=by rw[Int.mul_add,Int.mul_sub]
    have i2:((P*u2:Nat):Int)=(P:Int)*u2:=by simp
    have i3:((P*c:Nat):Int)=(P:Int)*c:=by simp
    have i4:((P*c2:Nat):Int)=(P:Int)*c2:=by simp
    rw[i1,←i2,←i3,←i4]
    have i5:g'*val 1000000000 vs=val 1000000000 vs*(val 1000000000 gE / val 1000000000 vs)+val 1000000000 vs:=by rw[Pt,Nat.add_mul,Nat.one_mul,Nat.mul_comm (val 1000000000 vs)]
    omega
   have FQ:((H2 us os).set 0 (.row 0 ((us.take i).map tV++xU.map tV++VI ((u2:Int)-(c:Int))::(us.drop (i+(n+2+1))).map tV) 1 true)).set 0 (.row 0 ((us.take i).map tV++QP.map tV++VI ((u2:Int)-(c:Int)+(c2:Int))::(us.drop (i+(n+2+1))).map tV) 1 true)=H2 (us.take i++(QP++[0])++us.drop (i+(n+2+1))) os:=by
    rw[hy]
    rw[show (0:Int)=((0:Nat):Int) from rfl,EF]
    rfl
   rw[FQ]
   obtain⟨x1,x2⟩:=e3 (us.take i++(QP++[0])++us.drop (i+(n+2+1))) (g'-1)
   obtain⟨y1,y2,y3,y4⟩:=rows QP 0 (g'-1) Gj hd2 (by decide) (by rw[Pt,Nat.add_sub_cancel]) (by rw[Nat.mul_zero,Nat.add_zero];exact hZ)
   simp only[M5,NR,NZ,Nd,XR,Yv,x1,x2,wi,VX,Nat.reduceEqDiff,Nat.reduceAdd]
   refine⟨(i,us.take i++(QP++[0])++us.drop (i+(n+2+1)),os.set i (g'-1)),by simp only;omega,by omega,rfl,y1,y2,by rw[List.length_set];exact iC,jZ jS (by omega),y3,y4,?_⟩
   try (repeat' apply And.intro)<;>first | rfl | trivial
  ·rw[decide_eq_false lO] at hr
   subst hr
   obtain⟨t',Yc⟩:∃t':Nat,(u2:Int)-(c:Int)=(t':Int):=⟨u2-c,by omega⟩
   have hP1:P*u2=P*c+P*t':=by rw[←Nat.mul_add];congr 1;omega
   have Cp:g'*val 1000000000 vs≤val 1000000000 gE:=by omega
   have Pt:g'=val 1000000000 gE / val 1000000000 vs:=by
    have:=(Nat.le_div_iff_mul_le E2).2 Cp
    omega
   have FQ:(H2 us os).set 0 (.row 0 ((us.take i).map tV++xU.map tV++VI ((u2:Int)-(c:Int))::(us.drop (i+(n+2+1))).map tV) 1 true)=H2 (us.take i++(xU++[t'])++us.drop (i+(n+2+1))) os:=by
    rw[Yc,EF]
    rfl
   rw[FQ]
   obtain⟨x1,x2⟩:=e3 (us.take i++(xU++[t'])++us.drop (i+(n+2+1))) g'
   have XK:val 1000000000 xU+P*t'=val 1000000000 gE % val 1000000000 vs:=by
    rw[←Pt,Nat.mul_comm] at ZX
    omega
   obtain⟨y1,y2,y3,y4⟩:=rows xU t' g' A7 Wm (by omega) Pt XK
   simp only[M5,NR,NZ,Nd,XR,Yv,r19,x1,x2,wi,VX,Nat.reduceEqDiff,Nat.reduceAdd]
   refine⟨(i,us.take i++(xU++[t'])++us.drop (i+(n+2+1)),os.set i g'),by simp only;omega,by omega,rfl,y1,y2,by rw[List.length_set];exact iC,jZ jS (by omega),y3,y4,?_⟩
   try (repeat' apply And.intro)<;>first | rfl | trivial
 ·have PT:j=0:=by omega
  subst PT
  rw[Nat.pow_zero,Nat.one_mul,List.drop_zero] at hv
  rw[List.drop_zero] at aX
  simp only[gP,Gd,yZ,AF,Hv,XF,EJ,hz,VX,Nat.reduceEqDiff,Nat.reduceAdd]
  exact hQ _ us os Gd yZ XF MQ F8 iC jS hv aX
end Go.PM
namespace Go.PM
theorem Kv {ds:List Nat} {H:aB}:eY 1 (gB ds) H=some (ds.map tV):=by
 have:((ds.map tV).all fun x=>(aA x).length == 1&&(aA x).all cJ)=true:=by
  rw[List.all_eq_true]
  intro x hx
  obtain⟨d,_,rfl⟩:=List.mem_map.1 hx
  rfl
 simp only[eY,gB,bT,this,if_true]
theorem BX (n:Nat) {H:aB}:eY 1 (bO n) H=some ((aC 1000000000 n).map tV):=Kv
theorem EU {a n:Nat} (hn:(aC 1000000000 a).length=n+1):∃d,(aC 1000000000 a)[n]? = some d∧d≠0∧d<1000000000:=by
 obtain⟨d,hd⟩:∃d,(aC 1000000000 a)[n]? = some d:=⟨_,List.getElem?_eq_getElem (by omega)⟩
 refine⟨d,hd,fun h0 => ?_,eE (by decide) a d (List.mem_of_getElem? hd)⟩
 have:=Kq (b:=1000000000) (by decide) a
 rw[List.getLast?_eq_getElem?,hn,Nat.add_sub_cancel,hd,h0] at this
 exact this rfl
theorem TI {a d:Nat} (h:aC 1000000000 a=[d]):a=d∧0<d∧d<1000000000:=by
 have h1:=bW (b:=1000000000) (by decide) a
 rw[h,val_one] at h1
 obtain⟨e,h2,h3,h4⟩:=EU (a:=a) (n:=0) (by rw[h];rfl)
 rw[h] at h2
 cases h2
 exact⟨h1.symm,by omega,h4⟩
theorem abB {a:Nat} (h:(aC 1000000000 a).length≤2):a<1000000000000000000:=by
 have h1:=fN (b:=1000000000) (by decide) a
 have h2:1000000000^(aC 1000000000 a).length≤1000000000^2:=Nat.pow_le_pow_right (by decide) h
 omega
theorem VA {H:aB} {u v:VV} (hu:aW u=true) (hv:aW v=true):fz depth H (.eK [u,v])=some (.eK [u,v]):=aI (by simp only[aW,aK,hu,hv,Bool.and_self])
theorem aeO {X N:Nat} (h:(aC 1000000000 X).length≤N):J8 0 1 (.ref 0 0 0 N N) (bO X) [.row 0 ((List.replicate N 0).map tV) 1 true]=some (VI ((aC 1000000000 X).length:Int),[.row 0 ((aC 1000000000 X++List.replicate (N-(aC 1000000000 X).length) 0).map tV) 1 true]):=by
 have e:((aC 1000000000 X).map tV).take N=(aC 1000000000 X).map tV:=List.take_of_length_le (by simpa using h)
 simp only[J8,bO,Kv,cE,e,List.length_map,List.length_replicate,Nat.zero_add]
 rw[if_pos ⟨trivial,Nat.le_refl _,h⟩]
 simp only[cK,List.set_cons_zero,List.take_zero,List.nil_append,Nat.zero_add,List.length_map,List.map_append,List.map_replicate,List.drop_replicate]
theorem rH (a b:Nat) (hb:b≠0) (ha:(aC 1000000000 a).length<17592186044416) (sO:(aC 1000000000 b).length<17592186044416):TC 214 [bO a,bO b] (.eK [bO (a / b),bO (a % b)]):=by
 refine TC.walk ⟨true,false⟩ EY rfl (Nat.le_of_ble_eq_true rfl) (by simp[aK,bU]) (by simp[gH,pF,lE]) ?_
 have s1:=Ad a (by omega)
 have s2:=Ad b (by omega)
 have fin:∀ {H:aB},fz depth H (.eK [bO (a / b),bO (a % b)])=some (.eK [bO (a / b),bO (a % b)]):=VA (bU _) (bU _)
 by_cases hsm:(aC 1000000000 a).length≤2∧(aC 1000000000 b).length≤2
 ·rw[if_pos hsm.1] at s1
  rw[if_pos hsm.2] at s2
  have la:=abB hsm.1
  have q1:=Hs a b (by omega) (by omega)
  have q2:=HN a b (by omega)
  have hdl:a / b≤a:=Nat.div_le_self _ _
  have hml:a % b≤a:=Nat.mod_le _ _
  have n1:TC 161 [VI ((a / b:Nat):Int)] (bO (a / b)):=nW ((a / b:Nat):Int) (Int.ofNat_le.2 (show a / b≤9223372036854775807 from Nat.le_trans hdl (by omega)))
  have n2:TC 161 [VI ((a % b:Nat):Int)] (bO (a % b)):=nW ((a % b:Nat):Int) (Int.ofNat_le.2 (show a % b≤9223372036854775807 from Nat.le_trans hml (by omega)))
  simp only[dV,cT,s1,s2,q1,q2,n1,n2,VX,Nat.reduceEqDiff,Nat.reduceAdd]
  exact fin
 have c1:=rY a b (by omega) (by omega)
 obtain⟨x1,t1,JZ⟩:∃(x:Int) (t:Bool),(if (aC 1000000000 a).length≤2 then VV.eK [VI a,VB true] else .eK [VI 0,VB false]) = .eK [VI x,VB t]:=by split<;>exact⟨_,_,rfl⟩
 have hs2:∃(x:Int) (t:Bool),(if (aC 1000000000 b).length≤2 then VV.eK [VI b,VB true] else .eK [VI 0,VB false]) = .eK [VI x,VB t]∧(t1=true→t=false):=by
  by_cases h:(aC 1000000000 b).length≤2
  ·rw[if_pos h]
   refine⟨_,_,rfl,fun ht => ?_⟩
   rw[if_neg (fun h'=>hsm ⟨h',h⟩)] at JZ
   injection JZ with JZ
   injection JZ with _ JZ
   injection JZ with JZ _
   injection JZ with JZ
   injection JZ with JZ
   subst ht
   cases JZ
  ·rw[if_neg h]
   exact⟨_,_,rfl,fun _=>rfl⟩
 obtain⟨x2,t2,hs2,ht⟩:=hs2
 rw[JZ] at s1
 rw[hs2] at s2
 by_cases Dw:dX a b<0
 ·have aX:a<b:=tO.1 Dw
  have e0:∀lr,qV lr [.int .i64 0] 0 [] []=some (.ref 0 0 0 0 0,[.row 0 [] 1 true]):=fun lr=>nR (H:=[]) rfl
  have e1:∀lr,qV lr [.int .i64 0] 0 [] [.row 0 [] 1 true]=some (.ref 1 0 0 0 0,[.row 0 [] 1 true,.row 0 [] 1 true]):=fun lr=>nR (H:=[.row 0 [] 1 true]) rfl
  rw[Nat.div_eq_of_lt aX,Nat.mod_eq_of_lt aX]
  have hz:fz (6+1) [.row 0 [] 1 true,.row 0 [] 1 true] (.ref 0 0 0 0 0)=some (bO 0):=by rw[Fg];rfl
  by_cases WX:a=0
  ·subst WX
   have ap:gF 0 1 8 (.ref 1 0 0 0 0) ((aC 1000000000 0).map tV) [.row 0 [] 1 true,.row 0 [] 1 true]=some (.ref 1 0 0 0 0,[.row 0 [] 1 true,.row 0 [] 1 true]):=by
    rw[bR];rfl
   have Fw:fz (6+1) [.row 0 [] 1 true,.row 0 [] 1 true] (.ref 1 0 0 0 0)=some (bO 0):=by rw[Fg];rfl
   cases t1 with
   |
    false =>
    simp only[dV,cT,s1,s2,c1,Dw,e0,e1,ap,BX,VX,Nat.reduceEqDiff,Nat.reduceAdd]
    exact bH (d:=6) hz Fw
   |
    true =>
    rw[ht rfl] at s2
    simp only[dV,cT,s1,s2,c1,Dw,e0,e1,ap,BX,VX,Nat.reduceEqDiff,Nat.reduceAdd]
    exact bH (d:=6) hz Fw
  ·have hln:(aC 1000000000 a).length≠0:=fun h=>WX ((kE (b:=1000000000) (by decide)).1 (List.length_eq_zero_iff.1 h))
   have ap:gF 0 1 8 (.ref 1 0 0 0 0) ((aC 1000000000 a).map tV) [.row 0 [] 1 true,.row 0 [] 1 true]=some (.ref 1 1 0 (aC 1000000000 a).length (aC 1000000000 a).length,[.row 0 [] 1 true,.row 1 ((aC 1000000000 a).map tV) 1 true]):=by
    have hr:aV [.row 0 [] 1 true,.row 0 [] 1 true] 1 0=some ([],1,true):=rfl
    simp only[gF,hr,List.length_map,Nat.zero_add,List.length_nil,Nat.add_zero]
    rw[if_pos ⟨by decide,by decide⟩,if_pos ⟨trivial,Nat.zero_le _,Nat.le_refl _⟩,if_neg (by omega),if_pos (by omega)]
    simp
   have Cl:fz (6+1) [.row 0 [] 1 true,.row 1 ((aC 1000000000 a).map tV) 1 true] (.ref 0 0 0 0 0)=some (bO 0):=by rw[Fg];rfl
   have Fw:fz (6+1) [.row 0 [] 1 true,.row 1 ((aC 1000000000 a).map tV) 1 true] (.ref 1 1 0 (aC 1000000000 a).length (aC 1000000000 a).length)=some (bO a):=by
    have:aW (.ref 1 1 0 (aC 1000000000 a).length (aC 1000000000 a).length)=false:=rfl
    have hr:aV [.row 0 [] 1 true,.row 1 ((aC 1000000000 a).map tV) 1 true] 1 1=some ((aC 1000000000 a).map tV,1,true):=rfl
    unfold fz
    simp only[this,hr,Bool.false_eq_true,if_false]
    rw[if_pos ⟨by simp,Nat.le_refl _⟩,List.drop_zero,List.take_of_length_le (by simp),mapM_pure (n:=5) (dY fun _=>rfl)]
    rfl
   cases t1 with
   |
    false =>
    simp only[dV,cT,s1,s2,c1,Dw,e0,e1,ap,BX,VX,Nat.reduceEqDiff,Nat.reduceAdd]
    exact bH (d:=6) Cl Fw
   |
    true =>
    rw[ht rfl] at s2
    simp only[dV,cT,s1,s2,c1,Dw,e0,e1,ap,BX,VX,Nat.reduceEqDiff,Nat.reduceAdd]
    exact bH (d:=6) Cl Fw
 have Cp:b≤a:=by have := @tO a b;omega
 have hbn:(aC 1000000000 b).length≠0:=fun h=>hb ((kE (b:=1000000000) (by decide)).1 (List.length_eq_zero_iff.1 h))
 by_cases h1:(((aC 1000000000 b).length:Nat):Int)=1
 ·obtain⟨d,hd⟩:∃d,aC 1000000000 b=[d]:=List.length_eq_one_iff.1 (by omega)
  obtain⟨XD,BG,hdT⟩:=TI hd
  have e1:bE 1 (bO b) (VI 0) []=some (.cO (tV d) 0):=by
   rw[bO,hd]
   exact aP (f:=tV) (t := .op) (H:=[]) (size:=1) (k := .i64) (xs:=[d]) (i:=0) rfl rfl
  have c2:=vC a d BG hdT (by omega)
  rw[←XD] at c2
  have PA:a % b≤b:=Nat.le_of_lt (Nat.mod_lt _ (by omega))
  have n2:TC 161 [VI ((a % b:Nat):Int)] (bO (a % b)):=nW ((a % b:Nat):Int) (Int.ofNat_le.2 (show a % b≤9223372036854775807 from Nat.le_trans PA (by omega)))
  have e2:tV d=tV b:=by rw[XD]
  rw[e2] at e1
  cases t1 with
  |
   false =>
   simp only[dV,cT,s1,s2,c1,Dw,cI,h1,e1,c2,n2,VX,Nat.reduceEqDiff,Nat.reduceAdd]
   exact fin
  |
   true =>
   rw[ht rfl] at s2
   simp only[dV,cT,s1,s2,c1,Dw,cI,h1,e1,c2,n2,VX,Nat.reduceEqDiff,Nat.reduceAdd]
   exact fin
 obtain⟨n,hn⟩:∃n,(aC 1000000000 b).length=n+2:=⟨(aC 1000000000 b).length-2,by omega⟩
 obtain⟨t,htd,ht0,htT⟩:=EU (a:=b) (n:=n+1) hn
 obtain⟨s,hs⟩:∃s,s=1000000000 / (t+1):=⟨_,rfl⟩
 have Ng:1≤s:=by rw[hs];exact(Nat.le_div_iff_mul_le (by omega)).2 (by omega)
 have hsT:s<1000000000:=by rw[hs];exact Nat.div_lt_self (by decide) (by omega)
 have EZ:(t+1)*s≤1000000000:=by rw[hs];exact Nat.mul_div_le _ _
 have hla:=dD (b:=1000000000) (by decide) Cp
 have w0:IntKind.i64.wrap (((n+2:Nat):Int)-1)=((n+1:Nat):Int):=wrapN _ (by omega) (by omega)
 have w1:IntKind.i64.wrap ((t:Int)+1)=((t+1:Nat):Int):=wrapN _ (by omega) (by omega)
 have q0:cU .quo (.int .i64 1000000000) (.int .i64 ((t+1:Nat):Int))=some (.int .i64 (s:Int)):=by rw[hs];exact Hs 1000000000 (t+1) (by decide) (by omega)
 have et:∀H,bE 1 (bO b) (VI ((n+1:Nat):Int)) H=some (.cO (tV t) 0):=fun H=>aP (f:=tV) (t := .op) (size:=1) (k := .i64) htd rfl
 have Ue:¬(((n+2:Nat):Int)=1):=by omega
 obtain⟨N,hN⟩:∃N,N=(aC 1000000000 a).length+1:=⟨_,rfl⟩
 have wN:IntKind.i64.wrap (((aC 1000000000 a).length:Int)+1)=(N:Int):=wrapN _ (by omega) (by omega)
 have mkN:=Lu N (by omega)
 have c3:=uS a s Ng hsT ha
 have c4:=uS b s Ng hsT sO
 have abU:b*s<1000000000^(n+2):=by
  have h2:=(wQ (n:=n+1) (eE (b:=1000000000) (by decide) b) hn htd).2
  rw[bW (by decide)] at h2
  have h3:b*s<(t+1)*1000000000^(n+1)*s:=Nat.mul_lt_mul_of_pos_right h2 Ng
  have h4:(t+1)*1000000000^(n+1)*s=(t+1)*s*1000000000^(n+1):=by grind
  have h9:(t+1)*s*1000000000^(n+1)≤1000000000*1000000000^(n+1):=Nat.mul_le_mul_right _ EZ
  have h10:1000000000*1000000000^(n+1)=1000000000^(n+2):=by rw[Nat.pow_succ 1000000000 (n+1)];exact Nat.mul_comm _ _
  rw[h4] at h3
  rw[h10] at h9
  exact Nat.lt_of_lt_of_le h3 h9
 have Zk:(aC 1000000000 (b*s)).length=n+2:=by
  have h2:=kI (b:=1000000000) (by decide) abU
  have h3:b≤b*s:=Nat.le_mul_of_pos_right b Ng
  have h4:=dD (b:=1000000000) (by decide) h3
  omega
 have hAl:(aC 1000000000 (a*s)).length≤N:=by
  have h2:=MP (b:=1000000000) (by decide) a s
  have h3:(aC 1000000000 s).length≤1:=kI (by decide) (by rw[Nat.pow_one];exact hsT)
  omega
 have cp:=aeO hAl
 obtain⟨m,hm⟩:∃m,m+(n+2)=N:=⟨N-(n+2),by omega⟩
 have wm:IntKind.i64.wrap ((N:Int)-((n+2:Nat):Int))=(m:Int):=wrapN _ (by omega) (by omega)
 have wm1:IntKind.i64.wrap ((m:Int)-1)=(m:Int)-1:=wrap64 (by omega) (by omega)
 obtain⟨Ci,Yl⟩:∃Ci,Ci=aC 1000000000 (a*s)++List.replicate (N-(aC 1000000000 (a*s)).length) 0:=⟨_,rfl⟩
 rw[←Yl] at cp
 have mkm:xY [.int .i64 0] 8 (VI (m:Int)) (VI (m:Int)) [.row 0 (Ci.map tV) 1 true]=some (.ref 1 0 0 m m,[.row 0 (Ci.map tV) 1 true]++[.row 0 ((List.replicate m 0).map tV) 1 true]):=uB (f:=tV) (x:=0) (H:=[.row 0 (Ci.map tV) 1 true]) rfl (by omega) (by omega)
 have lN:∀K,aV K 0 0=some (Ci.map tV,1,true)→pE (.ref 0 0 0 N N) K=some (VI (N:Int)):=fun K h=>iS h
 have l1:=lN [.row 0 (Ci.map tV) 1 true] rfl
 have l2:=lN (H2 Ci (List.replicate m 0)) rfl
 have Z8:Ci.length=N:=by rw[Yl,List.length_append,List.length_replicate];omega
 have afD:∀d∈Ci,d<1000000000:=fun d hd=>by
  rw[Yl] at hd
  rcases List.mem_append.1 hd with h | h
  ·exact eE (by decide) _ d h
  ·rw[List.eq_of_mem_replicate h];decide
 have abN:val 1000000000 Ci=a*s:=by rw[Yl,vS,oV,Nat.mul_zero,Nat.add_zero,bW (by decide)]
 generalize MU:aC 1000000000 (b*s)=vs at *
 have DU:∀d∈vs,d<1000000000:=by rw[←MU];exact eE (by decide) _
 have JY:val 1000000000 vs=b*s:=by rw[←MU];exact bW (by decide) _
 have lV:∀H,pE (bO (b*s)) H=some (VI ((n+2:Nat):Int)):=fun H=>by rw[cI,MU,Zk]
 obtain⟨v1,f1⟩:∃v1,vs[n+1]? = some v1:=⟨_,List.getElem?_eq_getElem (by omega)⟩
 obtain⟨v0,f0⟩:∃v0,vs[n]? = some v0:=⟨_,List.getElem?_eq_getElem (by omega)⟩
 have Zt:1≤v1:=by
  obtain⟨d,hd,BG,_⟩:=EU (a:=b*s) (n:=n+1) (by rw[MU];exact Zk)
  rw[MU,f1] at hd
  cases hd
  omega
 have As:val 1000000000 (Ci.drop m)<val 1000000000 vs:=by
  have h2:=nF (b:=1000000000) Ci m
  rw[List.length_take,Z8,Nat.min_eq_left (by omega),abN] at h2
  have h3:a<b*1000000000^m:=by
   have y1:=fN (b:=1000000000) (by decide) a
   have y2:=Hq (b:=1000000000) (by decide) hb
   rw[hn] at y2
   have y3:1000000000^(n+2-1)*1000000000^m≤b*1000000000^m:=Nat.mul_le_mul_right _ y2
   rw[←Nat.pow_add,show n+2-1+m=(aC 1000000000 a).length by omega] at y3
   exact Nat.lt_of_lt_of_le y1 y3
  have h4:a*s<b*1000000000^m*s:=Nat.mul_lt_mul_of_pos_right h3 Ng
  have h5:b*1000000000^m*s=1000000000^m*(b*s):=by grind
  rw[JY]
  have h6:1000000000^m*val 1000000000 (Ci.drop m)<1000000000^m*(b*s):=by
   rw[←h5]
   exact Nat.lt_of_le_of_lt (by rw[h2];exact Nat.le_add_left _ _) h4
  exact Nat.lt_of_mul_lt_mul_left h6
 have body:VW ⟨true,false⟩ 0 (.loop gP)=VW ⟨true,false⟩ 0 (.loop gP):=rfl
 have tail:∀(us os:List Nat),us.length=N→(∀d∈us,d<1000000000)→os.length=m→(∀d∈os,d<1000000000)→val 1000000000 us+val 1000000000 vs*val 1000000000 os=a*s→val 1000000000 us<val 1000000000 vs →
   (∀lo K,dJ 211 [.ref 0 0 0 N N] lo (H2 us os) K=K (bO (a % b*s)) (cH (H2 us os) [0])) ∧
   (∀lo K,dJ 211 [.ref 1 0 0 m m] lo (cH (H2 us os) [0]) K=K (bO (a / b)) (cH (cH (H2 us os) [0]) [1]))∧TC 237 [bO (a % b*s),VI (s:Int)] (.eK [bO (a % b),VI ((a % b*s % s:Nat):Int)]):=by
  intro us os MQ F8 iC jS hv aX
  rw[JY] at hv aX
  have hq:val 1000000000 os=a / b:=by
   rw[←Nat.mul_div_mul_right a b Ng,←hv,Nat.add_mul_div_left _ _ (Nat.lt_of_le_of_lt (Nat.zero_le _) aX),Nat.div_eq_of_lt aX,Nat.zero_add]
  have hr:val 1000000000 us=a % b*s:=by
   rw[←Nat.mul_mod_mul_right,←hv,Nat.add_mul_mod_self_left,Nat.mod_eq_of_lt aX]
  refine⟨fun lo K => ?_,fun lo K => ?_,?_⟩
  ·have h:=pI us F8 (by omega)
   rw[hr] at h
   exact TC.X4 (f:=tV) h PG MQ.symm (Nat.le_refl _) Da (fun _=>rfl) rfl rfl lo K
  ·have h:=pI os jS (by omega)
   rw[hq] at h
   have EF:aV (cH (H2 us os) [0]) 1 0=some (os.map tV,1,true):=rfl
   exact TC.X4 (f:=tV) h EF iC.symm (Nat.le_refl _) Da (fun _=>rfl) rfl rfl lo K
  ·have h:=vC (a % b*s) s Ng hsT (by
    have h2:=dD (b:=1000000000) (by decide) (Nat.le_trans (Nat.le_of_lt aX) (show b*s≤b*s from Nat.le_refl _))
    rw[hr,MU] at h2
    omega)
   rwa [Nat.mul_div_cancel _ Ng] at h
 clear body
 have nV:bO (b*s)=gB vs:=by rw[bO,MU]
 cases t1 with
 |
  false =>
  simp only[dV,cT,s1,s2,c1,Dw,cI,hn,Ue,w0,w1,q0,et,wN,mkN,c3,c4,cp,lV,l1,l2,wm,wm1,mkm,List.cons_append,List.nil_append,VX,Nat.reduceEqDiff,Nat.reduceAdd]
  refine KB (Ci:=Ci) (Uo:=List.replicate m 0) (vs:=vs) (N:=N) (m:=m) (n:=n) (A:=a*s) (s:=s) Z8 hm (by omega) afD Zk DU f1 f0 Zt abN As (by simp) (xL (by decide) _) (by rfl) (by rfl) (by simp only[VX,Nat.reduceEqDiff,Nat.reduceAdd];exact nV) (by rfl) (by rfl) (by rfl) ?_
  intro tW us os ZG Ys r16 MQ F8 iC jS hv aX
  obtain⟨x1,x2,x3⟩:=tail us os MQ F8 iC jS hv aX
  simp only[ZG,Ys,r16,x1,x2,x3,VX,Nat.reduceEqDiff,Nat.reduceAdd]
  exact fin
 |
  true =>
  rw[ht rfl] at s2
  simp only[dV,cT,s1,s2,c1,Dw,cI,hn,Ue,w0,w1,q0,et,wN,mkN,c3,c4,cp,lV,l1,l2,wm,wm1,mkm,List.cons_append,List.nil_append,VX,Nat.reduceEqDiff,Nat.reduceAdd]
  refine KB (Ci:=Ci) (Uo:=List.replicate m 0) (vs:=vs) (N:=N) (m:=m) (n:=n) (A:=a*s) (s:=s) Z8 hm (by omega) afD Zk DU f1 f0 Zt abN As (by simp) (xL (by decide) _) (by rfl) (by rfl) (by simp only[VX,Nat.reduceEqDiff,Nat.reduceAdd];exact nV) (by rfl) (by rfl) (by rfl) ?_
  intro tW us os ZG Ys r16 MQ F8 iC jS hv aX
  obtain⟨x1,x2,x3⟩:=tail us os MQ F8 iC jS hv aX
  simp only[ZG,Ys,r16,x1,x2,x3,VX,Nat.reduceEqDiff,Nat.reduceAdd]
  exact fin
end Go.PM