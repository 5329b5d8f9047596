/- Texts of a claim, in one: part 8. -/
import Derived.Test.YtjmflicajplclaaGreatDoorKXg
set_option linter.unusedSimpArgs false
set_option linter.unusedVariables false
namespace Go.PM
abbrev tV (d:Nat):VV:=VI (d:Int)
abbrev iM (ds:List Nat):VV:=aQ tV ds
def cB (n:Nat):VV:=iM (aC 1000000000 n)
theorem F4:∀d:Nat,(aB (tV d)).length=1:=fun _=>rfl
theorem zN (ds:List Nat):bA (iM ds)=true:=oD F4 fun _=>rfl
theorem WC (ds:List Nat):iU (iM ds)=true:=DI F4 (fun _=>rfl) fun _=>rfl
theorem cI (n:Nat):bA (cB n)=true:=zN _
theorem oA (n:Nat):iU (cB n)=true:=WC _
theorem I6:cB 0 = .tree [] .op:=by rw[cB,cG];rfl
theorem Ze:cB 1=iM [1]:=by rw[cB,jN (by decide) (by decide),cG]
theorem cO (n:Nat) {H:aA}:qB (cB n) H=some (VI (aC 1000000000 n).length):=eI
section
variable {α:Type} {f:α→VV} {xs:List α} {x:α} {H:aA}
theorem Kw {g e:Nat} {es:List VV} {w:Bool}:aH [.row g es e w] 0 g=some (es,e,w):=aU
theorem axD {e bytes:Nat} (he:1≤e) (hb:1≤bytes) (C0:(xs.length+1)*bytes≤140737488355328):eE 0 e bytes (.ref 0 xs.length 0 xs.length xs.length) [f x] [.row xs.length (xs.map f) e true]=some (.ref 0 (xs.length+1) 0 (xs.length+1) (xs.length+1),[.row (xs.length+1) ((xs++[x]).map f) e true]):=by
 rw[gZ (f:=f) (x:=x) aU rfl (Nat.le_refl _) he hb C0]
 rfl
theorem RD {n g e:Nat} {w:Bool} (hp:∀x,bA (f x)=true) (hn:n=xs.length):fz depth [.row g (xs.map f) e w] (.ref 0 g 0 n n)=some (aQ f xs):=FB aU (by simpa using hn) (Nat.le_refl _) (fJ hp)
end
theorem KR {lr:Bool}:jY lr [.int .i64 0] 0 [] []=some (.ref 0 0 0 0 0,[.row 0 (([]:List Nat).map tV) 1 true]):=iA (H:=[]) rfl
theorem sY {d:Int} {H:aA}:jY false [.int .i64 0] 1 [(0,VI d)] H=some (.tree [VI d] (.cl 1),H):=gJ rfl rfl rfl
theorem wC {d:Int} {H:aA} {t:TK}:dF 1 (.tree [VI d] t) H=some [VI d]:=dV rfl rfl
theorem aeC {ds:List Nat} {d:Nat} (h:ds.length<17592186044416):eE 0 1 8 (.ref 0 ds.length 0 ds.length ds.length) [VI (d:Int)] [.row ds.length (ds.map tV) 1 true]=some (.ref 0 (ds.length+1) 0 (ds.length+1) (ds.length+1),[.row (ds.length+1) ((ds++[d]).map tV) 1 true]):=axD (f:=tV) (by decide) (by decide) (by omega)
theorem NM (n:Nat):dU .rem (.int .i64 (n:Int)) (.int .i64 1000000000)=some (.int .i64 ((n % 1000000000:Nat):Int)):=by
 have h2:(n:Int).tmod 1000000000=((n % 1000000000:Nat):Int):=by rw[Int.tmod_eq_emod_of_nonneg (by omega)];simp
 simp only[dU,if_true,h2]
 rfl
theorem OQ (n:Nat) (h:n≤9223372036854775807):dU .quo (.int .i64 (n:Int)) (.int .i64 1000000000)=some (.int .i64 ((n / 1000000000:Nat):Int)):=by
 have h2:(n:Int).tdiv 1000000000=((n / 1000000000:Nat):Int):=by rw[Int.tdiv_eq_ediv_of_nonneg (by omega)];simp
 simp only[dU,if_true,h2]
 rw[wrap64 (by omega) (by omega)]
 rfl
theorem tL (ds:List Nat) (h:∀d∈ds,d<1000000000) (hlen:ds.length≤70368744177664):TC 184 [iM ds] (cB (val 1000000000 ds)):=by
 refine TC.walk ⟨true,false⟩ KT rfl (Nat.le_of_ble_eq_true rfl) (by simp[aM,zN]) (oA _) ?_
 simp only[Gw,Dt,VX,Nat.reduceEqDiff,Nat.reduceAdd]
 refine aP (fun(xs:List Nat) ρ H'=>(∀d∈xs,d<1000000000)∧val 1000000000 xs=val 1000000000 ds∧xs.length≤ds.length∧H'=[]∧ρ 0=iM xs) (fun s=>s.length) ds ⟨h,rfl,Nat.le_refl _,rfl,rfl⟩ ?_
 rintro xs ρ H' ⟨hx,hv,hl,rfl,h0⟩
 have done:xs.getLast? ≠ some 0→fz depth [] (iM xs)=some (cB (val 1000000000 ds)):=fun fQ=>by rw[cB,←hv,Mx (by decide) hx fQ];exact aK (zN _)
 rcases Nat.eq_zero_or_pos xs.length with hz | hp
 ·have hxn:xs=[]:=List.length_eq_zero_iff.1 hz
  subst hxn
  simp only[rQ,h0,Int.reduceLT,Int.natCast_zero,eI,List.length_nil,VX,Nat.reduceEqDiff,Nat.reduceAdd]
  exact done (by simp)
 ·obtain⟨m,hm⟩:∃m,xs.length=m+1:=⟨xs.length-1,by omega⟩
  obtain⟨d,hd⟩:∃d,xs[m]? = some d:=⟨_,List.getElem?_eq_getElem (by omega)⟩
  have Dq:(0:Int)<((m+1:Nat):Int):=by omega
  have w1:IntKind.i64.wrap (((m+1:Nat):Int)-1)=(m:Int):=by rw[wrap64 (by omega) (by omega)];omega
  have e1:=aI (f:=tV) (t := .op) (H:=[]) (size:=1) (k := .i64) hd rfl
  by_cases Dp:(d:Int)=0
  ·have hd1:d=0:=by omega
   subst hd1
   have e2:=Jg (f:=tV) (size:=1) (t := .op) (H:=[]) (k2 := .i64) (xs:=xs) (h:=m) F4 (by omega) (by omega)
   have QO:xs=xs.take m++[0]:=by
    have:=List.take_append_drop m xs
    have h3:=(List.getElem?_eq_some_iff.1 hd)
    rw[List.drop_eq_getElem_cons h3.1,h3.2,List.drop_of_length_le (by omega)] at this
    exact this.symm
   simp only[rQ,h0,hm,Dq,w1,e1,e2,Dp,eI,VX,Nat.reduceEqDiff,Nat.reduceAdd]
   refine⟨xs.take m,by simp only[List.length_take];omega,fun d hd=>hx d (List.mem_of_mem_take hd),?_,by simp only[List.length_take];omega,by first | rfl | exact⟨rfl,rfl⟩⟩
   rw[←hv]
   conv=>rhs;rw[QO]
   rw[tE]
   simp
  ·simp only[rQ,h0,hm,Dq,w1,e1,Dp,eI,VX,Nat.reduceEqDiff,Nat.reduceAdd]
   exact done (Pl hm hd (by omega))
theorem Iz {outs:List Nat} {n g m:Nat} {lo:Nat} {w:Bool} {K:VV→aA→Prop} (hd:∀d∈outs,d<1000000000) (hn:n=outs.length) (hlen:outs.length≤70368744177664) (hm:val 1000000000 outs=m) (hk:K (cB m) (dD [.row g (outs.map tV) 1 w] [0])) :
  cZ 184 [.ref 0 g 0 n n] lo [.row g (outs.map tV) 1 w] K:=by
 subst hm
 rw[TC.afC (f:=tV) (tL outs hd hlen) aU hn (Nat.le_refl _) F4 (fun _=>rfl) rfl rfl]
 exact hk
theorem Si {H:aA} (n:Nat):fz depth H (cB n)=some (cB n):=aK (cI n)
theorem rA (n:Int) (h1:n≤9223372036854775807):TC 178 [VI n] (cB n.toNat):=by
 refine TC.walk ⟨true,false⟩ Na rfl (Nat.le_of_ble_eq_true rfl) rfl (oA _) ?_
 simp only[JS,E4,KR,VX,Nat.reduceEqDiff,Nat.reduceAdd]
 refine aP (fun(s:Int×List Nat) ρ H=>s.1≤9223372036854775807∧H=[.row s.2.length (s.2.map tV) 1 true]∧s.2.length≤63∧s.1.toNat*2^s.2.length≤9223372036854775807∧aC 1000000000 n.toNat=s.2++aC 1000000000 s.1.toNat∧ρ 0=VI s.1∧ρ 3 = .ref 0 s.2.length 0 s.2.length s.2.length) (fun s=>s.1.toNat) (n,[]) ⟨h1,rfl,by simp,by simp only[List.length_nil,Nat.pow_zero,Nat.mul_one];omega,rfl,rfl,rfl⟩ ?_
 rintro⟨m,ds⟩ ρ H ⟨hm,rfl,hl,bH,hd,g0,g3⟩
 simp only at hm hl bH hd g0 g3
 by_cases hp:(0:Int)<m
 ·obtain⟨k,rfl⟩:∃k:Nat,m=(k:Int):=⟨m.toNat,by omega⟩
  rw[Int.toNat_natCast] at bH hd
  have hk0:k≠0:=by omega
  have F3:ds.length<63:=by
   rcases Nat.lt_or_ge ds.length 63 with h | h
   ·exact h
   ·have e:2^ds.length=9223372036854775808:=by rw[show ds.length=63 by omega]
    rw[e] at bH
    omega
  have r1:=NM k
  have q1:=OQ k (by omega)
  have a1:=aeC (ds:=ds) (d:=k % 1000000000) (by omega)
  simp only[yH,g0,g3,hp,r1,q1,sY,wC,a1,VX,Nat.reduceEqDiff,Nat.reduceAdd]
  refine⟨(((k / 1000000000:Nat):Int),ds++[k % 1000000000]),?_,by simp only;omega,by simp,by simp;omega,?_,?_,rfl,by simp⟩
  ·simp only[Int.toNat_natCast];exact Nat.div_lt_self (by omega) (by decide)
  ·simp only[Int.toNat_natCast,List.length_append,List.length_singleton,Nat.pow_succ]
   have h1:k / 1000000000*2≤k:=by omega
   have:=Nat.mul_le_mul_right (2^ds.length) h1
   rw[Nat.mul_assoc,Nat.mul_comm 2] at this
   omega
  ·simp only[Int.toNat_natCast]
   rw[hd,jN (by decide) hk0,List.append_assoc]
   rfl
 ·have hz:m.toNat=0:=by omega
  rw[hz,cG,List.append_nil] at hd
  simp only[yH,g0,g3,hp,VX,Nat.reduceEqDiff,Nat.reduceAdd]
  rw[cB,hd]
  exact RD (fun _=>rfl) rfl
theorem vJ (a b:Nat) (ha:(aC 1000000000 a).length≤17592186044416) (hb:(aC 1000000000 b).length≤17592186044416):TC 155 [cB a,cB b] (VI (fB a b)):=by
 refine TC.walk ⟨true,false⟩ Ni rfl (Nat.le_of_ble_eq_true rfl) (by simp[aM,cI]) rfl ?_
 have fin:∀ {x:Int},x=fB a b→fz depth [] (VI x)=some (VI (fB a b)):=fun h=>by rw[h];exact aK rfl
 unfold cB iM
 by_cases hl:(((aC 1000000000 a).length:Nat):Int)=(((aC 1000000000 b).length:Nat):Int)
 ·have B7:(aC 1000000000 a).length=(aC 1000000000 b).length:=by omega
  have w1:IntKind.i64.wrap ((((aC 1000000000 b).length:Nat):Int)-1)=(((aC 1000000000 b).length:Nat):Int)-1:=wrap64 (by omega) (by omega)
  simp only[An,vP,hl,w1,VX,Nat.reduceEqDiff,Nat.reduceAdd]
  refine aP (fun(j:Nat) ρ H=>j≤(aC 1000000000 b).length∧H=[]∧(aC 1000000000 a).drop j=(aC 1000000000 b).drop j∧ρ 0=aQ tV (aC 1000000000 a)∧ρ 1=aQ tV (aC 1000000000 b)∧ρ 5=VI ((j:Int)-1)) (fun j=>j) (aC 1000000000 b).length ⟨Nat.le_refl _,rfl,by rw[List.drop_length,←B7,List.drop_length],rfl,rfl,rfl⟩ ?_
  rintro j ρ H ⟨hj,rfl,hd,h0,h1,h5⟩
  by_cases hz:(0:Int)≤(j:Int)-1
  ·obtain⟨i,rfl⟩:∃i,j=i+1:=⟨j-1,by omega⟩
   obtain⟨x,hx⟩:∃x,(aC 1000000000 a)[i]? = some x:=⟨_,List.getElem?_eq_getElem (by omega)⟩
   obtain⟨y,hy⟩:∃y,(aC 1000000000 b)[i]? = some y:=⟨_,List.getElem?_eq_getElem (by omega)⟩
   have Jy:((i+1:Nat):Int)-1=(i:Int):=by omega
   have e1:=aI (f:=tV) (t := .op) (H:=[]) (size:=1) (k := .i64) hx rfl
   have e2:=aI (f:=tV) (t := .op) (H:=[]) (size:=1) (k := .i64) hy rfl
   rw[Jy] at h5 hz
   have w2:IntKind.i64.wrap ((i:Int)-1)=(i:Int)-1:=wrap64 (by omega) (by omega)
   by_cases AY:(x:Int)=(y:Int)
   ·simp only[pJ,h0,h1,h5,hz,e1,e2,AY,w2,VX,Nat.reduceEqDiff,Nat.reduceAdd]
    have alF:x=y:=by omega
    subst alF
    refine⟨i,by omega,by omega,?_⟩
    obtain⟨g1,g2⟩:=List.getElem?_eq_some_iff.1 hx
    obtain⟨g3,g4⟩:=List.getElem?_eq_some_iff.1 hy
    rw[List.drop_eq_getElem_cons g1,List.drop_eq_getElem_cons g3,g2,g4,hd]
    exact⟨rfl,rfl⟩
   ·by_cases bH:(x:Int)<(y:Int)
    ·simp only[pJ,h0,h1,h5,hz,e1,e2,AY,bH,VX,Nat.reduceEqDiff,Nat.reduceAdd]
     refine fin ?_
     have:=Ew (fP (by decide) a) B7 hx hy hd (by omega)
     rw[cJ (by decide),cJ (by decide)] at this
     simp[fB,this]
    ·simp only[pJ,h0,h1,h5,hz,e1,e2,AY,bH,VX,Nat.reduceEqDiff,Nat.reduceAdd]
     refine fin ?_
     have:=Ew (fP (by decide) b) B7.symm hy hx hd.symm (by omega)
     rw[cJ (by decide),cJ (by decide)] at this
     rw[fB,if_neg (by omega),if_neg (by omega)]
  ·have T3:j=0:=by omega
   subst T3
   simp only[pJ,h0,h1,h5,hz,VX,Nat.reduceEqDiff,Nat.reduceAdd]
   refine fin ?_
   have:=SJ (b:=1000000000) (by decide) (by simpa using hd)
   subst this
   simp[fB]
 ·by_cases bH:(((aC 1000000000 a).length:Nat):Int)<(((aC 1000000000 b).length:Nat):Int)
  ·simp only[An,vP,hl,bH,VX,Nat.reduceEqDiff,Nat.reduceAdd]
   refine fin ?_
   have:=Ek (b:=1000000000) (by decide) (m:=a) (n:=b) (by omega)
   simp[fB,this]
  ·simp only[An,vP,hl,bH,VX,Nat.reduceEqDiff,Nat.reduceAdd]
   refine fin ?_
   have:=Ek (b:=1000000000) (by decide) (m:=b) (n:=a) (by omega)
   rw[fB,if_neg (by omega),if_neg (by omega)]
theorem Kh (ds:List Nat) (i:Nat):TC 186 [iM ds,VI (i:Int)] (tV (ds.getD i 0)):=by
 refine TC.walk ⟨true,false⟩ Kg rfl (Nat.le_of_ble_eq_true rfl) (by simp[aM,zN];rfl) rfl ?_
 by_cases h:(i:Int)<(ds.length:Int)
 ·obtain⟨d,hd⟩:∃d,ds[i]? = some d:=⟨_,List.getElem?_eq_getElem (by omega)⟩
  have e1:=aI (f:=tV) (t := .op) (H:=[]) (size:=1) (k := .i64) hd rfl
  simp only[AL,wP,eI,h,e1,VX,Nat.reduceEqDiff,Nat.reduceAdd]
  rw[List.getD_eq_getElem?_getD,hd]
  exact aK rfl
 ·simp only[AL,wP,eI,h,VX,Nat.reduceEqDiff,Nat.reduceAdd]
  rw[List.getD_eq_getElem?_getD,List.getElem?_eq_none (by omega)]
  exact aK rfl
theorem De (n i:Nat):TC 186 [cB n,VI (i:Int)] (tV (n / 1000000000^i % 1000000000)):=by
 have:=Kh (aC 1000000000 n) i
 rwa [IM (by decide)] at this
theorem HE (a b:Nat) (ha:(aC 1000000000 a).length<17592186044416) (hb:(aC 1000000000 b).length<17592186044416):TC 154 [cB a,cB b] (cB (a+b)):=by
 refine TC.walk ⟨true,false⟩ HM rfl (Nat.le_of_ble_eq_true rfl) (by simp[aM,cI]) (oA _) ?_
 simp only[C7,Bz,KR,VX,Nat.reduceEqDiff,Nat.reduceAdd]
 have hL:=PK (b:=1000000000) (by decide) (m:=a) (n:=b) (k:=17592186044416-1) (by omega) (by omega)
 refine aP (fun(s:Nat×List Nat×Nat) ρ H=>s.1=s.2.1.length∧H=[.row s.2.1.length (s.2.1.map tV) 1 true]∧s.2.2≤1∧aC 1000000000 (a+b)=s.2.1++aC 1000000000 (a / 1000000000^s.1+b / 1000000000^s.1+s.2.2)∧ρ 0=cB a∧ρ 1=cB b∧ρ 5 = .ref 0 s.2.1.length 0 s.2.1.length s.2.1.length∧ρ 6=VI s.2.2∧ρ 7=VI s.1)
  (fun s=>(aC 1000000000 (a+b)).length-s.1) (0,[],0) ⟨rfl,rfl,by simp,by simp,rfl,rfl,rfl,rfl,rfl⟩ ?_
 rintro⟨i,ds,c⟩ ρ H ⟨hi,rfl,hc,hd,g0,g1,g5,g6,g7⟩
 simp only at hi hc hd g5 g6 g7
 have la:=EB (b:=1000000000) (by decide) (n:=a) (i:=i)
 have lb:=EB (b:=1000000000) (by decide) (n:=b) (i:=i)
 have c1:=De a i
 have c2:=De b i
 have m1:=Nat.mod_lt (a / 1000000000^i) (show 0<1000000000 by decide)
 have m2:=Nat.mod_lt (b / 1000000000^i) (show 0<1000000000 by decide)
 have Xh:a / 1000000000^i+b / 1000000000^i+c≠0→aC 1000000000 (a+b)=ds++(a / 1000000000^i % 1000000000+b / 1000000000^i % 1000000000+c) % 1000000000::aC 1000000000 (a / 1000000000^(i+1)+b / 1000000000^(i+1)+(a / 1000000000^i % 1000000000+b / 1000000000^i % 1000000000+c) / 1000000000):=fun h=>by
  rw[hd,X4 (by decide) h,tX,tX]
 generalize a / 1000000000^i=A at *
 generalize b / 1000000000^i=B at *
 by_cases Le:A+B+c=0
 ·have h1:¬(i:Int)<((aC 1000000000 a).length:Int):=by omega
  have h2:¬(i:Int)<((aC 1000000000 b).length:Int):=by omega
  have h3:¬(0:Int)<(c:Int):=by omega
  simp only[lI,g0,g1,g5,g6,g7,cO,h1,h2,h3,VX,Nat.reduceEqDiff,Nat.reduceAdd]
  rw[Le,cG,List.append_nil] at hd
  rw[cB,hd]
  exact RD (fun _=>rfl) rfl
 ·have hdn:=Xh Le
  have bH:i<(aC 1000000000 (a+b)).length:=by
   rw[hdn,List.length_append,List.length_cons]
   omega
  have w1:IntKind.i64.wrap (((A % 1000000000:Nat):Int)+((B % 1000000000:Nat):Int))=((A % 1000000000+B % 1000000000:Nat):Int):=wrapN _ (by omega) (by omega)
  have w2:IntKind.i64.wrap (((A % 1000000000+B % 1000000000:Nat):Int)+(c:Int))=((A % 1000000000+B % 1000000000+c:Nat):Int):=wrapN _ (by omega) (by omega)
  have wi:IntKind.i64.wrap ((i:Int)+1)=((i+1:Nat):Int):=wrapN (i+1) (by omega) (by omega)
  have r1:=NM (A % 1000000000+B % 1000000000+c)
  have q1:=OQ (A % 1000000000+B % 1000000000+c) (by omega)
  have a1:=aeC (ds:=ds) (d:=(A % 1000000000+B % 1000000000+c) % 1000000000) (by omega)
  have alB:aC 1000000000 (a+b)=(ds++[(A % 1000000000+B % 1000000000+c) % 1000000000])++aC 1000000000 (a / 1000000000^(i+1)+b / 1000000000^(i+1)+(A % 1000000000+B % 1000000000+c) / 1000000000):=by rw[hdn,List.append_assoc];rfl
  by_cases h1:(i:Int)<((aC 1000000000 a).length:Int)
  ·simp only[lI,g0,g1,g5,g6,g7,cO,h1,c1,c2,w1,w2,wi,r1,q1,sY,wC,a1,VX,Nat.reduceEqDiff,Nat.reduceAdd]
   refine⟨(i+1,ds++[(A % 1000000000+B % 1000000000+c) % 1000000000],(A % 1000000000+B % 1000000000+c) / 1000000000),by simp only;omega,by simp;omega,by simp,by simp only;omega,alB,?_⟩
   simp only[List.length_append,List.length_singleton]
   try (repeat' apply And.intro)<;>first | rfl | trivial
  ·by_cases h2:(i:Int)<((aC 1000000000 b).length:Int)
   ·simp only[lI,g0,g1,g5,g6,g7,cO,h1,h2,c1,c2,w1,w2,wi,r1,q1,sY,wC,a1,VX,Nat.reduceEqDiff,Nat.reduceAdd]
    refine⟨(i+1,ds++[(A % 1000000000+B % 1000000000+c) % 1000000000],(A % 1000000000+B % 1000000000+c) / 1000000000),by simp only;omega,by simp;omega,by simp,by simp only;omega,alB,?_⟩
    simp only[List.length_append,List.length_singleton]
    try (repeat' apply And.intro)<;>first | rfl | trivial
   ·have h3:(0:Int)<(c:Int):=by omega
    simp only[lI,g0,g1,g5,g6,g7,cO,h1,h2,h3,c1,c2,w1,w2,wi,r1,q1,sY,wC,a1,VX,Nat.reduceEqDiff,Nat.reduceAdd]
    refine⟨(i+1,ds++[(A % 1000000000+B % 1000000000+c) % 1000000000],(A % 1000000000+B % 1000000000+c) / 1000000000),by simp only;omega,by simp;omega,by simp,by simp only;omega,alB,?_⟩
    simp only[List.length_append,List.length_singleton]
    try (repeat' apply And.intro)<;>first | rfl | trivial
end Go.PM
namespace Go.PM
theorem jU {es:List VV} {g e:Nat} {w:Bool}:aH [.row g es e w] 0 g=some (es,e,w):=aU
theorem Rj {x y:Nat} {ρ:dH} {Q:VQ} (hx:(aC 4294967296 x).length≤17592186044416) (hl:(aC 4294967296 y).length≤(aC 4294967296 x).length) (h0:ρ 0=bO x) (h1:ρ 1=bO y) (h5:ρ 5 = .ref 0 0 0 ((aC 4294967296 x).length+1) ((aC 4294967296 x).length+1)) (h6:ρ 6=VK .u64 0) (h20:ρ 20=VI (aC 4294967296 x).length) (h21:ρ 21=VI 0)
  (hQ:∀(bI:dH) (outs:List Nat) (c:Nat),bI 0=bO x→bI 5 = .ref 0 0 0 ((aC 4294967296 x).length+1) ((aC 4294967296 x).length+1)→bI 6=VK .u64 (c:Nat)→outs.length=(aC 4294967296 x).length+1→(∀d∈outs,d<4294967296)→c≤1→x+y=val 4294967296 (outs.take (aC 4294967296 x).length)+4294967296^(aC 4294967296 x).length*c→Q (.exit 0) bI [.row 0 (outs.map uV) 1 true]) :
  VW ⟨true,false⟩ 0 (.loop lH) Q ρ [.row 0 ((List.replicate ((aC 4294967296 x).length+1) 0).map uV) 1 true]:=by
 unfold bO at h0 h1 hQ
 have vx:=cJ (b:=4294967296) (by decide) x
 have vy:=cJ (b:=4294967296) (by decide) y
 have lx:=fP (b:=4294967296) (by decide) x
 have ly:=fP (b:=4294967296) (by decide) y
 generalize aC 4294967296 x=xs at *
 generalize aC 4294967296 y=ys at *
 refine aP (fun(s:Nat×List Nat×Nat) ρ H=>s.1≤xs.length∧H=[.row 0 (s.2.1.map uV) 1 true]∧s.2.1.length=xs.length+1∧(∀d∈s.2.1,d<4294967296)∧s.2.2≤1∧val 4294967296 (xs.take s.1)+val 4294967296 (ys.take s.1)=val 4294967296 (s.2.1.take s.1)+4294967296^s.1*s.2.2 ∧
  ρ 0=Bc xs∧ρ 1=Bc ys∧ρ 5 = .ref 0 0 0 (xs.length+1) (xs.length+1)∧ρ 6=VK .u64 s.2.2∧ρ 20=VI xs.length∧ρ 21=VI s.1) (fun s=>xs.length-s.1) (0,List.replicate (xs.length+1) 0,0) ?_ ?_
 ·exact⟨Nat.zero_le _,rfl,by simp,AQ (by decide) _,by simp,by simp[val],h0,h1,h5,h6,h20,h21⟩
 ·rintro⟨i,outs,c⟩ ρ H ⟨hi,rfl,jR,lW,hc,hv,g0,g1,g5,g6,g20,g21⟩
  simp only at hi jR lW hc hv g6 g21
  by_cases cK:(i:Int)<(xs.length:Int)
  ·obtain⟨a,ha⟩:∃a,xs[i]? = some a:=⟨_,List.getElem?_eq_getElem (by omega)⟩
   have la:=lx a (List.mem_of_getElem? ha)
   have e1:=aI (f:=uV) (t := .op) (H:=[.row 0 (outs.map uV) 1 true]) (size:=1) (k := .i64) ha rfl
   have w1:IntKind.u64.wrap (a:Int)=(a:Int):=fR _ (by omega)
   have w2:IntKind.u64.wrap ((c:Int)+(a:Int))=((c+a:Nat):Int):=by rw[←Int.natCast_add];exact fR _ (by omega)
   have wi:IntKind.i64.wrap ((i:Int)+1)=((i+1:Nat):Int):=wrapN (i+1) (by omega) (by omega)
   have e3:=aS (H:=[.row 0 (outs.map uV) 1 true]) (b:=0) (g:=0) (o:=0) (n:=xs.length+1) (c:=xs.length+1) (i:=i) (k := .i64) jU (by omega)
   have e4:∀s:Nat,cD 0 1 (.ptr 0 0 i 0) (uV s) [.row 0 (outs.map uV) 1 true]=some [.row 0 ((outs.set i s).map uV) 1 true]:=fun s=>by
    rw[eH (f:=uV) (e:=1) jU (by omega) (Nat.le_refl _) rfl rfl]
    rfl
   have step:∀b,b<4294967296→(∀d,ys[i]? = some d→d=b)→(ys.length≤i→b=0) →
     (i+1≤xs.length∧(outs.set i ((c+a+b) % 4294967296)).length=xs.length+1∧(∀d∈outs.set i ((c+a+b) % 4294967296),d<4294967296)∧(c+a+b) / 4294967296≤1∧val 4294967296 (xs.take (i+1))+val 4294967296 (ys.take (i+1))=val 4294967296 ((outs.set i ((c+a+b) % 4294967296)).take (i+1))+4294967296^(i+1)*((c+a+b) / 4294967296)):=by
    intro b hb h1 h2
    refine⟨by omega,by rw[List.length_set];exact jR,mN lW (Nat.mod_lt _ (by decide)),by omega,?_⟩
    have hy:val 4294967296 (ys.take (i+1))=val 4294967296 (ys.take i)+4294967296^i*b:=by
     cases Tl:ys[i]? with
     | some d=>rw[bD Tl,h1 d Tl]
     |
      none =>
      have hle:=List.getElem?_eq_none_iff.1 Tl
      rw[h2 hle,kD hle,kD (by omega),Nat.mul_zero,Nat.add_zero]
    rw[bD ha,hy,eT (by omega),Nat.pow_succ]
    exact FO hv rfl (Nat.mod_add_div _ _)
   by_cases bH:(i:Int)<(ys.length:Int)
   ·obtain⟨b,hb⟩:∃b,ys[i]? = some b:=⟨_,List.getElem?_eq_getElem (by omega)⟩
    have lb:=ly b (List.mem_of_getElem? hb)
    have e2:=aI (f:=uV) (t := .op) (H:=[.row 0 (outs.map uV) 1 true]) (size:=1) (k := .i64) hb rfl
    have w3:IntKind.u64.wrap (b:Int)=(b:Int):=fR _ (by omega)
    have w4:IntKind.u64.wrap (((c+a:Nat):Int)+(b:Int))=((c+a+b:Nat):Int):=by rw[←Int.natCast_add];exact fR _ (by omega)
    obtain⟨s1,s2,s3,s4,s5⟩:=step b lb (fun d hd=>by rw[hb] at hd;injection hd with hd;exact hd.symm) (fun h=>by omega)
    simp only[lH,g0,g1,g5,g6,g20,g21,cK,bH,e1,e2,e3,e4,w1,w2,w3,w4,wi,wrap32,tU,VX,Nat.reduceEqDiff,Nat.reduceAdd]
    exact⟨(i+1,outs.set i ((c+a+b) % 4294967296),(c+a+b) / 4294967296),by simp only;omega,s1,rfl,s2,s3,s4,s5,by (repeat' apply And.intro)<;>first | rfl | trivial⟩
   ·obtain⟨s1,s2,s3,s4,s5⟩:=step 0 (by decide) (fun d hd=>by have:=(List.getElem?_eq_some_iff.1 hd).1;omega) (fun _=>rfl)
    simp only[Nat.add_zero] at s2 s3 s4 s5
    simp only[lH,g0,g1,g5,g6,g20,g21,cK,bH,e1,e3,e4,w1,w2,wi,wrap32,tU,VX,Nat.reduceEqDiff,Nat.reduceAdd]
    exact⟨(i+1,outs.set i ((c+a) % 4294967296),(c+a) / 4294967296),by simp only;omega,s1,rfl,s2,s3,s4,s5,by (repeat' apply And.intro)<;>first | rfl | trivial⟩
  ·have lS:i=xs.length:=by omega
   subst lS
   simp only[lH,g0,g1,g5,g6,g20,g21,cK,VX,Nat.reduceEqDiff,Nat.reduceAdd]
   refine hQ _ outs c g0 g5 g6 jR lW hc ?_
   rw[List.take_length,List.take_of_length_le (l:=ys) hl,vx,vy] at hv
   exact hv
theorem Dm (a b:Nat) (ha:(aC 4294967296 a).length≤17592186044416) (hb:(aC 4294967296 b).length≤17592186044416):TC 145 [bO a,bO b] (bO (a+b)):=by
 refine TC.walk ⟨true,false⟩ HY rfl (Nat.le_of_ble_eq_true rfl) (by simp[aM,bU]) (rD _) ?_
 have mk:∀n:Nat,n≤17592186044416→Bn [.int .u32 0] 4 (VI ((n+1:Nat):Int)) (VI ((n+1:Nat):Int)) []=some (.ref 0 0 0 (n+1) (n+1),[.row 0 ((List.replicate (n+1) 0).map uV) 1 true]):=fun n hn=>uO (f:=uV) (x:=0) rfl (by omega) (by omega)
 have fin:∀(x y:Nat) (outs:List Nat) (c:Nat),(aC 4294967296 x).length≤17592186044416→x+y=a+b→outs.length=(aC 4294967296 x).length+1→(∀d∈outs,d<4294967296)→c≤1→x+y=val 4294967296 (outs.take (aC 4294967296 x).length)+4294967296^(aC 4294967296 x).length*c →
   bP 1 (.ref 0 0 0 ((aC 4294967296 x).length+1) ((aC 4294967296 x).length+1)) (VI ((aC 4294967296 x).length:Nat)) [.row 0 (outs.map uV) 1 true]=some (.ptr 0 0 (0+(aC 4294967296 x).length) 0) ∧
   cD 0 1 (.ptr 0 0 (aC 4294967296 x).length 0) (uV (c % 4294967296)) [.row 0 (outs.map uV) 1 true]=some [.row 0 ((outs.set (aC 4294967296 x).length (c % 4294967296)).map uV) 1 true] ∧
   ∀lo K,(∀k,k≤(aC 4294967296 x).length+1→(outs.set (aC 4294967296 x).length (c % 4294967296)).take k=aC 4294967296 (a+b)→K (.ref 0 0 0 k ((aC 4294967296 x).length+1)) [.row 0 ((outs.set (aC 4294967296 x).length (c % 4294967296)).map uV) 1 true]) →
    cZ 182 [.ref 0 0 0 ((aC 4294967296 x).length+1) ((aC 4294967296 x).length+1)] lo [.row 0 ((outs.set (aC 4294967296 x).length (c % 4294967296)).map uV) 1 true] K:=by
  intro x y outs c hx AY jR lW hc hv
  have IA:=mN (i:=(aC 4294967296 x).length) lW (show c % 4294967296<4294967296 from Nat.mod_lt _ (by decide))
  have wU:val 4294967296 (outs.set (aC 4294967296 x).length (c % 4294967296))=a+b:=by
   have h1:=eT (b:=4294967296) (xs:=outs) (i:=(aC 4294967296 x).length) (d:=c % 4294967296) (by omega)
   rw[List.take_of_length_le (by rw[List.length_set];omega)] at h1
   rw[h1,Nat.mod_eq_of_lt (Nat.lt_of_le_of_lt hc (by decide)),←hv,AY]
  refine⟨aS jU (by omega),?_,?_⟩
  ·rw[eH (f:=uV) (e:=1) jU (by omega) (Nat.le_refl _) rfl rfl]
   rfl
  ·intro lo K hk
   have alN:(outs.set (aC 4294967296 x).length (c % 4294967296)).length=(aC 4294967296 x).length+1:=by rw[List.length_set];exact jR
   exact sG jU (by omega) (Nat.le_refl _) (by omega) (fun d hd=>IA d (List.mem_of_mem_take hd)) (by rw[List.take_of_length_le (by omega)];exact wU) hk
 by_cases hsw:(((aC 4294967296 a).length:Nat):Int)<(((aC 4294967296 b).length:Nat):Int)
 ·have w1:IntKind.i64.wrap (((aC 4294967296 b).length:Int)+1)=(((aC 4294967296 b).length+1:Nat):Int):=wrapN _ (by omega) (by omega)
  simp only[yQ,vA,bO,hsw,w1,mk _ hb,VX,Nat.reduceEqDiff,Nat.reduceAdd]
  refine Rj (x:=b) (y:=a) hb (by omega) rfl rfl rfl rfl rfl rfl ?_
  intro bI outs c g0 g5 g6 jR lW hc hv
  obtain⟨e1,e2,e3⟩:=fin b a outs c hb (by omega) jR lW hc hv
  simp only[g0,g5,g6,bO,wrap32,e1,e2,VX,Nat.reduceEqDiff,Nat.reduceAdd]
  refine e3 _ _ fun k hk he => ?_
  simp only[VX,Nat.reduceEqDiff,Nat.reduceAdd]
  exact Qe jU (by rw[List.length_set];omega) hk he
 ·have w1:IntKind.i64.wrap (((aC 4294967296 a).length:Int)+1)=(((aC 4294967296 a).length+1:Nat):Int):=wrapN _ (by omega) (by omega)
  simp only[yQ,vA,bO,hsw,w1,mk _ ha,VX,Nat.reduceEqDiff,Nat.reduceAdd]
  refine Rj (x:=a) (y:=b) ha (by omega) rfl rfl rfl rfl rfl rfl ?_
  intro bI outs c g0 g5 g6 jR lW hc hv
  obtain⟨e1,e2,e3⟩:=fin a b outs c ha rfl jR lW hc hv
  simp only[g0,g5,g6,bO,wrap32,e1,e2,VX,Nat.reduceEqDiff,Nat.reduceAdd]
  refine e3 _ _ fun k hk he => ?_
  simp only[VX,Nat.reduceEqDiff,Nat.reduceAdd]
  exact Qe jU (by rw[List.length_set];omega) hk he
end Go.PM
namespace Go.PM
theorem K8 {x:Int} {r:Nat} (h:x+4294967296=r) (hx:x<0) (hr:0≤x+4294967296):IntKind.u32.wrap x=(r:Int):=by rw[IntKind.wrap_u32];omega
theorem Ul (n:Nat) (hn:n≤70368744177664):Bn [.int .u32 0] 4 (VI (n:Int)) (VI (n:Int)) []=some (.ref 0 0 0 n n,[.row 0 ((List.replicate n 0).map uV) 1 true]):=uO (f:=uV) (x:=0) rfl (by omega) (by omega)
theorem O6 {outs:List Nat} {i d:Nat} (hi:i<outs.length):cD 0 1 (.ptr 0 0 i 0) (uV d) [.row 0 (outs.map uV) 1 true]=some [.row 0 ((outs.set i d).map uV) 1 true]:=by
 rw[eH (f:=uV) (e:=1) jU hi (Nat.le_refl _) rfl rfl]
 rfl
theorem DH (a b:Nat) (F9:b≤a) (ha:(aC 4294967296 a).length≤17592186044416):TC 146 [bO a,bO b] (bO (a-b)):=by
 refine TC.walk ⟨true,false⟩ Io rfl (Nat.le_of_ble_eq_true rfl) (by simp[aM,bU]) (rD _) ?_
 have va:=cJ (b:=4294967296) (by decide) a
 have vb:=cJ (b:=4294967296) (by decide) b
 have la:=fP (b:=4294967296) (by decide) a
 have lb:=fP (b:=4294967296) (by decide) b
 have hle:=eJ (b:=4294967296) (by decide) F9
 unfold bO
 generalize aC 4294967296 a=xs at *
 generalize aC 4294967296 b=ys at *
 simp only[DD,Bp,Ul xs.length (by omega),VX,Nat.reduceEqDiff,Nat.reduceAdd]
 refine aP (fun(s:Nat×List Nat×Nat) ρ H=>s.1≤xs.length∧H=[.row 0 (s.2.1.map uV) 1 true]∧s.2.1.length=xs.length∧(∀d∈s.2.1,d<4294967296)∧s.2.2≤1∧val 4294967296 (xs.take s.1)+4294967296^s.1*s.2.2=val 4294967296 (s.2.1.take s.1)+val 4294967296 (ys.take s.1) ∧
  ρ 0=Bc xs∧ρ 1=Bc ys∧ρ 5 = .ref 0 0 0 xs.length xs.length∧ρ 6=VI s.2.2∧ρ 13=VI xs.length∧ρ 14=VI s.1) (fun s=>xs.length-s.1) (0,List.replicate xs.length 0,0) ⟨Nat.zero_le _,rfl,by simp,AQ (by decide) _,by simp,by simp[val],rfl,rfl,rfl,rfl,rfl,rfl⟩ ?_
 rintro⟨i,outs,l⟩ ρ H ⟨hi,rfl,jR,lW,hc,hv,g0,g1,g5,g6,g13,g14⟩
 simp only at hi jR lW hc hv g6 g14
 by_cases cK:(i:Int)<(xs.length:Int)
 ·obtain⟨x,hx⟩:∃x,xs[i]? = some x:=⟨_,List.getElem?_eq_getElem (by omega)⟩
  have lx:=la x (List.mem_of_getElem? hx)
  have e1:=aI (f:=uV) (t := .op) (H:=[.row 0 (outs.map uV) 1 true]) (size:=1) (k := .i64) hx rfl
  have w1:IntKind.i64.wrap (x:Int)=(x:Int):=wrapN x rfl (by omega)
  have w2:IntKind.i64.wrap ((x:Int)-(l:Int))=(x:Int)-(l:Int):=wrap64 (by omega) (by omega)
  have wi:IntKind.i64.wrap ((i:Int)+1)=((i+1:Nat):Int):=wrapN (i+1) (by omega) (by omega)
  have e3:bP 1 (.ref 0 0 0 xs.length xs.length) (VI i) [.row 0 (outs.map uV) 1 true]=some (.ptr 0 0 i 0):=by rw[aS jU (by omega),Nat.zero_add]
  have e4:∀s:Nat,cD 0 1 (.ptr 0 0 i 0) (uV s) [.row 0 (outs.map uV) 1 true]=some [.row 0 ((outs.set i s).map uV) 1 true]:=fun s=>O6 (by omega)
  have step:∀y r l':Nat,y<4294967296→r<4294967296→l'≤1→(∀d,ys[i]? = some d→d=y)→(ys.length≤i→y=0)→r+y+l=x+4294967296*l' →
    i+1≤xs.length∧(outs.set i r).length=xs.length∧(∀d∈outs.set i r,d<4294967296)∧l'≤1∧val 4294967296 (xs.take (i+1))+4294967296^(i+1)*l'=val 4294967296 ((outs.set i r).take (i+1))+val 4294967296 (ys.take (i+1)):=by
   intro y r l' _ hr B7 h1 h2 hd
   refine⟨by omega,by rw[List.length_set];exact jR,mN lW hr,B7,?_⟩
   have hy:val 4294967296 (ys.take (i+1))=val 4294967296 (ys.take i)+4294967296^i*y:=by
    cases Tl:ys[i]? with
    | some d=>rw[bD Tl,h1 d Tl]
    |
     none =>
     have hle:=List.getElem?_eq_none_iff.1 Tl
     rw[h2 hle,kD hle,kD (by omega),Nat.mul_zero,Nat.add_zero]
   rw[bD hx,hy,eT (by omega),Nat.pow_succ]
   exact Jv hv hd
  by_cases bH:(i:Int)<(ys.length:Int)
  ·obtain⟨y,hy⟩:∃y,ys[i]? = some y:=⟨_,List.getElem?_eq_getElem (by omega)⟩
   have ly:=lb y (List.mem_of_getElem? hy)
   have e2:=aI (f:=uV) (t := .op) (H:=[.row 0 (outs.map uV) 1 true]) (size:=1) (k := .i64) hy rfl
   have w3:IntKind.i64.wrap (y:Int)=(y:Int):=wrapN y rfl (by omega)
   have w4:IntKind.i64.wrap ((x:Int)-(l:Int)-(y:Int))=(x:Int)-(l:Int)-(y:Int):=wrap64 (by omega) (by omega)
   by_cases lM:(x:Int)-(l:Int)-(y:Int)<0
   ·obtain⟨r,hr⟩:∃r:Nat,r+y+l=x+4294967296:=⟨x+4294967296-l-y,by omega⟩
    have w5:IntKind.u32.wrap ((x:Int)-(l:Int)-(y:Int))=(r:Int):=K8 (by omega) lM (by omega)
    obtain⟨s1,s2,s3,s4,s5⟩:=step y r 1 ly (by omega) (Nat.le_refl _) (fun d hd=>by rw[hy] at hd;injection hd with hd;exact hd.symm) (fun h=>by omega) (by omega)
    simp only[jH,g0,g1,g5,g6,g13,g14,cK,bH,lM,e1,e2,e3,e4,w1,w2,w3,w4,w5,wi,VX,Nat.reduceEqDiff,Nat.reduceAdd]
    exact⟨(i+1,outs.set i r,1),by simp only;omega,s1,rfl,s2,s3,s4,s5,by (repeat' apply And.intro)<;>first | rfl | trivial⟩
   ·obtain⟨r,hr⟩:∃r:Nat,r+y+l=x:=⟨x-l-y,by omega⟩
    have w5:IntKind.u32.wrap ((x:Int)-(l:Int)-(y:Int))=(r:Int):=by rw[IntKind.wrap_u32];omega
    obtain⟨s1,s2,s3,s4,s5⟩:=step y r 0 ly (by omega) (by omega) (fun d hd=>by rw[hy] at hd;injection hd with hd;exact hd.symm) (fun h=>by omega) (by omega)
    simp only[jH,g0,g1,g5,g6,g13,g14,cK,bH,lM,e1,e2,e3,e4,w1,w2,w3,w4,w5,wi,VX,Nat.reduceEqDiff,Nat.reduceAdd]
    exact⟨(i+1,outs.set i r,0),by simp only;omega,s1,rfl,s2,s3,s4,s5,by (repeat' apply And.intro)<;>first | rfl | trivial⟩
  ·by_cases lM:(x:Int)-(l:Int)<0
   ·obtain⟨r,hr⟩:∃r:Nat,r+l=x+4294967296:=⟨x+4294967296-l,by omega⟩
    have w5:IntKind.u32.wrap ((x:Int)-(l:Int))=(r:Int):=K8 (by omega) lM (by omega)
    obtain⟨s1,s2,s3,s4,s5⟩:=step 0 r 1 (by decide) (by omega) (Nat.le_refl _) (fun d hd=>by have:=(List.getElem?_eq_some_iff.1 hd).1;omega) (fun _=>rfl) (by omega)
    simp only[jH,g0,g1,g5,g6,g13,g14,cK,bH,lM,e1,e3,e4,w1,w2,w5,wi,VX,Nat.reduceEqDiff,Nat.reduceAdd]
    exact⟨(i+1,outs.set i r,1),by simp only;omega,s1,rfl,s2,s3,s4,s5,by (repeat' apply And.intro)<;>first | rfl | trivial⟩
   ·obtain⟨r,hr⟩:∃r:Nat,r+l=x:=⟨x-l,by omega⟩
    have w5:IntKind.u32.wrap ((x:Int)-(l:Int))=(r:Int):=by rw[IntKind.wrap_u32];omega
    obtain⟨s1,s2,s3,s4,s5⟩:=step 0 r 0 (by decide) (by omega) (by omega) (fun d hd=>by have:=(List.getElem?_eq_some_iff.1 hd).1;omega) (fun _=>rfl) (by omega)
    simp only[jH,g0,g1,g5,g6,g13,g14,cK,bH,lM,e1,e3,e4,w1,w2,w5,wi,VX,Nat.reduceEqDiff,Nat.reduceAdd]
    exact⟨(i+1,outs.set i r,0),by simp only;omega,s1,rfl,s2,s3,s4,s5,by (repeat' apply And.intro)<;>first | rfl | trivial⟩
 ·have lS:i=xs.length:=by omega
  subst lS
  rw[List.take_length,List.take_of_length_le (l:=ys) hle,List.take_of_length_le (l:=outs) (by omega),va,vb] at hv
  have fG:=pF lW
  rw[jR] at fG
  have wU:val 4294967296 outs=a-b:=by
   rcases Nat.lt_or_ge l 1 with h | h
   ·have:l=0:=by omega
    subst this
    rw[Nat.mul_zero] at hv
    omega
   ·have:l=1:=by omega
    subst this
    rw[Nat.mul_one] at hv
    omega
  simp only[jH,g0,g1,g5,g6,g13,g14,cK,VX,Nat.reduceEqDiff,Nat.reduceAdd]
  refine sG (m:=a-b) jU (by omega) (Nat.le_refl _) (by omega) (fun d hd=>lW d (List.mem_of_mem_take hd)) (by rw[List.take_of_length_le (by omega)];exact wU) fun k hk he => ?_
  simp only[VX,Nat.reduceEqDiff,Nat.reduceAdd]
  exact Qe jU (by omega) hk he
theorem SL {P Q A B Y x c r q o y W:Nat} (M6:A+P*Q*c=B+P*(x*Y)) (h1:r+W*q=c+(x*y+o)):A+P*Q*r+P*Q*W*q=B+P*Q*o+P*(x*(Y+Q*y)):=by
 have h2:P*Q*(r+W*q)=P*Q*(c+(x*y+o)):=by rw[h1]
 grind
theorem iT (a b:Nat) (ha:(aC 4294967296 a).length≤17592186044416) (hb:(aC 4294967296 b).length≤17592186044416):TC 143 [bO a,bO b] (bO (a*b)):=by
 refine TC.walk ⟨true,false⟩ Ik rfl (Nat.le_of_ble_eq_true rfl) (by simp[aM,bU]) (rD _) ?_
 have va:=cJ (b:=4294967296) (by decide) a
 have vb:=cJ (b:=4294967296) (by decide) b
 have la:=fP (b:=4294967296) (by decide) a
 have lb:=fP (b:=4294967296) (by decide) b
 unfold bO
 generalize aC 4294967296 a=xs at *
 generalize aC 4294967296 b=ys at *
 have w0:IntKind.i64.wrap ((xs.length:Int)+(ys.length:Int))=((xs.length+ys.length:Nat):Int):=wrapN _ (by omega) (by omega)
 simp only[DF,BH,w0,Ul (xs.length+ys.length) (by omega),VX,Nat.reduceEqDiff,Nat.reduceAdd]
 generalize hN:xs.length+ys.length=N at *
 refine aP (fun(s:Nat×List Nat) ρ H=>s.1≤xs.length∧H=[.row 0 (s.2.map uV) 1 true]∧s.2.length=N∧(∀d∈s.2,d<4294967296)∧val 4294967296 (s.2.take (s.1+ys.length))=val 4294967296 (xs.take s.1)*b ∧
  ρ 0=Bc xs∧ρ 1=Bc ys∧ρ 5 = .ref 0 0 0 N N∧ρ 17=Bc xs∧ρ 18=VI xs.length∧ρ 19=VI s.1) (fun s=>xs.length-s.1) (0,List.replicate N 0) ⟨Nat.zero_le _,rfl,by simp,AQ (by decide) _,by simp[val,List.take_replicate,rW],rfl,rfl,rfl,rfl,rfl,rfl⟩ ?_
 rintro⟨i,outs⟩ ρ H ⟨hi,rfl,jR,lW,hv,g0,g1,g5,g17,g18,g19⟩
 simp only at hi jR lW hv g19
 by_cases cK:(i:Int)<(xs.length:Int)
 ·obtain⟨x,hx⟩:∃x,xs[i]? = some x:=⟨_,List.getElem?_eq_getElem (by omega)⟩
  have lx:=la x (List.mem_of_getElem? hx)
  have e1:=aI (f:=uV) (t := .op) (H:=[.row 0 (outs.map uV) 1 true]) (size:=1) (k := .i64) hx rfl
  simp only[sR,g0,g1,g5,g17,g18,g19,cK,e1,VX,Nat.reduceEqDiff,Nat.reduceAdd]
  refine aP (fun(s:Nat×List Nat×Nat) ρ H=>s.1≤ys.length∧H=[.row 0 (s.2.1.map uV) 1 true]∧s.2.1.length=N∧(∀d∈s.2.1,d<4294967296)∧s.2.2<4294967296 ∧
   val 4294967296 (s.2.1.take (i+s.1))+4294967296^(i+s.1)*s.2.2=val 4294967296 (outs.take (i+s.1))+4294967296^i*(x*val 4294967296 (ys.take s.1))∧(∀j,i+s.1≤j→s.2.1[j]? = outs[j]?) ∧
   ρ 0=Bc xs∧ρ 1=Bc ys∧ρ 5 = .ref 0 0 0 N N∧ρ 6=VI i∧ρ 7=uV x∧ρ 8=VK .u64 s.2.2∧ρ 17=Bc xs∧ρ 18=VI xs.length∧ρ 19=VI i∧ρ 24=Bc ys∧ρ 25=VI ys.length∧ρ 26=VI s.1) (fun s=>ys.length-s.1) (0,outs,0) ⟨Nat.zero_le _,rfl,jR,lW,by simp,by simp[val],fun _ _=>rfl,by (repeat' apply And.intro)<;>first | rfl | trivial⟩ ?_
  rintro⟨k,os,c⟩ NP H ⟨hk,rfl,P3,PB,hc,M6,Ga,k0,k1,k5,k6,k7,k8,It,Yt,k19,k24,k25,k26⟩
  simp only at hk P3 PB hc M6 Ga k8 k26
  have wi:IntKind.i64.wrap ((i:Int)+1)=((i+1:Nat):Int):=wrapN (i+1) (by omega) (by omega)
  by_cases hkn:(k:Int)<(ys.length:Int)
  ·obtain⟨y,hy⟩:∃y,ys[k]? = some y:=⟨_,List.getElem?_eq_getElem (by omega)⟩
   have ly:=lb y (List.mem_of_getElem? hy)
   obtain⟨o,ho⟩:∃o,os[i+k]? = some o:=⟨_,List.getElem?_eq_getElem (by omega)⟩
   have lo:=PB o (List.mem_of_getElem? ho)
   have ZM:outs[i+k]? = some o:=by rw[←Ga (i+k) (Nat.le_refl _)];exact ho
   have f1:=aI (f:=uV) (t := .op) (H:=[.row 0 (os.map uV) 1 true]) (size:=1) (k := .i64) hy rfl
   have w1:IntKind.i64.wrap ((i:Int)+(k:Int))=((i+k:Nat):Int):=wrapN _ (by omega) (by omega)
   have f2:bP 1 (.ref 0 0 0 N N) (VI ((i+k:Nat):Int)) [.row 0 (os.map uV) 1 true]=some (.ptr 0 0 (i+k) 0):=by rw[aS jU (by omega),Nat.zero_add]
   have f3:cN false 1 (.ptr 0 0 (i+k) 0) [.row 0 (os.map uV) 1 true]=some (uV o):=jD jU ho
   have f4:∀s:Nat,cD 0 1 (.ptr 0 0 (i+k) 0) (uV s) [.row 0 (os.map uV) 1 true]=some [.row 0 ((os.set (i+k) s).map uV) 1 true]:=fun s=>O6 (by omega)
   have AY:x*y≤4294967295*4294967295:=Nat.mul_le_mul (by omega) (by omega)
   have w2:IntKind.u64.wrap (x:Int)=(x:Int):=fR _ (by omega)
   have w3:IntKind.u64.wrap (y:Int)=(y:Int):=fR _ (by omega)
   have w4:IntKind.u64.wrap (o:Int)=(o:Int):=fR _ (by omega)
   have w5:IntKind.u64.wrap ((x:Int)*(y:Int))=((x*y:Nat):Int):=by rw[←Int.natCast_mul];exact fR _ (by omega)
   have w6:IntKind.u64.wrap (((x*y:Nat):Int)+(o:Int))=((x*y+o:Nat):Int):=by rw[←Int.natCast_add];exact fR _ (by omega)
   have w7:IntKind.u64.wrap ((c:Int)+((x*y+o:Nat):Int))=((c+(x*y+o):Nat):Int):=by rw[←Int.natCast_add];exact fR _ (by omega)
   have wk:IntKind.i64.wrap ((k:Int)+1)=((k+1:Nat):Int):=wrapN (k+1) (by omega) (by omega)
   simp only[tS,k0,k1,k5,k6,k7,k8,It,Yt,k19,k24,k25,k26,hkn,f1,f2,f3,f4,w1,w2,w3,w4,w5,w6,w7,wk,wrap32,tU,VX,Nat.reduceEqDiff,Nat.reduceAdd]
   have hq:(c+(x*y+o)) / 4294967296<4294967296:=Nat.div_lt_of_lt_mul (by omega)
   refine⟨(k+1,os.set (i+k) ((c+(x*y+o)) % 4294967296),(c+(x*y+o)) / 4294967296),by simp only;omega,by omega,rfl,by rw[List.length_set];exact P3,mN PB (Nat.mod_lt _ (by decide)),hq,?_,fun j hj => ?_,by (repeat' apply And.intro)<;>first | rfl | trivial⟩
   ·have h1:=Nat.mod_add_div (c+(x*y+o)) 4294967296
    rw[←Nat.add_assoc,eT (by omega),bD ZM,bD hy,Nat.pow_succ]
    rw[Nat.pow_add] at M6 ⊢
    exact SL M6 h1
   ·rw[List.getElem?_set_ne (by omega)]
    exact Ga j (by omega)
  ·have hke:k=ys.length:=by omega
   subst hke
   rw[List.take_length,vb,hv] at M6
   have w1:IntKind.i64.wrap ((i:Int)+(ys.length:Int))=((i+ys.length:Nat):Int):=wrapN _ (by omega) (by omega)
   have f2:bP 1 (.ref 0 0 0 N N) (VI ((i+ys.length:Nat):Int)) [.row 0 (os.map uV) 1 true]=some (.ptr 0 0 (i+ys.length) 0):=by rw[aS jU (by omega),Nat.zero_add]
   have f4:∀s:Nat,cD 0 1 (.ptr 0 0 (i+ys.length) 0) (uV s) [.row 0 (os.map uV) 1 true]=some [.row 0 ((os.set (i+ys.length) s).map uV) 1 true]:=fun s=>O6 (by omega)
   simp only[tS,k0,k1,k5,k6,k7,k8,It,Yt,k19,k24,k25,k26,hkn,f2,f4,w1,wi,wrap32,VX,Nat.reduceEqDiff,Nat.reduceAdd]
   refine⟨(i+1,os.set (i+ys.length) (c % 4294967296)),by simp only;omega,by omega,rfl,by rw[List.length_set];exact P3,mN PB (Nat.mod_lt _ (by decide)),?_,by (repeat' apply And.intro)<;>first | rfl | trivial⟩
   rw[show i+1+ys.length=i+ys.length+1 by omega,eT (by omega),Nat.mod_eq_of_lt hc,M6,bD hx,Nat.add_mul,Nat.mul_assoc]
 ·have lS:i=xs.length:=by omega
  subst lS
  rw[hN,List.take_length,va,List.take_of_length_le (by omega)] at hv
  simp only[sR,g0,g1,g5,g17,g18,g19,cK,VX,Nat.reduceEqDiff,Nat.reduceAdd]
  refine sG (m:=a*b) jU (by omega) (Nat.le_refl _) (by omega) (fun d hd=>lW d (List.mem_of_mem_take hd)) (by rw[List.take_of_length_le (by omega)];exact hv) fun k hk he => ?_
  simp only[VX,Nat.reduceEqDiff,Nat.reduceAdd]
  exact Qe jU (by omega) hk he
end Go.PM
namespace Go.PM
theorem set_drop {xs:List Nat} {i d:Nat} (h:i<xs.length):(xs.set i d).drop i=d::xs.drop (i+1):=by
 rw[List.drop_eq_getElem_cons (by rw[List.length_set];exact h),List.getElem_set_self,M4 h]
theorem U6 (n k:Nat) (hn:n≤70368744177664) {H:aA}:Bn [.int .u32 0] 4 (VI (n:Int)) (VI (n:Int)) H=some (.ref H.length 0 0 n n,H++[.row 0 ((List.replicate n 0).map uV) 1 true]):=uO (f:=uV) (x:=0) rfl (by omega) (by omega)
theorem Qw {A q t r x d W:Nat} (h1:t+d*q=r*W+x):(q+W*A)*d+t=x+W*(A*d+r):=by grind
theorem UF {A B P S W c m x q:Nat} (hv:A+P*c=B*S) (h1:m*S+W*q=x*S):A+P*(c+m*S)+P*W*q=(B+P*x)*S:=by
 have h2:P*(m*S+W*q)=P*(x*S):=by rw[h1]
 grind
theorem wZ (a d:Nat) (Dp:0<d) (hdW:d<4294967296) (ha:(aC 4294967296 a).length≤17592186044416):TC 197 [bO a,uV d] (.fN [bO (a / d),uV (a % d)]):=by
 refine TC.walk ⟨true,false⟩ CQ rfl (Nat.le_of_ble_eq_true rfl) (by simp[aM,bU,bA,lQ]) (by simp[iU,sK,rD,lQ]) ?_
 have va:=cJ (b:=4294967296) (by decide) a
 have la:=fP (b:=4294967296) (by decide) a
 unfold bO
 generalize aC 4294967296 a=xs at *
 have w0:IntKind.i64.wrap ((xs.length:Int)-1)=(xs.length:Int)-1:=wrap64 (by omega) (by omega)
 have wd:IntKind.u64.wrap (d:Int)=(d:Int):=fR _ (by omega)
 simp only[wY,uI,w0,Ul xs.length (by omega),VX,Nat.reduceEqDiff,Nat.reduceAdd]
 refine aP (fun(s:Nat×List Nat×Nat) ρ H=>s.1≤xs.length∧H=[.row 0 (s.2.1.map uV) 1 true]∧s.2.1.length=xs.length∧(∀d∈s.2.1,d<4294967296)∧s.2.2<d∧val 4294967296 (s.2.1.drop s.1)*d+s.2.2=val 4294967296 (xs.drop s.1) ∧
  ρ 0=Bc xs∧ρ 1=uV d∧ρ 6 = .ref 0 0 0 xs.length xs.length∧ρ 7=VK .u64 s.2.2∧ρ 8=VI ((s.1:Int)-1)) (fun s=>s.1) (xs.length,List.replicate xs.length 0,0) ⟨Nat.le_refl _,rfl,by simp,AQ (by decide) _,Dp,by simp[val,List.drop_replicate],rfl,rfl,rfl,rfl,rfl⟩ ?_
 rintro⟨j,outs,r⟩ ρ H ⟨hj,rfl,jR,lW,hr,hv,g0,g1,g6,g7,g8⟩
 simp only at hj jR lW hr hv g7 g8
 by_cases hz:(0:Int)≤(j:Int)-1
 ·obtain⟨i,rfl⟩:∃i,j=i+1:=⟨j-1,by omega⟩
  obtain⟨x,hx⟩:∃x,xs[i]? = some x:=⟨_,List.getElem?_eq_getElem (by omega)⟩
  have lx:=la x (List.mem_of_getElem? hx)
  have Jy:((i+1:Nat):Int)-1=(i:Int):=by omega
  rw[Jy] at g8 hz
  have e1:=aI (f:=uV) (t := .op) (H:=[.row 0 (outs.map uV) 1 true]) (size:=1) (k := .i64) hx rfl
  have e3:bP 1 (.ref 0 0 0 xs.length xs.length) (VI i) [.row 0 (outs.map uV) 1 true]=some (.ptr 0 0 i 0):=by rw[aS jU (by omega),Nat.zero_add]
  have e4:∀s:Nat,cD 0 1 (.ptr 0 0 i 0) (uV s) [.row 0 (outs.map uV) 1 true]=some [.row 0 ((outs.set i s).map uV) 1 true]:=fun s=>O6 (by omega)
  have w2:IntKind.i64.wrap ((i:Int)-1)=(i:Int)-1:=wrap64 (by omega) (by omega)
  have w3:IntKind.u64.wrap (x:Int)=(x:Int):=fR _ (by omega)
  have w4:IntKind.u64.wrap (((r*4294967296:Nat):Int)+(x:Int))=((r*4294967296+x:Nat):Int):=by rw[←Int.natCast_add];exact fR _ (by omega)
  have w5:=Es r .u64 (by omega)
  have q1:=VC (r*4294967296+x) d (by omega) Dp
  have q2:=O5 (r*4294967296+x) d Dp
  have hq:(r*4294967296+x) / d<4294967296:=by
   rw[Nat.div_lt_iff_lt_mul Dp]
   have:(r+1)*4294967296≤d*4294967296:=Nat.mul_le_mul_right _ hr
   rw[Nat.mul_comm 4294967296 d]
   omega
  simp only[nB,g0,g1,g6,g7,g8,hz,e1,e3,e4,w2,w3,w4,w5,wd,q1,q2,wrap32,Nat.mod_eq_of_lt hq,VX,Nat.reduceEqDiff,Nat.reduceAdd]
  refine⟨(i,outs.set i ((r*4294967296+x) / d),(r*4294967296+x) % d),by simp only;omega,by omega,rfl,by rw[List.length_set];exact jR,mN lW hq,Nat.mod_lt _ Dp,?_,by (repeat' apply And.intro)<;>first | rfl | trivial⟩
  have h1:=Nat.mod_add_div (r*4294967296+x) d
  rw[set_drop (by omega),sW,tC hx,←hv]
  exact Qw h1
 ·have T3:j=0:=by omega
  subst T3
  rw[List.drop_zero,List.drop_zero,va] at hv
  have h1:a / d=val 4294967296 outs:=by
   rw[←hv,Nat.mul_comm,Nat.mul_add_div Dp,Nat.div_eq_of_lt hr,Nat.add_zero]
  have h2:a % d=r:=by
   rw[←hv,Nat.mul_comm,Nat.mul_add_mod,Nat.mod_eq_of_lt hr]
  simp only[nB,g0,g1,g6,g7,g8,hz,VX,Nat.reduceEqDiff,Nat.reduceAdd]
  refine sG (m:=a / d) jU (by omega) (Nat.le_refl _) (by omega) (fun d hd=>lW d (List.mem_of_mem_take hd)) (by rw[List.take_of_length_le (by omega)];exact h1.symm) fun k hk he => ?_
  simp only[wrap32,Nat.mod_eq_of_lt (show r<4294967296 by omega),g7,VX,Nat.reduceEqDiff,Nat.reduceAdd]
  rw[h2]
  exact bT (d:=6) (KD (d:=5) jU (by omega) hk he) (aJ rfl)
theorem Gh {n g e:Nat} {es:List VV} {w:Bool}:aH (List.replicate n cA.dead++[.row g es e w]) n g=some (es,e,w):=by rw[Am];exact aU
theorem awG {n:Nat} (xs:List Nat):pC n (xs.map uV)=true:=by
 rw[vS]
 intro x hx
 obtain⟨y,_,rfl⟩:=List.mem_map.1 hx
 rfl
theorem zO (a s:Nat) (hs:s≤31) (ha:(aC 4294967296 a).length≤17592186044416):FC 199 [bO a,VI s] fun n r L=>∃outs:List Nat,r = .ref n 0 0 ((aC 4294967296 a).length+1) ((aC 4294967296 a).length+1)∧L=[.row 0 (outs.map uV) 1 true]∧outs.length=(aC 4294967296 a).length+1∧(∀d∈outs,d<4294967296)∧val 4294967296 outs=a*2^s∧(∀d,outs[(aC 4294967296 a).length]? = some d→d<2^s):=by
 refine FC.walk ⟨true,false⟩ Ds (Nat.le_of_ble_eq_true rfl) fun n => ?_
 have va:=cJ (b:=4294967296) (by decide) a
 have la:=fP (b:=4294967296) (by decide) a
 unfold bO
 generalize aC 4294967296 a=xs at *
 have hS:0<2^s:=Nat.pow_pos (by decide)
 have hSW:2^s*2^(32-s)=4294967296:=by rw[←Nat.pow_add,show s+(32-s)=32 by omega]
 have w0:IntKind.i64.wrap ((xs.length:Int)+1)=((xs.length+1:Nat):Int):=wrapN _ (by omega) (by omega)
 simp only[zT,vY,w0,U6 (xs.length+1) n (by omega),List.length_replicate,VX,Nat.reduceEqDiff,Nat.reduceAdd]
 refine aP (fun(t:Nat×List Nat×Nat) ρ H=>t.1≤xs.length∧H=List.replicate n .dead++[.row 0 (t.2.1.map uV) 1 true]∧t.2.1.length=xs.length+1∧(∀d∈t.2.1,d<4294967296)∧t.2.1[t.1]? = some t.2.2∧t.2.2<2^s∧val 4294967296 (t.2.1.take t.1)+4294967296^t.1*t.2.2=val 4294967296 (xs.take t.1)*2^s ∧
  ρ 1=VI s∧ρ 5 = .ref n 0 0 (xs.length+1) (xs.length+1)∧ρ 13=Bc xs∧ρ 14=VI xs.length∧ρ 15=VI t.1) (fun t=>xs.length-t.1) (0,List.replicate (xs.length+1) 0,0) ⟨Nat.zero_le _,rfl,by simp,AQ (by decide) _,by simp,hS,by simp[val],rfl,rfl,rfl,rfl,rfl⟩ ?_
 rintro⟨i,outs,c⟩ ρ H ⟨hi,rfl,jR,lW,hoc,hc,hv,g1,g5,g13,g14,g15⟩
 simp only at hi jR lW hoc hc hv g15
 by_cases cK:(i:Int)<(xs.length:Int)
 ·obtain⟨x,hx⟩:∃x,xs[i]? = some x:=⟨_,List.getElem?_eq_getElem (by omega)⟩
  have lx:=la x (List.mem_of_getElem? hx)
  have e1:=aI (f:=uV) (t := .op) (H:=List.replicate n .dead++[.row 0 (outs.map uV) 1 true]) (size:=1) (k := .i64) hx rfl
  have wx:IntKind.u64.wrap (x:Int)=(x:Int):=fR _ (by omega)
  have wi:IntKind.i64.wrap ((i:Int)+1)=((i+1:Nat):Int):=wrapN (i+1) (by omega) (by omega)
  have w5:=akW x s lx hs
  obtain⟨m,hm⟩:∃m,(x*2^s) % 4294967296=m*2^s:=by
   refine⟨x % 2^(32-s),?_⟩
   rw[←hSW,Nat.mul_comm x,Nat.mul_mod_mul_left,Nat.mul_comm]
  have hhi:(x*2^s) / 4294967296<2^s:=by
   rw[Nat.div_lt_iff_lt_mul (by decide),Nat.mul_comm (2^s)]
   exact Nat.mul_lt_mul_of_pos_right lx hS
  have bH:(x*2^s) % 4294967296<4294967296:=Nat.mod_lt _ (by decide)
  have hmm:m<2^(32-s):=by
   have:m*2^s<2^(32-s)*2^s:=by rw[←hm,Nat.mul_comm (2^(32-s)) (2^s),hSW];exact bH
   exact Nat.lt_of_mul_lt_mul_right this
  have ajB:m*2^s+c<4294967296:=by
   have:(m+1)*2^s≤2^(32-s)*2^s:=Nat.mul_le_mul_right _ hmm
   rw[Nat.mul_comm (2^(32-s)),hSW,Nat.add_mul] at this
   omega
  have or1:=alP c m s hc ajB
  have e3:bP 1 (.ref n 0 0 (xs.length+1) (xs.length+1)) (VI i) (List.replicate n .dead++[.row 0 (outs.map uV) 1 true])=some (.ptr n 0 i 0):=by rw[aS Gh (by omega),Nat.zero_add]
  have e4:cN false 1 (.ptr n 0 i 0) (List.replicate n .dead++[.row 0 (outs.map uV) 1 true])=some (uV c):=jD Gh hoc
  have e5:∀(os:List Nat) (j t:Nat),j<os.length→cD n 1 (.ptr n 0 j 0) (uV t) (List.replicate n .dead++[.row 0 (os.map uV) 1 true])=some (List.replicate n .dead++[.row 0 ((os.set j t).map uV) 1 true]):=fun os j t hj=>by
   rw[eH (f:=uV) (e:=1) Gh hj (Nat.le_refl _) rfl rfl,BR]
   rfl
  have e6:bP 1 (.ref n 0 0 (xs.length+1) (xs.length+1)) (VI ((i+1:Nat):Int)) (List.replicate n .dead++[.row 0 ((outs.set i (c+m*2^s)).map uV) 1 true])=some (.ptr n 0 (i+1) 0):=by rw[aS Gh (by omega),Nat.zero_add]
  have e7:=e5 outs i (c+m*2^s) (by omega)
  have e8:=e5 (outs.set i (c+m*2^s)) (i+1) ((x*2^s) / 4294967296) (by rw[List.length_set];omega)
  have hq:(x*2^s) / 4294967296 % 4294967296=(x*2^s) / 4294967296:=Nat.mod_eq_of_lt (by
   have:2^s≤2^31:=Nat.pow_le_pow_right (by decide) hs
   omega)
  simp only[oK,g1,g5,g13,g14,g15,cK,e1,e3,e4,e6,e7,e8,wx,wi,w5,wrap32,tU,hm,or1,hq,VX,Nat.reduceEqDiff,Nat.reduceAdd]
  refine⟨(i+1,(outs.set i (c+m*2^s)).set (i+1) ((x*2^s) / 4294967296),(x*2^s) / 4294967296),by simp only;omega,by omega,rfl,by rw[List.length_set,List.length_set];exact jR,
   mN (mN lW (by omega)) (by
    have:2^s≤2^31:=Nat.pow_le_pow_right (by decide) hs
    omega),by rw[List.getElem?_set_self (by rw[List.length_set];omega)],hhi,?_,by (repeat' apply And.intro)<;>first | rfl | trivial⟩
  rw[List.take_set_of_le (Nat.le_refl _),eT (by omega),bD hx,Nat.pow_succ]
  have h1:=Nat.mod_add_div (x*2^s) 4294967296
  rw[hm] at h1
  exact UF hv h1
 ·have lS:i=xs.length:=by omega
  subst lS
  rw[List.take_length,va] at hv
  have wU:val 4294967296 outs=a*2^s:=by
   have h1:=bD (b:=4294967296) hoc
   rw[List.take_of_length_le (by omega)] at h1
   rw[h1]
   exact hv
  simp only[oK,g1,g5,g13,g14,g15,cK,VX,Nat.reduceEqDiff,Nat.reduceAdd]
  exact⟨_,rfl,by simp[dY],by simp[dR,awG outs],outs,rfl,jR,lW,wU,fun d hd=>by rw[hoc] at hd;injection hd with hd;omega⟩
end Go.PM
namespace Go.PM
theorem Pz (n:Nat) (hn:n≤35184372088832):Bn [.int .i64 0] 8 (VI (n:Int)) (VI (n:Int)) []=some (.ref 0 0 0 n n,[.row 0 ((List.replicate n 0).map tV) 1 true]):=uO (f:=tV) (x:=0) rfl (by omega) (by omega)
theorem Pn {outs:List Nat} {i d:Nat} (hi:i<outs.length):cD 0 1 (.ptr 0 0 i 0) (VI (d:Int)) [.row 0 (outs.map tV) 1 true]=some [.row 0 ((outs.set i d).map tV) 1 true]:=by
 rw[show VI (d:Int)=tV d from rfl,eH (f:=tV) (e:=1) Kw hi (Nat.le_refl _) rfl rfl]
 rfl
theorem Lf {b g:Nat} {rows:List Nat} {w:Bool} {H:aA} {j d:Nat} (hr:aH H b g=some (rows.map tV,1,w)) (hj:rows[j]? = some d):cN false 1 (.ptr b g j 0) H=some (VI (d:Int)):=qD hr hj
theorem adT {n i:Nat} {outs:List Nat} (h:i<n):bP 1 (.ref 0 0 0 n n) (VI (i:Int)) [.row 0 (outs.map tV) 1 true]=some (.ptr 0 0 i 0):=by rw[aS Kw h,Nat.zero_add]
theorem wr {x:Int} (n:Nat) (h:x=n) (hn:n≤9223372036854775807):IntKind.i64.wrap x=(n:Int):=wrapN n h hn
theorem Aq (a b:Nat) (F9:b≤a) (ha:(aC 1000000000 a).length≤17592186044416):TC 156 [cB a,cB b] (cB (a-b)):=by
 refine TC.walk ⟨true,false⟩ He rfl (Nat.le_of_ble_eq_true rfl) (by simp[aM,cI]) (oA _) ?_
 have hle:=eJ (b:=1000000000) (by decide) F9
 simp only[CI,AF,KR,cO,VX,Nat.reduceEqDiff,Nat.reduceAdd]
 refine aP (fun(s:Nat×List Nat×Nat) ρ H=>s.1=s.2.1.length∧s.1≤(aC 1000000000 a).length∧H=[.row s.2.1.length (s.2.1.map tV) 1 true]∧(∀d∈s.2.1,d<1000000000)∧s.2.2≤1∧val 1000000000 ((aC 1000000000 a).take s.1)+1000000000^s.1*s.2.2=val 1000000000 s.2.1+val 1000000000 ((aC 1000000000 b).take s.1) ∧
  ρ 0=cB a∧ρ 1=cB b∧ρ 5 = .ref 0 s.2.1.length 0 s.2.1.length s.2.1.length∧ρ 6=VI s.2.2∧ρ 11=VI (aC 1000000000 a).length∧ρ 12=VI s.1) (fun s=>(aC 1000000000 a).length-s.1) (0,[],0) ⟨rfl,Nat.zero_le _,rfl,by simp,by simp,by simp[val],rfl,rfl,rfl,rfl,rfl,rfl⟩ ?_
 rintro⟨i,outs,l⟩ ρ H ⟨hi,Ko,rfl,lW,hc,hv,g0,g1,g5,g6,g11,g12⟩
 simp only at hi Ko lW hc hv g5 g6 g12
 by_cases cK:(i:Int)<((aC 1000000000 a).length:Int)
 ·have hx:=L8 (b:=1000000000) (by decide) (n:=a) (i:=i) (by omega)
  have e1:bP 1 (cB a) (VI i) [.row outs.length (outs.map tV) 1 true]=some (.dB (tV (a / 1000000000^i % 1000000000)) 0):=aI (f:=tV) (t := .op) (size:=1) (k := .i64) hx rfl
  have c2:=De b i
  have t1:=EU (b:=1000000000) (aC 1000000000 a) i
  have t2:=EU (b:=1000000000) (aC 1000000000 b) i
  rw[IM (by decide)] at t1 t2
  have lx:=Nat.mod_lt (a / 1000000000^i) (show 0<1000000000 by decide)
  have ly:=Nat.mod_lt (b / 1000000000^i) (show 0<1000000000 by decide)
  generalize a / 1000000000^i % 1000000000=x at *
  generalize b / 1000000000^i % 1000000000=y at *
  have wi:IntKind.i64.wrap ((i:Int)+1)=((i+1:Nat):Int):=wrapN (i+1) (by omega) (by omega)
  have w1:IntKind.i64.wrap ((x:Int)-(y:Int))=(x:Int)-(y:Int):=wrap64 (by omega) (by omega)
  have w2:IntKind.i64.wrap ((x:Int)-(y:Int)-(l:Int))=(x:Int)-(y:Int)-(l:Int):=wrap64 (by omega) (by omega)
  have step:∀r l':Nat,r<1000000000→l'≤1→r+y+l=x+1000000000*l'→(∀d∈outs++[r],d<1000000000)∧val 1000000000 ((aC 1000000000 a).take (i+1))+1000000000^(i+1)*l'=val 1000000000 (outs++[r])+val 1000000000 ((aC 1000000000 b).take (i+1)):=by
   intro r l' hr _ hd
   refine⟨fun d h => ?_,?_⟩
   ·rcases List.mem_append.1 h with h | h
    ·exact lW d h
    ·rw[List.mem_singleton.1 h];exact hr
   ·rw[t1,t2,tE,←hi,Nat.pow_succ]
    exact Jv hv hd
  by_cases lM:(x:Int)-(y:Int)-(l:Int)<0
  ·obtain⟨r,hr⟩:∃r:Nat,r+y+l=x+1000000000:=⟨x+1000000000-l-y,by omega⟩
   have w3:IntKind.i64.wrap ((x:Int)-(y:Int)-(l:Int)+1000000000)=(r:Int):=wrapN r (by omega) (by omega)
   obtain⟨s1,s2⟩:=step r 1 (by omega) (Nat.le_refl _) (by omega)
   have a1:=aeC (ds:=outs) (d:=r) (by omega)
   simp only[nK,g0,g1,g5,g6,g11,g12,cK,e1,c2,w1,w2,w3,wi,lM,sY,wC,a1,VX,Nat.reduceEqDiff,Nat.reduceAdd]
   refine⟨(i+1,outs++[r],1),by simp only;omega,by simp;omega,by simp only;omega,by simp,s1,Nat.le_refl _,s2,?_⟩
   simp only[List.length_append,List.length_singleton]
   try (repeat' apply And.intro)<;>first | rfl | trivial
  ·obtain⟨r,hr⟩:∃r:Nat,r+y+l=x:=⟨x-l-y,by omega⟩
   obtain⟨s1,s2⟩:=step r 0 (by omega) (by omega) (by omega)
   have er:(x:Int)-(y:Int)-(l:Int)=(r:Int):=by omega
   have a1:=aeC (ds:=outs) (d:=r) (by omega)
   have w3:IntKind.i64.wrap ((x:Int)-(y:Int)-(l:Int))=(r:Int):=wrapN r er (by omega)
   have vO:¬(r:Int)<0:=by omega
   simp only[nK,g0,g1,g5,g6,g11,g12,cK,e1,c2,w1,w3,wi,vO,sY,wC,a1,VX,Nat.reduceEqDiff,Nat.reduceAdd]
   refine⟨(i+1,outs++[r],0),by simp only;omega,by simp;omega,by simp only;omega,by simp,s1,Nat.zero_le _,s2,?_⟩
   simp only[List.length_append,List.length_singleton]
   try (repeat' apply And.intro)<;>first | rfl | trivial
 ·have lS:i=(aC 1000000000 a).length:=by omega
  rw[lS,List.take_length,List.take_of_length_le (l:=aC 1000000000 b) hle,cJ (by decide),cJ (by decide)] at hv
  have fG:=pF lW
  rw[←hi,lS] at fG
  have wU:val 1000000000 outs=a-b:=by
   rcases Nat.lt_or_ge l 1 with h | h
   ·have:l=0:=by omega
    subst this
    rw[Nat.mul_zero] at hv
    omega
   ·have:l=1:=by omega
    subst this
    rw[Nat.mul_one] at hv
    omega
  simp only[nK,g0,g1,g5,g6,g11,g12,cK,VX,Nat.reduceEqDiff,Nat.reduceAdd]
  refine Iz lW rfl (by omega) wU ?_
  simp only[VX,Nat.reduceEqDiff,Nat.reduceAdd]
  exact Si _
theorem iJ (a b:Nat) (ha:(aC 1000000000 a).length≤17592186044416) (hb:(aC 1000000000 b).length≤17592186044416):TC 152 [cB a,cB b] (cB (a*b)):=by
 refine TC.walk ⟨true,false⟩ IZ rfl (Nat.le_of_ble_eq_true rfl) (by simp[aM,cI]) (oA _) ?_
 have va:=cJ (b:=1000000000) (by decide) a
 have vb:=cJ (b:=1000000000) (by decide) b
 have la:=fP (b:=1000000000) (by decide) a
 have lb:=fP (b:=1000000000) (by decide) b
 unfold cB
 generalize aC 1000000000 a=xs at *
 generalize aC 1000000000 b=ys at *
 have w0:IntKind.i64.wrap ((xs.length:Int)+(ys.length:Int))=((xs.length+ys.length:Nat):Int):=wrapN _ (by omega) (by omega)
 simp only[Dh,Bq,eI,w0,Pz (xs.length+ys.length) (by omega),VX,Nat.reduceEqDiff,Nat.reduceAdd]
 generalize hN:xs.length+ys.length=N at *
 refine aP (fun(s:Nat×List Nat) ρ H=>s.1≤xs.length∧H=[.row 0 (s.2.map tV) 1 true]∧s.2.length=N∧(∀d∈s.2,d<1000000000)∧val 1000000000 (s.2.take (s.1+ys.length))=val 1000000000 (xs.take s.1)*b∧(∀j,s.1+ys.length≤j→j<N→s.2[j]? = some 0) ∧
  ρ 0=iM xs∧ρ 1=iM ys∧ρ 5 = .ref 0 0 0 N N∧ρ 17=VI xs.length∧ρ 18=VI s.1) (fun s=>xs.length-s.1) (0,List.replicate N 0) ⟨Nat.zero_le _,rfl,by simp,AQ (by decide) _,by simp[val,List.take_replicate,rW],fun j _ h=>by simp[List.getElem?_replicate,h],rfl,rfl,rfl,rfl,rfl⟩ ?_
 rintro⟨i,outs⟩ ρ H ⟨hi,rfl,jR,lW,hv,hzr,g0,g1,g5,g17,g18⟩
 simp only at hi jR lW hv hzr g18
 by_cases cK:(i:Int)<(xs.length:Int)
 ·obtain⟨x,hx⟩:∃x,xs[i]? = some x:=⟨_,List.getElem?_eq_getElem (by omega)⟩
  have lx:=la x (List.mem_of_getElem? hx)
  have e1:∀os:List Nat,bP 1 (iM xs) (VI i) [.row 0 (os.map tV) 1 true]=some (.dB (tV x) 0):=fun os=>aI (f:=tV) (t := .op) (size:=1) (k := .i64) hx rfl
  simp only[tH,g0,g1,g5,g17,g18,cK,eI,VX,Nat.reduceEqDiff,Nat.reduceAdd]
  refine aP (fun(s:Nat×List Nat×Nat) ρ H=>s.1≤ys.length∧H=[.row 0 (s.2.1.map tV) 1 true]∧s.2.1.length=N∧(∀d∈s.2.1,d<1000000000)∧s.2.2<1000000000 ∧
   val 1000000000 (s.2.1.take (i+s.1))+1000000000^(i+s.1)*s.2.2=val 1000000000 (outs.take (i+s.1))+1000000000^i*(x*val 1000000000 (ys.take s.1))∧(∀j,i+s.1≤j→s.2.1[j]? = outs[j]?) ∧
   ρ 0=iM xs∧ρ 1=iM ys∧ρ 5 = .ref 0 0 0 N N∧ρ 6=VI i∧ρ 7=VI s.2.2∧ρ 17=VI xs.length∧ρ 18=VI i∧ρ 22=VI ys.length∧ρ 23=VI s.1) (fun s=>ys.length-s.1) (0,outs,0) ⟨Nat.zero_le _,rfl,jR,lW,by simp,by simp[val],fun _ _=>rfl,by (repeat' apply And.intro)<;>first | rfl | trivial⟩ ?_
  rintro⟨k,os,c⟩ NP H ⟨hk,rfl,P3,PB,hc,M6,Ga,k0,k1,k5,k6,k7,It,Yt,k22,k23⟩
  simp only at hk P3 PB hc M6 Ga k7 k23
  have wi:IntKind.i64.wrap ((i:Int)+1)=((i+1:Nat):Int):=wrapN (i+1) (by omega) (by omega)
  by_cases hkn:(k:Int)<(ys.length:Int)
  ·obtain⟨y,hy⟩:∃y,ys[k]? = some y:=⟨_,List.getElem?_eq_getElem (by omega)⟩
   have ly:=lb y (List.mem_of_getElem? hy)
   obtain⟨o,ho⟩:∃o,os[i+k]? = some o:=⟨_,List.getElem?_eq_getElem (by omega)⟩
   have lo:=PB o (List.mem_of_getElem? ho)
   have ZM:outs[i+k]? = some o:=by rw[←Ga (i+k) (Nat.le_refl _)];exact ho
   have f1:bP 1 (iM ys) (VI k) [.row 0 (os.map tV) 1 true]=some (.dB (tV y) 0):=aI (f:=tV) (t := .op) (size:=1) (k := .i64) hy rfl
   have w1:IntKind.i64.wrap ((i:Int)+(k:Int))=((i+k:Nat):Int):=wrapN _ (by omega) (by omega)
   have f2:bP 1 (.ref 0 0 0 N N) (VI ((i+k:Nat):Int)) [.row 0 (os.map tV) 1 true]=some (.ptr 0 0 (i+k) 0):=adT (by omega)
   have f3:cN false 1 (.ptr 0 0 (i+k) 0) [.row 0 (os.map tV) 1 true]=some (VI (o:Int)):=Lf Kw ho
   have f4:∀s:Nat,cD 0 1 (.ptr 0 0 (i+k) 0) (VI (s:Int)) [.row 0 (os.map tV) 1 true]=some [.row 0 ((os.set (i+k) s).map tV) 1 true]:=fun s=>Pn (by omega)
   have AY:x*y≤999999999*999999999:=Nat.mul_le_mul (by omega) (by omega)
   have w5:IntKind.i64.wrap ((x:Int)*(y:Int))=((x*y:Nat):Int):=wrapN _ (by simp) (by omega)
   have w6:IntKind.i64.wrap ((o:Int)+((x*y:Nat):Int))=((o+x*y:Nat):Int):=wrapN _ (by omega) (by omega)
   have w7:IntKind.i64.wrap (((o+x*y:Nat):Int)+(c:Int))=((o+x*y+c:Nat):Int):=wrapN _ (by omega) (by omega)
   have wk:IntKind.i64.wrap ((k:Int)+1)=((k+1:Nat):Int):=wrapN (k+1) (by omega) (by omega)
   have r1:=NM (o+x*y+c)
   have q1:=OQ (o+x*y+c) (by omega)
   simp only[tT,k0,k1,k5,k6,k7,It,Yt,k22,k23,hkn,e1,f1,f2,f3,f4,w1,w5,w6,w7,wk,r1,q1,VX,Nat.reduceEqDiff,Nat.reduceAdd]
   have hq:(o+x*y+c) / 1000000000<1000000000:=Nat.div_lt_of_lt_mul (by omega)
   refine⟨(k+1,os.set (i+k) ((o+x*y+c) % 1000000000),(o+x*y+c) / 1000000000),by simp only;omega,by omega,rfl,by rw[List.length_set];exact P3,mN PB (Nat.mod_lt _ (by decide)),hq,?_,fun j hj => ?_,by (repeat' apply And.intro)<;>first | rfl | trivial⟩
   ·have h1:=Nat.mod_add_div (o+x*y+c) 1000000000
    rw[show o+x*y+c=c+(x*y+o) by omega] at h1 ⊢
    rw[←Nat.add_assoc,eT (by omega),bD ZM,bD hy,Nat.pow_succ]
    rw[Nat.pow_add] at M6 ⊢
    exact SL M6 h1
   ·rw[List.getElem?_set_ne (by omega)]
    exact Ga j (by omega)
  ·have hke:k=ys.length:=by omega
   subst hke
   rw[List.take_length,vb,hv] at M6
   have w1:IntKind.i64.wrap ((i:Int)+(ys.length:Int))=((i+ys.length:Nat):Int):=wrapN _ (by omega) (by omega)
   have EC:os[i+ys.length]? = some 0:=by rw[Ga _ (Nat.le_refl _)];exact hzr _ (Nat.le_refl _) (by omega)
   have f2:bP 1 (.ref 0 0 0 N N) (VI ((i+ys.length:Nat):Int)) [.row 0 (os.map tV) 1 true]=some (.ptr 0 0 (i+ys.length) 0):=adT (by omega)
   have f3:cN false 1 (.ptr 0 0 (i+ys.length) 0) [.row 0 (os.map tV) 1 true]=some (VI ((0:Nat):Int)):=Lf Kw EC
   have f4:∀s:Nat,cD 0 1 (.ptr 0 0 (i+ys.length) 0) (VI (s:Int)) [.row 0 (os.map tV) 1 true]=some [.row 0 ((os.set (i+ys.length) s).map tV) 1 true]:=fun s=>Pn (by omega)
   have w2:IntKind.i64.wrap (((0:Nat):Int)+(c:Int))=(c:Int):=wrapN _ (by omega) (by omega)
   simp only[tT,k0,k1,k5,k6,k7,It,Yt,k22,k23,hkn,eI,f2,f3,f4,w1,w2,wi,VX,Nat.reduceEqDiff,Nat.reduceAdd]
   refine⟨(i+1,os.set (i+ys.length) c),by simp only;omega,by omega,rfl,by rw[List.length_set];exact P3,mN PB hc,?_,fun j hj YI => ?_,by (repeat' apply And.intro)<;>first | rfl | trivial⟩
   ·rw[show i+1+ys.length=i+ys.length+1 by omega,eT (by omega),M6,bD hx,Nat.add_mul,Nat.mul_assoc]
   ·rw[List.getElem?_set_ne (by omega),Ga j (by omega)]
    exact hzr j (by omega) YI
 ·have lS:i=xs.length:=by omega
  subst lS
  rw[hN,List.take_length,va,List.take_of_length_le (by omega)] at hv
  simp only[tH,g0,g1,g5,g17,g18,cK,VX,Nat.reduceEqDiff,Nat.reduceAdd]
  refine Iz (m:=a*b) lW jR.symm (by omega) hv ?_
  simp only[VX,Nat.reduceEqDiff,Nat.reduceAdd]
  exact Si _
theorem Cu (a:Nat) (ha:(aC 1000000000 a).length≤17592186044416):TC 201 [cB a] (if (aC 1000000000 a).length≤2 then .fN [VI a,VB true] else .fN [VI 0,VB false]):=by
 refine TC.walk ⟨true,false⟩ J8 rfl (Nat.le_of_ble_eq_true rfl) (by simp[aM,cI]) (by split<;>rfl) ?_
 by_cases h2:(aC 1000000000 a).length≤2
 ·rw[if_pos h2]
  have h3:¬(2:Int)<((aC 1000000000 a).length:Int):=by omega
  have c0:TC 186 [cB a,VI 0] (VI ((a % 1000000000:Nat):Int)):=by have:=De a 0;rwa [Nat.pow_zero,Nat.div_one] at this
  have c1:TC 186 [cB a,VI 1] (VI ((a / 1000000000 % 1000000000:Nat):Int)):=by have:=De a 1;rwa [Nat.pow_one] at this
  have bH:=gW (b:=1000000000) (by decide) a
  have hp:1000000000^(aC 1000000000 a).length≤1000000000^2:=Nat.pow_le_pow_right (by decide) h2
  have hm:a / 1000000000<1000000000:=Nat.div_lt_of_lt_mul (by omega)
  rw[Nat.mod_eq_of_lt hm] at c1
  have hmd:=Nat.mod_add_div a 1000000000
  have w1:IntKind.i64.wrap (1000000000*((a / 1000000000:Nat):Int))=((1000000000*(a / 1000000000):Nat):Int):=wrapN _ (by omega) (by omega)
  have w2:IntKind.i64.wrap (((a % 1000000000:Nat):Int)+((1000000000*(a / 1000000000):Nat):Int))=(a:Int):=wrapN _ (by omega) (by omega)
  simp only[AV,wG,cO,h3,c0,c1,w1,w2,VX,Nat.reduceEqDiff,Nat.reduceAdd]
  exact aK rfl
 ·rw[if_neg h2]
  have h3:(2:Int)<((aC 1000000000 a).length:Int):=by omega
  simp only[AV,wG,cO,h3,VX,Nat.reduceEqDiff,Nat.reduceAdd]
  exact aK rfl
theorem acJ {outs:List Nat} {n cap x:Nat} (hn:n=outs.length) (hc:n<cap):eE 0 1 8 (.ref 0 0 0 n cap) [VI (x:Int)] [.row 0 ((outs++List.replicate (cap-n) 0).map tV) 1 true]=some (.ref 0 0 0 (n+1) cap,[.row 0 (((outs++[x])++List.replicate (cap-(n+1)) 0).map tV) 1 true]):=by
 subst hn
 simp only[eE,aU,List.length_map,List.length_append,List.length_replicate,List.length_cons,List.length_nil,Nat.zero_add]
 rw[if_pos ⟨by decide,by decide⟩,if_pos ⟨trivial,Nat.le_refl _,by omega⟩,if_pos (by omega),if_neg (by omega),if_pos (by omega)]
 congr 3
 have e:List.replicate (cap-outs.length) 0=(0:Nat)::List.replicate (cap-(outs.length+1)) 0:=by
  rw[show cap-outs.length=(cap-(outs.length+1))+1 by omega,List.replicate_succ]
 simp only[dG,List.set_cons_zero,e,List.map_append,List.map_cons,List.length_cons,List.length_nil,List.map_nil]
 congr 1
 rw[List.take_left' (by simp),←List.drop_drop,List.drop_left' (by simp)]
 simp
theorem yF (a d:Nat) (Dp:0<d) (hd:d<1000000000) (ha:(aC 1000000000 a).length<17592186044416):TC 203 [cB a,VI (d:Int)] (cB (a*d)):=by
 refine TC.walk ⟨true,false⟩ Fy rfl (Nat.le_of_ble_eq_true rfl) (by simp[aM,cI];rfl) (oA _) ?_
 have w0:IntKind.i64.wrap (((aC 1000000000 a).length:Int)+1)=(((aC 1000000000 a).length+1:Nat):Int):=wrapN _ (by omega) (by omega)
 have mk:Bn [.int .i64 0] 8 (VI 0) (VI (((aC 1000000000 a).length+1:Nat):Int)) []=some (.ref 0 0 0 0 ((aC 1000000000 a).length+1),[.row 0 ((([]:List Nat)++List.replicate ((aC 1000000000 a).length+1-0) 0).map tV) 1 true]):=by
  simp only[Bn]
  rw[if_pos ⟨by omega,by omega,by omega,by omega⟩]
  simp
  rfl
 simp only[BG,zM,cO,w0,mk,VX,Nat.reduceEqDiff,Nat.reduceAdd]
 refine aP (fun(s:Nat×List Nat×Nat) ρ H=>s.1=s.2.1.length∧s.1≤(aC 1000000000 a).length∧H=[.row 0 ((s.2.1++List.replicate ((aC 1000000000 a).length+1-s.1) 0).map tV) 1 true]∧s.2.2<d∧aC 1000000000 (a*d)=s.2.1++aC 1000000000 (a / 1000000000^s.1*d+s.2.2) ∧
  ρ 1=VI d∧ρ 5 = .ref 0 0 0 s.1 ((aC 1000000000 a).length+1)∧ρ 6=VI s.2.2∧ρ 14=cB a∧ρ 15=VI (aC 1000000000 a).length∧ρ 16=VI s.1) (fun s=>(aC 1000000000 a).length-s.1) (0,[],0) ⟨rfl,Nat.zero_le _,rfl,Dp,by simp,rfl,rfl,rfl,rfl,rfl,rfl⟩ ?_
 rintro⟨i,outs,c⟩ ρ H ⟨hi,Ko,rfl,hc,hv,g1,g5,g6,g14,g15,g16⟩
 simp only at hi Ko hc hv g5 g6 g16
 by_cases cK:(i:Int)<((aC 1000000000 a).length:Int)
 ·have hx:=L8 (b:=1000000000) (by decide) (n:=a) (i:=i) (by omega)
  have hA:=(EB (b:=1000000000) (by decide) (n:=a) (i:=i)).1 (by omega)
  have e1:∀H,bP 1 (cB a) (VI i) H=some (.dB (tV (a / 1000000000^i % 1000000000)) 0):=fun H=>aI (f:=tV) (t := .op) (size:=1) (k := .i64) hx rfl
  have lx:=Nat.mod_lt (a / 1000000000^i) (show 0<1000000000 by decide)
  have fQ:a / 1000000000^i*d+c≠0:=by
   have:=Nat.mul_ne_zero hA (show d≠0 by omega)
   omega
  rw[WQ (by decide) fQ,←tX] at hv
  generalize a / 1000000000^i % 1000000000=x at *
  have hxd:x*d≤999999999*999999999:=Nat.mul_le_mul (by omega) (by omega)
  have w1:IntKind.i64.wrap ((x:Int)*(d:Int))=((x*d:Nat):Int):=wrapN _ (by simp) (by omega)
  have w2:IntKind.i64.wrap (((x*d:Nat):Int)+(c:Int))=((x*d+c:Nat):Int):=wrapN _ (by omega) (by omega)
  have wi:IntKind.i64.wrap ((i:Int)+1)=((i+1:Nat):Int):=wrapN (i+1) (by omega) (by omega)
  have r1:=NM (x*d+c)
  have q1:=OQ (x*d+c) (by omega)
  have a1:=acJ (outs:=outs) (n:=i) (cap:=(aC 1000000000 a).length+1) (x:=(x*d+c) % 1000000000) hi (by omega)
  have hq:(x*d+c) / 1000000000<d:=by
   rw[Nat.div_lt_iff_lt_mul (by decide)]
   have h1:x*d≤999999999*d:=Nat.mul_le_mul_right _ (by omega)
   omega
  simp only[mA,g1,g5,g6,g14,g15,g16,cK,e1,w1,w2,wi,r1,q1,sY,wC,a1,VX,Nat.reduceEqDiff,Nat.reduceAdd]
  refine⟨(i+1,outs++[(x*d+c) % 1000000000],(x*d+c) / 1000000000),by simp only;omega,by simp;omega,by simp only;omega,rfl,hq,by rw[hv,List.append_assoc];rfl,?_⟩
  try (repeat' apply And.intro)<;>first | rfl | trivial
 ·have lS:i=(aC 1000000000 a).length:=by omega
  have hz:a / 1000000000^i=0:=by
   have:=mt (EB (b:=1000000000) (by decide) (n:=a) (i:=i)).2
   omega
  rw[hz,Nat.zero_mul,Nat.zero_add] at hv
  by_cases hcp:(0:Int)<(c:Int)
  ·rw[Dk (b:=1000000000) (by decide) (show c≠0 by omega) (show c<1000000000 by omega)] at hv
   have a1:=acJ (outs:=outs) (n:=i) (cap:=(aC 1000000000 a).length+1) (x:=c) hi (by omega)
   simp only[mA,g1,g5,g6,g14,g15,g16,cK,hcp,sY,wC,a1,VX,Nat.reduceEqDiff,Nat.reduceAdd]
   rw[cB,hv]
   rw[VZ aU (by simp;omega) (by omega) (fJ fun _=>rfl)]
   rw[List.map_append,List.take_left' (by simp;omega)]
  ·have hc0:c=0:=by omega
   rw[hc0,cG,List.append_nil] at hv
   simp only[mA,g1,g5,g6,g14,g15,g16,cK,hcp,VX,Nat.reduceEqDiff,Nat.reduceAdd]
   rw[cB,hv]
   rw[VZ aU (by simp;omega) (by omega) (fJ fun _=>rfl)]
   rw[List.map_append,List.take_left' (by simp;omega)]
theorem Ks (a b:Nat) (ha:a≤9223372036854775807) (hb:0<b):dU .quo (.int .i64 (a:Int)) (.int .i64 (b:Int))=some (.int .i64 ((a / b:Nat):Int)):=by
 have h1:¬((b:Int)=0):=by omega
 have h2:(a:Int).tdiv (b:Int)=((a / b:Nat):Int):=by rw[Int.tdiv_eq_ediv_of_nonneg (by omega)];simp
 have h3:a / b≤a:=Nat.div_le_self _ _
 simp only[dU,if_true,h1,if_false,h2]
 generalize a / b=q at *
 rw[wrap64 (by omega) (by omega)]
theorem My (a b:Nat) (hb:0<b):dU .rem (.int .i64 (a:Int)) (.int .i64 (b:Int))=some (.int .i64 ((a % b:Nat):Int)):=by
 have h1:¬((b:Int)=0):=by omega
 have h2:(a:Int).tmod (b:Int)=((a % b:Nat):Int):=by rw[Int.tmod_eq_emod_of_nonneg (by omega)];simp
 simp only[dU,if_true,h1,if_false,h2]
theorem Z4 {r d x:Nat} (hr:r<d) (hd:d<1000000000) (hx:x<1000000000):r*1000000000+x≤9223372036854775807:=by omega
theorem akO {r d x:Nat} (Dp:0<d) (hr:r<d) (hx:x<1000000000):(r*1000000000+x) / d<1000000000:=by
 rw[Nat.div_lt_iff_lt_mul Dp]
 omega
theorem zC (a d:Nat) (Dp:0<d) (hdT:d<1000000000) (ha:(aC 1000000000 a).length≤17592186044416):TC 202 [cB a,VI (d:Int)] (.fN [cB (a / d),VI ((a % d:Nat):Int)]):=by
 refine TC.walk ⟨true,false⟩ Ft rfl (Nat.le_of_ble_eq_true rfl) (by simp[aM,cI];rfl) (by simp[iU,sK,oA,lQ]) ?_
 have va:=cJ (b:=1000000000) (by decide) a
 have la:=fP (b:=1000000000) (by decide) a
 unfold cB
 generalize aC 1000000000 a=xs at *
 have w0:IntKind.i64.wrap ((xs.length:Int)-1)=(xs.length:Int)-1:=wrap64 (by omega) (by omega)
 simp only[BC,zB,eI,w0,Pz xs.length (by omega),VX,Nat.reduceEqDiff,Nat.reduceAdd]
 refine aP (fun(s:Nat×List Nat×Nat) ρ H=>s.1≤xs.length∧H=[.row 0 (s.2.1.map tV) 1 true]∧s.2.1.length=xs.length∧(∀d∈s.2.1,d<1000000000)∧s.2.2<d∧val 1000000000 (s.2.1.drop s.1)*d+s.2.2=val 1000000000 (xs.drop s.1) ∧
  ρ 0=iM xs∧ρ 1=VI d∧ρ 6 = .ref 0 0 0 xs.length xs.length∧ρ 7=VI s.2.2∧ρ 8=VI ((s.1:Int)-1)) (fun s=>s.1) (xs.length,List.replicate xs.length 0,0) ⟨Nat.le_refl _,rfl,by simp,AQ (by decide) _,Dp,by simp[val,List.drop_replicate],rfl,rfl,rfl,rfl,rfl⟩ ?_
 rintro⟨j,outs,r⟩ ρ H ⟨hj,rfl,jR,lW,hr,hv,g0,g1,g6,g7,g8⟩
 simp only at hj jR lW hr hv g7 g8
 by_cases hz:(0:Int)≤(j:Int)-1
 ·obtain⟨i,rfl⟩:∃i,j=i+1:=⟨j-1,by omega⟩
  obtain⟨x,hx⟩:∃x,xs[i]? = some x:=⟨_,List.getElem?_eq_getElem (by omega)⟩
  have lx:=la x (List.mem_of_getElem? hx)
  have Jy:((i+1:Nat):Int)-1=(i:Int):=by omega
  rw[Jy] at g8 hz
  have e1:=aI (f:=tV) (t := .op) (H:=[.row 0 (outs.map tV) 1 true]) (size:=1) (k := .i64) hx rfl
  have e3:bP 1 (.ref 0 0 0 xs.length xs.length) (VI i) [.row 0 (outs.map tV) 1 true]=some (.ptr 0 0 i 0):=adT (by omega)
  have e4:∀s:Nat,cD 0 1 (.ptr 0 0 i 0) (VI (s:Int)) [.row 0 (outs.map tV) 1 true]=some [.row 0 ((outs.set i s).map tV) 1 true]:=fun s=>Pn (by omega)
  have w2:IntKind.i64.wrap ((i:Int)-1)=(i:Int)-1:=wrap64 (by omega) (by omega)
  have w4:IntKind.i64.wrap ((r:Int)*1000000000)=((r*1000000000:Nat):Int):=wrapN _ (by omega) (by omega)
  have w5:IntKind.i64.wrap (((r*1000000000:Nat):Int)+(x:Int))=((r*1000000000+x:Nat):Int):=wrapN _ (by omega) (by omega)
  have C2:r*1000000000+x≤9223372036854775807:=Z4 hr hdT lx
  have q1:=Ks (r*1000000000+x) d C2 Dp
  have q2:=My (r*1000000000+x) d Dp
  have hq:(r*1000000000+x) / d<1000000000:=akO Dp hr lx
  simp only[qV,g0,g1,g6,g7,g8,hz,e1,e3,e4,w2,w4,w5,q1,q2,VX,Nat.reduceEqDiff,Nat.reduceAdd]
  refine⟨(i,outs.set i ((r*1000000000+x) / d),(r*1000000000+x) % d),by simp only;omega,by omega,rfl,by rw[List.length_set];exact jR,mN lW hq,Nat.mod_lt _ Dp,?_,by (repeat' apply And.intro)<;>first | rfl | trivial⟩
  have h1:=Nat.mod_add_div (r*1000000000+x) d
  rw[set_drop (by omega),sW,tC hx,←hv]
  exact Qw h1
 ·have T3:j=0:=by omega
  subst T3
  rw[List.drop_zero,List.drop_zero,va] at hv
  have h1:a / d=val 1000000000 outs:=by
   rw[←hv,Nat.mul_comm,Nat.mul_add_div Dp,Nat.div_eq_of_lt hr,Nat.add_zero]
  have h2:a % d=r:=by
   rw[←hv,Nat.mul_comm,Nat.mul_add_mod,Nat.mod_eq_of_lt hr]
  simp only[qV,g0,g1,g6,g7,g8,hz,VX,Nat.reduceEqDiff,Nat.reduceAdd]
  refine Iz (m:=a / d) lW jR.symm (by omega) h1.symm ?_
  simp only[g7,VX,Nat.reduceEqDiff,Nat.reduceAdd]
  rw[h2]
  exact aK (by simp[bA,aM,zN,cB,lQ])
end Go.PM
namespace Go.PM
theorem O4 {H:aA} {b b' g:Nat} {x:cA} (h:b≠b'):aH (H.set b x) b' g=aH H b' g:=by
 unfold aH
 rw[List.getElem?_set_ne h]
theorem oF {H:aA} {b g e:Nat} {es nE:List VV} {w w':Bool} (h:aH H b g=some (es,e,w)):aH (H.set b (.row g nE e w')) b g=some (nE,e,w'):=by
 have bH:b<H.length:=by
  unfold aH at h
  split at h
  ·rename_i hb
   exact(List.getElem?_eq_some_iff.1 hb).1
  ·cases h
 unfold aH
 rw[List.getElem?_set_self bH]
 simp
theorem mU {H:aA} {b:Nat} {x y:cA}:(H.set b x).set b y=H.set b y:=by rw[List.set_set]
theorem xG {H:aA} {b g e:Nat} {es:List VV} {w:Bool} (h:aH H b g=some (es,e,w)):H.set b (.row g es e w)=H:=by
 apply List.ext_getElem?
 intro i
 by_cases hi:b=i
 ·subst hi
  unfold aH at h
  split at h
  ·rename_i hb
   split at h
   ·rename_i hg
    cases h
    rw[List.getElem?_set_self (List.getElem?_eq_some_iff.1 hb).1,hb,hg]
   ·cases h
  ·cases h
 ·rw[List.getElem?_set_ne hi]
theorem ZH {H:aA} {b g o i lo d:Nat} {pre iQ post:List Nat} (hr:aH H b g=some ((pre++iQ++post).map uV,1,true)) (ho:pre.length=o) (hi:i<iQ.length) (fG:lo≤b) :
  cD lo 1 (.ptr b g (o+i) 0) (uV d) H=some (H.set b (.row g ((pre++iQ.set i d++post).map uV) 1 true)):=by
 rw[eH (f:=uV) (e:=1) hr (by simp only[List.length_append];omega) fG rfl rfl,Vf ho hi]
theorem UR {H:aA} {lo b g o L c b2 g2 n2 c2 t:Nat} {pre iQ post vs OH:List Nat} {w2:Bool} (hr:aH H b g=some ((pre++iQ++post).map uV,1,true)) (WM:aH H b2 g2=some (OH.map uV,1,w2)) (hb:b≠b2) (fG:lo≤b)
  (ho:pre.length=o) (hL:iQ.length=L) (aAL:L≤70368744177664) (Qn:OH.take n2=vs) (hn2:n2≤OH.length) (hle:n2≤L) (Xw:∀d∈iQ,d<4294967296) (Ho:∀d∈vs,d<4294967296) (ht:t<4294967296) (rU:t*val 4294967296 vs≤val 4294967296 iQ+val 4294967296 vs) :
  kS 200 [.ref b g o L c,.ref b2 g2 0 n2 c2,VK .u64 t] lo H fun r H'=>∃sB:List Nat,H'=H.set b (.row g ((pre++sB++post).map uV) 1 true)∧sB.length=L∧(∀d∈sB,d<4294967296) ∧
   ((r=VB false∧val 4294967296 sB+t*val 4294967296 vs=val 4294967296 iQ)∨(r=VB true∧val 4294967296 iQ<t*val 4294967296 vs∧val 4294967296 sB+t*val 4294967296 vs=val 4294967296 iQ+val 4294967296 vs)):=by
 refine kS.walk ⟨true,false⟩ J6 (Nat.le_of_ble_eq_true rfl) ?_
 have E3:vs.length=n2:=by rw[←Qn,List.length_take];omega
 have sL:∀i,i<n2→OH[i]? = vs[i]? := fun i hi=>by rw[←Qn,List.getElem?_take_of_lt hi]
 have P3:=pF Xw
 have M6:=pF Ho
 rw[hL] at P3
 rw[E3] at M6
 have hVL:val 4294967296 vs≤4294967296^L:=Nat.le_trans (Nat.le_of_lt M6) (Nat.pow_le_pow_right (by decide) hle)
 have e0:∀ {K:aA} {es:List VV},aH K b g=some (es,1,true)→qB (.ref b g o L c) K=some (VI L):=fun h=>dP h
 have e00:∀ {K:aA},aH K b2 g2=some (OH.map uV,1,w2)→qB (.ref b2 g2 0 n2 c2) K=some (VI n2):=fun h=>dP h
 have rd:∀(s:List Nat),s.length=L→aH (H.set b (.row g ((pre++s++post).map uV) 1 true)) b g=some ((pre++s++post).map uV,1,true):=fun s _=>oF hr
 have rd2:∀(s:List Nat),aH (H.set b (.row g ((pre++s++post).map uV) 1 true)) b2 g2=some (OH.map uV,1,w2):=fun s=>by rw[O4 hb];exact WM
 have wi:∀i:Nat,i<L→IntKind.i64.wrap ((i:Int)+1)=((i+1:Nat):Int):=fun i hi=>wrapN (i+1) (by omega) (by omega)
 have back:∀(ρ:dH) (s:List Nat),s.length=L→(∀d∈s,d<4294967296)→(∀s2:List Nat,s2.length=L→(∀d∈s2,d<4294967296)→∀c,val 4294967296 s+val 4294967296 vs=val 4294967296 s2+4294967296^L*c→val 4294967296 s2+t*val 4294967296 vs=val 4294967296 iQ+val 4294967296 vs)→val 4294967296 iQ<t*val 4294967296 vs→ρ 0 = .ref b g o L c→ρ 1 = .ref b2 g2 0 n2 c2→ρ 7=VK .u64 0→ρ 58=VI L→ρ 59=VI 0 →
   VW ⟨true,false⟩ lo (.loop mK) (AO 2 (oB (VW ⟨true,false⟩ lo (.seq (.dJ [⟨(some 6),(.mv (.const (.bool true))),none,false,[]⟩]) .ret) (A5 [.tmp 6] fun r H'=>∃sB:List Nat,H'=H.set b (.row g ((pre++sB++post).map uV) 1 true)∧sB.length=L∧(∀d∈sB,d<4294967296)∧((r=VB false∧val 4294967296 sB+t*val 4294967296 vs=val 4294967296 iQ)∨(r=VB true∧val 4294967296 iQ<t*val 4294967296 vs∧val 4294967296 sB+t*val 4294967296 vs=val 4294967296 iQ+val 4294967296 vs)))) (A5 [.tmp 6] fun r H'=>∃sB:List Nat,H'=H.set b (.row g ((pre++sB++post).map uV) 1 true)∧sB.length=L∧(∀d∈sB,d<4294967296)∧((r=VB false∧val 4294967296 sB+t*val 4294967296 vs=val 4294967296 iQ)∨(r=VB true∧val 4294967296 iQ<t*val 4294967296 vs∧val 4294967296 sB+t*val 4294967296 vs=val 4294967296 iQ+val 4294967296 vs))))) ρ (H.set b (.row g ((pre++s++post).map uV) 1 true)):=by
  intro ρ s hs PB Le agZ g0 g1 g7 g58 g59
  refine aP (fun(u:Nat×List Nat×Nat) ρ K=>u.1≤L∧K=H.set b (.row g ((pre++u.2.1++post).map uV) 1 true)∧u.2.1.length=L∧(∀d∈u.2.1,d<4294967296)∧u.2.2≤1∧val 4294967296 (s.take u.1)+val 4294967296 (vs.take u.1)=val 4294967296 (u.2.1.take u.1)+4294967296^u.1*u.2.2∧(∀j,u.1≤j→u.2.1[j]? = s[j]?) ∧
   ρ 0 = .ref b g o L c∧ρ 1 = .ref b2 g2 0 n2 c2∧ρ 7=VK .u64 u.2.2∧ρ 58=VI L∧ρ 59=VI u.1) (fun u=>L-u.1) (0,s,0) ⟨Nat.zero_le _,rfl,hs,PB,by simp,by simp[val],fun _ _=>rfl,g0,g1,g7,g58,g59⟩ ?_
  rintro⟨i,outs,cy⟩ NP K ⟨hi,rfl,jR,lW,hc,hv,Ga,k0,k1,k7,k58,k59⟩
  simp only at hi jR lW hc hv Ga k7 k59
  by_cases cK:(i:Int)<(L:Int)
  ·obtain⟨x,hx⟩:∃x,outs[i]? = some x:=⟨_,List.getElem?_eq_getElem (by omega)⟩
   have lx:=lW x (List.mem_of_getElem? hx)
   have Gg:s[i]? = some x:=by rw[←Ga i (Nat.le_refl _)];exact hx
   have e1:bP 1 (.ref b g o L c) (VI i) (H.set b (.row g ((pre++outs++post).map uV) 1 true))=some (.ptr b g (o+i) 0):=aS (rd outs jR) (by omega)
   have e2:cN false 1 (.ptr b g (o+i) 0) (H.set b (.row g ((pre++outs++post).map uV) 1 true))=some (uV x):=jD (rd outs jR) (by rw[P5 ho (by omega)];exact hx)
   have e3:∀d:Nat,cD lo 1 (.ptr b g (o+i) 0) (uV d) (H.set b (.row g ((pre++outs++post).map uV) 1 true))=some (H.set b (.row g ((pre++outs.set i d++post).map uV) 1 true)):=fun d=>by
    rw[ZH (rd outs jR) ho (by omega) fG,mU]
   have e4:=e00 (rd2 outs)
   have w1:IntKind.u64.wrap (x:Int)=(x:Int):=fR _ (by omega)
   have w2:IntKind.u64.wrap ((cy:Int)+(x:Int))=((cy+x:Nat):Int):=by rw[←Int.natCast_add];exact fR _ (by omega)
   have wii:=wi i (by omega)
   have step:∀y,y<4294967296→(∀d,vs[i]? = some d→d=y)→(vs.length≤i→y=0) →
     (i+1≤L∧(outs.set i ((cy+x+y) % 4294967296)).length=L∧(∀d∈outs.set i ((cy+x+y) % 4294967296),d<4294967296)∧(cy+x+y) / 4294967296≤1∧val 4294967296 (s.take (i+1))+val 4294967296 (vs.take (i+1))=val 4294967296 ((outs.set i ((cy+x+y) % 4294967296)).take (i+1))+4294967296^(i+1)*((cy+x+y) / 4294967296))∧∀j,i+1≤j→(outs.set i ((cy+x+y) % 4294967296))[j]? = s[j]? := by
    intro y hy h1 h2
    refine⟨⟨by omega,by rw[List.length_set];exact jR,mN lW (Nat.mod_lt _ (by decide)),by omega,?_⟩,fun j hj=>by rw[List.getElem?_set_ne (by omega)];exact Ga j (by omega)⟩
    have hy':val 4294967296 (vs.take (i+1))=val 4294967296 (vs.take i)+4294967296^i*y:=by
     cases Tl:vs[i]? with
     | some d=>rw[bD Tl,h1 d Tl]
     |
      none =>
      have hle:=List.getElem?_eq_none_iff.1 Tl
      rw[h2 hle,kD hle,kD (by omega),Nat.mul_zero,Nat.add_zero]
    rw[bD Gg,hy',eT (by omega),Nat.pow_succ]
    exact FO hv rfl (Nat.mod_add_div _ _)
   by_cases bH:(i:Int)<(n2:Int)
   ·obtain⟨y,hy⟩:∃y,vs[i]? = some y:=⟨_,List.getElem?_eq_getElem (by omega)⟩
    have ly:=Ho y (List.mem_of_getElem? hy)
    have f1:bP 1 (.ref b2 g2 0 n2 c2) (VI i) (H.set b (.row g ((pre++outs++post).map uV) 1 true))=some (.ptr b2 g2 i 0):=by rw[aS (rd2 outs) (by omega),Nat.zero_add]
    have f2:cN false 1 (.ptr b2 g2 i 0) (H.set b (.row g ((pre++outs++post).map uV) 1 true))=some (uV y):=jD (rd2 outs) (by rw[sL i (by omega)];exact hy)
    have w3:IntKind.u64.wrap (y:Int)=(y:Int):=fR _ (by omega)
    have w4:IntKind.u64.wrap (((cy+x:Nat):Int)+(y:Int))=((cy+x+y:Nat):Int):=by rw[←Int.natCast_add];exact fR _ (by omega)
    obtain⟨⟨s1,s2,s3,s4,s5⟩,s6⟩:=step y ly (fun d hd=>by rw[hy] at hd;injection hd with hd;exact hd.symm) (fun h=>by omega)
    simp only[mK,k0,k1,k7,k58,k59,cK,bH,e1,e2,e3,e4,f1,f2,w1,w2,w3,w4,wii,wrap32,tU,VX,Nat.reduceEqDiff,Nat.reduceAdd]
    exact⟨(i+1,outs.set i ((cy+x+y) % 4294967296),(cy+x+y) / 4294967296),by simp only;omega,s1,rfl,s2,s3,s4,s5,s6,by (repeat' apply And.intro)<;>first | rfl | trivial⟩
   ·obtain⟨⟨s1,s2,s3,s4,s5⟩,s6⟩:=step 0 (by decide) (fun d hd=>by have:=(List.getElem?_eq_some_iff.1 hd).1;omega) (fun _=>rfl)
    simp only[Nat.add_zero] at s2 s3 s4 s5 s6
    simp only[mK,k0,k1,k7,k58,k59,cK,bH,e1,e2,e3,e4,w1,w2,wii,wrap32,tU,VX,Nat.reduceEqDiff,Nat.reduceAdd]
    exact⟨(i+1,outs.set i ((cy+x) % 4294967296),(cy+x) / 4294967296),by simp only;omega,s1,rfl,s2,s3,s4,s5,s6,by (repeat' apply And.intro)<;>first | rfl | trivial⟩
  ·have lS:i=L:=by omega
   subst lS
   rw[List.take_of_length_le (by omega),List.take_of_length_le (by omega),List.take_of_length_le (by omega)] at hv
   simp only[mK,k0,k1,k7,k58,k59,cK,VX,Nat.reduceEqDiff,Nat.reduceAdd]
   exact⟨outs,rfl,jR,lW,.inr ⟨agZ,Le outs jR lW cy hv⟩⟩
 simp only[E8,CA,e0 hr,VX,Nat.reduceEqDiff,Nat.reduceAdd]
 refine aP (fun(u:Nat×List Nat×Nat×Nat) ρ K=>u.1≤L∧K=H.set b (.row g ((pre++u.2.1++post).map uV) 1 true)∧u.2.1.length=L∧(∀d∈u.2.1,d<4294967296)∧u.2.2.1<4294967296∧u.2.2.2≤1∧val 4294967296 (iQ.take u.1)+4294967296^u.1*(u.2.2.1+u.2.2.2)=val 4294967296 (u.2.1.take u.1)+t*val 4294967296 (vs.take u.1)∧(∀j,u.1≤j→u.2.1[j]? = iQ[j]?) ∧
  ρ 0 = .ref b g o L c∧ρ 1 = .ref b2 g2 0 n2 c2∧ρ 2=VK .u64 t∧ρ 7=VK .u64 u.2.2.1∧ρ 8=VI u.2.2.2∧ρ 13=VI L∧ρ 14=VI u.1) (fun u=>L-u.1) (0,iQ,0,0) ⟨Nat.zero_le _,(xG hr).symm,hL,Xw,by simp,by simp,by simp[val],fun _ _=>rfl,by (repeat' apply And.intro)<;>first | rfl | trivial⟩ ?_
 rintro⟨i,outs,cy,l⟩ ρ K ⟨hi,rfl,jR,lW,hc,BP,hv,Ga,k0,k1,k2,k7,k8,BO,C1⟩
 simp only at hi jR lW hc BP hv Ga k7 k8 C1
 by_cases cK:(i:Int)<(L:Int)
 ·obtain⟨x,hx⟩:∃x,outs[i]? = some x:=⟨_,List.getElem?_eq_getElem (by omega)⟩
  have lx:=lW x (List.mem_of_getElem? hx)
  have Gg:iQ[i]? = some x:=by rw[←Ga i (Nat.le_refl _)];exact hx
  have e1:bP 1 (.ref b g o L c) (VI i) (H.set b (.row g ((pre++outs++post).map uV) 1 true))=some (.ptr b g (o+i) 0):=aS (rd outs jR) (by omega)
  have e2:cN false 1 (.ptr b g (o+i) 0) (H.set b (.row g ((pre++outs++post).map uV) 1 true))=some (uV x):=jD (rd outs jR) (by rw[P5 ho (by omega)];exact hx)
  have e3:∀d:Nat,cD lo 1 (.ptr b g (o+i) 0) (uV d) (H.set b (.row g ((pre++outs++post).map uV) 1 true))=some (H.set b (.row g ((pre++outs.set i d++post).map uV) 1 true)):=fun d=>by
   rw[ZH (rd outs jR) ho (by omega) fG,mU]
  have e4:=e00 (rd2 outs)
  have wii:=wi i (by omega)
  have w1:IntKind.i64.wrap (x:Int)=(x:Int):=wrapN x rfl (by omega)
  have step:∀y c1,y<4294967296→c1=cy+t*y→(∀d,vs[i]? = some d→d=y)→(vs.length≤i→y=0) →
    c1 / 4294967296<4294967296∧IntKind.i64.wrap ((x:Int)-((c1 % 4294967296:Nat):Int)-(l:Int))=(x:Int)-((c1 % 4294967296:Nat):Int)-(l:Int)∧IntKind.i64.wrap ((x:Int)-((c1 % 4294967296:Nat):Int))=(x:Int)-((c1 % 4294967296:Nat):Int) ∧
    ∃r l',l'≤1∧((x:Int)-((c1 % 4294967296:Nat):Int)-(l:Int)<0↔l'=1)∧IntKind.u32.wrap ((x:Int)-((c1 % 4294967296:Nat):Int)-(l:Int))=((r:Nat):Int) ∧
    (i+1≤L∧(outs.set i r).length=L∧(∀d∈outs.set i r,d<4294967296)∧c1 / 4294967296<4294967296∧l'≤1∧val 4294967296 (iQ.take (i+1))+4294967296^(i+1)*(c1 / 4294967296+l')=val 4294967296 ((outs.set i r).take (i+1))+t*val 4294967296 (vs.take (i+1))∧∀j,i+1≤j→(outs.set i r)[j]? = iQ[j]?):=by
   intro y c1 hy Yw h1 h2
   have hty:t*y≤4294967295*4294967295:=Nat.mul_le_mul (by omega) (by omega)
   have hm:=Nat.mod_lt c1 (show 0<4294967296 by decide)
   have hdv:=Nat.mod_add_div c1 4294967296
   have hq:c1 / 4294967296<4294967296:=Nat.div_lt_of_lt_mul (by omega)
   refine⟨hq,wrap64 (by omega) (by omega),wrap64 (by omega) (by omega),?_⟩
   obtain⟨r,l',B7,Fh,hd,hlw,lM⟩:∃r l':Nat,l'≤1∧r<4294967296∧r+c1 % 4294967296+l=x+4294967296*l'∧IntKind.u32.wrap ((x:Int)-((c1 % 4294967296:Nat):Int)-(l:Int))=((r:Nat):Int)∧((x:Int)-((c1 % 4294967296:Nat):Int)-(l:Int)<0↔l'=1):=by
    by_cases hn:(x:Int)-((c1 % 4294967296:Nat):Int)-(l:Int)<0
    ·exact⟨x+4294967296-c1 % 4294967296-l,1,by omega,by omega,by omega,K8 (by omega) hn (by omega),fun _=>rfl,fun _=>hn⟩
    ·exact⟨x-c1 % 4294967296-l,0,by omega,by omega,by omega,by rw[IntKind.wrap_u32];omega,fun h=>absurd h hn,fun h=>by omega⟩
   refine⟨r,l',B7,lM,hlw,by omega,by rw[List.length_set];exact jR,mN lW Fh,hq,B7,?_,fun j hj=>by rw[List.getElem?_set_ne (by omega)];exact Ga j (by omega)⟩
   have hy':val 4294967296 (vs.take (i+1))=val 4294967296 (vs.take i)+4294967296^i*y:=by
    cases Tl:vs[i]? with
    | some d=>rw[bD Tl,h1 d Tl]
    |
     none =>
     have hle:=List.getElem?_eq_none_iff.1 Tl
     rw[h2 hle,kD hle,kD (by omega),Nat.mul_zero,Nat.add_zero]
   rw[bD Gg,hy',eT (by omega),Nat.pow_succ]
   have:=Xa hv Yw hdv.symm hd
   rw[this,Nat.mul_add,Nat.mul_left_comm t]
  by_cases bH:(i:Int)<(n2:Int)
  ·obtain⟨y,hy⟩:∃y,vs[i]? = some y:=⟨_,List.getElem?_eq_getElem (by omega)⟩
   have ly:=Ho y (List.mem_of_getElem? hy)
   have f1:bP 1 (.ref b2 g2 0 n2 c2) (VI i) (H.set b (.row g ((pre++outs++post).map uV) 1 true))=some (.ptr b2 g2 i 0):=by rw[aS (rd2 outs) (by omega),Nat.zero_add]
   have f2:cN false 1 (.ptr b2 g2 i 0) (H.set b (.row g ((pre++outs++post).map uV) 1 true))=some (uV y):=jD (rd2 outs) (by rw[sL i (by omega)];exact hy)
   have w3:IntKind.u64.wrap (y:Int)=(y:Int):=fR _ (by omega)
   have hty:t*y≤4294967295*4294967295:=Nat.mul_le_mul (by omega) (by omega)
   have w4:IntKind.u64.wrap ((t:Int)*(y:Int))=((t*y:Nat):Int):=by rw[←Int.natCast_mul];exact fR _ (by omega)
   have w5:IntKind.u64.wrap ((cy:Int)+((t*y:Nat):Int))=((cy+t*y:Nat):Int):=by rw[←Int.natCast_add];exact fR _ (by omega)
   have w6:IntKind.i64.wrap (((cy+t*y) % 4294967296:Nat):Int)=(((cy+t*y) % 4294967296:Nat):Int):=wrapN _ rfl (by omega)
   obtain⟨_,a1,a2,r,l',B7,lM,hw,s1,s2,s3,s4,s5,s6,s7⟩:=step y (cy+t*y) ly rfl (fun d hd=>by rw[hy] at hd;injection hd with hd;exact hd.symm) (fun h=>by omega)
   by_cases hn:(x:Int)-(((cy+t*y) % 4294967296:Nat):Int)-(l:Int)<0
   ·have:=lM.1 hn
    subst this
    simp only[gB,k0,k1,k2,k7,k8,BO,C1,cK,bH,e1,e2,e3,e4,f1,f2,w1,w3,w4,w5,w6,a1,a2,hn,hw,wii,wrap32,tU,VX,Nat.reduceEqDiff,Nat.reduceAdd]
    exact⟨(i+1,outs.set i r,(cy+t*y) / 4294967296,1),by simp only;omega,s1,rfl,s2,s3,s4,s5,s6,s7,by (repeat' apply And.intro)<;>first | rfl | trivial⟩
   ·have:l'=0:=by
     have:l'≠1:=fun h=>hn (lM.2 h)
     omega
    subst this
    simp only[gB,k0,k1,k2,k7,k8,BO,C1,cK,bH,e1,e2,e3,e4,f1,f2,w1,w3,w4,w5,w6,a1,a2,hn,hw,wii,wrap32,tU,VX,Nat.reduceEqDiff,Nat.reduceAdd]
    exact⟨(i+1,outs.set i r,(cy+t*y) / 4294967296,0),by simp only;omega,s1,rfl,s2,s3,s4,s5,s6,s7,by (repeat' apply And.intro)<;>first | rfl | trivial⟩
  ·have w6:IntKind.i64.wrap ((cy % 4294967296:Nat):Int)=((cy % 4294967296:Nat):Int):=wrapN _ rfl (by omega)
   obtain⟨_,a1,a2,r,l',B7,lM,hw,s1,s2,s3,s4,s5,s6,s7⟩:=step 0 cy (by decide) (by simp) (fun d hd=>by have:=(List.getElem?_eq_some_iff.1 hd).1;omega) (fun _=>rfl)
   by_cases hn:(x:Int)-((cy % 4294967296:Nat):Int)-(l:Int)<0
   ·have:=lM.1 hn
    subst this
    simp only[gB,k0,k1,k2,k7,k8,BO,C1,cK,bH,e1,e2,e3,e4,w1,w6,a1,a2,hn,hw,wii,wrap32,tU,VX,Nat.reduceEqDiff,Nat.reduceAdd]
    exact⟨(i+1,outs.set i r,cy / 4294967296,1),by simp only;omega,s1,rfl,s2,s3,s4,s5,s6,s7,by (repeat' apply And.intro)<;>first | rfl | trivial⟩
   ·have:l'=0:=by
     have:l'≠1:=fun h=>hn (lM.2 h)
     omega
    subst this
    simp only[gB,k0,k1,k2,k7,k8,BO,C1,cK,bH,e1,e2,e3,e4,w1,w6,a1,a2,hn,hw,wii,wrap32,tU,VX,Nat.reduceEqDiff,Nat.reduceAdd]
    exact⟨(i+1,outs.set i r,cy / 4294967296,0),by simp only;omega,s1,rfl,s2,s3,s4,s5,s6,s7,by (repeat' apply And.intro)<;>first | rfl | trivial⟩
 ·have lS:i=L:=by omega
  subst lS
  rw[List.take_of_length_le (by omega),List.take_of_length_le (by omega),List.take_of_length_le (by omega)] at hv
  have alN:=pF lW
  rw[jR] at alN
  by_cases hz:l=0∧cy=0
  ·obtain⟨rfl,rfl⟩:=hz
   simp only[gB,k0,k1,k2,k7,k8,BO,C1,cK,Int.natCast_zero,VX,Nat.reduceEqDiff,Nat.reduceAdd]
   exact⟨outs,rfl,jR,lW,.inl (by simpa using hv.symm)⟩
  ·have axA:cy+l=1:=by
    rcases Zb hv alN hVL rU with h | h<;>omega
   rw[axA,Nat.mul_one] at hv
   have agZ:val 4294967296 iQ<t*val 4294967296 vs:=by omega
   have fin:∀s2:List Nat,s2.length=i→(∀d∈s2,d<4294967296)→∀c,val 4294967296 outs+val 4294967296 vs=val 4294967296 s2+4294967296^i*c→val 4294967296 s2+t*val 4294967296 vs=val 4294967296 iQ+val 4294967296 vs:=by
    intro s2 h2 h3 c h4
    have h5:=pF h3
    rw[h2] at h5
    exact ZA hv h4 h5 hVL rU P3 (by omega)
   have hlen:=e0 (rd outs jR)
   by_cases Ak:(l:Int)=0
   ·have hcy:¬(cy:Int)=0:=by omega
    simp only[gB,k0,k1,k2,k7,k8,BO,C1,cK,Ak,hcy,hlen,VX,Nat.reduceEqDiff,Nat.reduceAdd]
    exact back _ outs jR lW fin agZ k0 k1 (by rfl) (by rfl) (by rfl)
   ·simp only[gB,k0,k1,k2,k7,k8,BO,C1,cK,Ak,hlen,VX,Nat.reduceEqDiff,Nat.reduceAdd]
    exact back _ outs jR lW fin agZ k0 k1 (by rfl) (by rfl) (by rfl)
end Go.PM