/- Texts of a claim, in one: part 8. -/
import Derived.Test.YtodamlihdkalfaaGreatDoorKSg
set_option linter.unusedSimpArgs false
set_option linter.unusedVariables false
namespace Go.PM
abbrev tV (d:Nat):VV:=VI (d:Int)
abbrev iE (ds:List Nat):VV:=aL tV ds
def bQ (n:Nat):VV:=iE (aC 1000000000 n)
theorem EL:∀d:Nat,(aB (tV d)).length=1:=fun _=>rfl
theorem xZ (ds:List Nat):aM (iE ds)=true:=gW EL fun _=>rfl
theorem Wj (ds:List Nat):eQ (iE ds)=true:=xF EL (fun _=>rfl) fun _=>rfl
theorem bZ (n:Nat):aM (bQ n)=true:=xZ _
theorem mY (n:Nat):eQ (bQ n)=true:=Wj _
theorem HA:bQ 0 = .tree [] .op:=by rw[bQ,bW];rfl
theorem X0:bQ 1=iE [1]:=by rw[bQ,jH (by decide) (by decide),bW]
theorem cO (n:Nat) {H:aA}:pV (bQ n) H=some (VI (aC 1000000000 n).length):=eK
section
variable {α:Type} {f:α→VV} {xs:List α} {x:α} {H:aA}
theorem Jm {g e:Nat} {es:List VV} {w:Bool}:aP [.row g es e w] 0 g=some (es,e,w):=bK
theorem asI {e bytes:Nat} (he:1≤e) (hb:1≤bytes) (CJ:(xs.length+1)*bytes≤140737488355328):fE 0 e bytes (.ref 0 xs.length 0 xs.length xs.length) [f x] [.row xs.length (xs.map f) e true]=some (.ref 0 (xs.length+1) 0 (xs.length+1) (xs.length+1),[.row (xs.length+1) ((xs++[x]).map f) e true]):=by
 rw[lT (f:=f) (x:=x) bK rfl (Nat.le_refl _) he hb CJ]
 rfl
theorem Pf {n g e:Nat} {w:Bool} (hp:∀x,aM (f x)=true) (hn:n=xs.length):fz depth [.row g (xs.map f) e w] (.ref 0 g 0 n n)=some (aL f xs):=EB bK (by simpa using hn) (Nat.le_refl _) (eO hp)
end
theorem J4 {lr:Bool}:pT lr [.int .i64 0] 0 [] []=some (.ref 0 0 0 0 0,[.row 0 (([]:List Nat).map tV) 1 true]):=oH (H:=[]) rfl
theorem rH {d:Int} {H:aA}:pT false [.int .i64 0] 1 [(0,VI d)] H=some (.tree [VI d] (.cl 1),H):=pN rfl rfl rfl
theorem uN {d:Int} {H:aA} {t:TK}:eW 1 (.tree [VI d] t) H=some [VI d]:=lY rfl rfl
theorem abX {ds:List Nat} {d:Nat} (h:ds.length<17592186044416):fE 0 1 8 (.ref 0 ds.length 0 ds.length ds.length) [VI (d:Int)] [.row ds.length (ds.map tV) 1 true]=some (.ref 0 (ds.length+1) 0 (ds.length+1) (ds.length+1),[.row (ds.length+1) ((ds++[d]).map tV) 1 true]):=asI (f:=tV) (by decide) (by decide) (by omega)
theorem MP (n:Nat):dF .rem (.int .i64 (n:Int)) (.int .i64 1000000000)=some (.int .i64 ((n % 1000000000:Nat):Int)):=by
 have h2:(n:Int).tmod 1000000000=((n % 1000000000:Nat):Int):=by rw[Int.tmod_eq_emod_of_nonneg (by omega)];simp
 simp only[dF,if_true,h2]
 rfl
theorem Mh (n:Nat) (h:n≤9223372036854775807):dF .quo (.int .i64 (n:Int)) (.int .i64 1000000000)=some (.int .i64 ((n / 1000000000:Nat):Int)):=by
 have h2:(n:Int).tdiv 1000000000=((n / 1000000000:Nat):Int):=by rw[Int.tdiv_eq_ediv_of_nonneg (by omega)];simp
 simp only[dF,if_true,h2]
 rw[wrap64 (by omega) (by omega)]
 rfl
theorem rR (ds:List Nat) (h:∀d∈ds,d<1000000000) (hlen:ds.length≤70368744177664):TC 211 [iE ds] (bQ (val 1000000000 ds)):=by
 refine TC.walk ⟨true,false⟩ KA rfl (Nat.le_of_ble_eq_true rfl) (by simp[aJ,xZ]) (mY _) ?_
 simp only[F9,Ct,VX,Nat.reduceEqDiff,Nat.reduceAdd]
 refine bC (fun(xs:List Nat) ρ H'=>(∀d∈xs,d<1000000000)∧val 1000000000 xs=val 1000000000 ds∧xs.length≤ds.length∧H'=[]∧ρ 0=iE xs) (fun s=>s.length) ds ⟨h,rfl,Nat.le_refl _,rfl,rfl⟩ ?_
 rintro xs ρ H' ⟨hx,hv,hl,rfl,h0⟩
 have done:xs.getLast? ≠ some 0→fz depth [] (iE xs)=some (bQ (val 1000000000 ds)):=fun fR=>by rw[bQ,←hv,Lj (by decide) hx fR];exact aG (xZ _)
 rcases Nat.eq_zero_or_pos xs.length with hz | hp
 ·have hxn:xs=[]:=List.length_eq_zero_iff.1 hz
  subst hxn
  simp only[qF,h0,Int.reduceLT,Int.natCast_zero,eK,List.length_nil,VX,Nat.reduceEqDiff,Nat.reduceAdd]
  exact done (by simp)
 ·obtain⟨m,hm⟩:∃m,xs.length=m+1:=⟨xs.length-1,by omega⟩
  obtain⟨d,hd⟩:∃d,xs[m]? = some d:=⟨_,List.getElem?_eq_getElem (by omega)⟩
  have CL:(0:Int)<((m+1:Nat):Int):=by omega
  have w1:IntKind.i64.wrap (((m+1:Nat):Int)-1)=(m:Int):=by rw[wrap64 (by omega) (by omega)];omega
  have e1:=aI (f:=tV) (t := .op) (H:=[]) (size:=1) (k := .i64) hd rfl
  by_cases Cl:(d:Int)=0
  ·have hd1:d=0:=by omega
   subst hd1
   have e2:=IB (f:=tV) (size:=1) (t := .op) (H:=[]) (k2 := .i64) (xs:=xs) (h:=m) EL (by omega) (by omega)
   have Q5:xs=xs.take m++[0]:=by
    have:=List.take_append_drop m xs
    have h3:=(List.getElem?_eq_some_iff.1 hd)
    rw[List.drop_eq_getElem_cons h3.1,h3.2,List.drop_of_length_le (by omega)] at this
    exact this.symm
   simp only[qF,h0,hm,CL,w1,e1,e2,Cl,eK,VX,Nat.reduceEqDiff,Nat.reduceAdd]
   refine⟨xs.take m,by simp only[List.length_take];omega,fun d hd=>hx d (List.mem_of_mem_take hd),?_,by simp only[List.length_take];omega,by first | rfl | exact⟨rfl,rfl⟩⟩
   rw[←hv]
   conv=>rhs;rw[Q5]
   rw[sB]
   simp
  ·simp only[qF,h0,hm,CL,w1,e1,Cl,eK,VX,Nat.reduceEqDiff,Nat.reduceAdd]
   exact done (NV hm hd (by omega))
theorem G5 {outs:List Nat} {n g m:Nat} {lo:Nat} {w:Bool} {K:VV→aA→Prop} (hd:∀d∈outs,d<1000000000) (hn:n=outs.length) (hlen:outs.length≤70368744177664) (hm:val 1000000000 outs=m) (hk:K (bQ m) (cM [.row g (outs.map tV) 1 w] [0])) :
  cT 211 [.ref 0 g 0 n n] lo [.row g (outs.map tV) 1 w] K:=by
 subst hm
 rw[TC.adD (f:=tV) (rR outs hd hlen) bK hn (Nat.le_refl _) EL (fun _=>rfl) rfl rfl]
 exact hk
theorem Qs {H:aA} (n:Nat):fz depth H (bQ n)=some (bQ n):=aG (bZ n)
theorem pO (n:Int) (h1:n≤9223372036854775807):TC 161 [VI n] (bQ n.toNat):=by
 refine TC.walk ⟨true,false⟩ Ly rfl (Nat.le_of_ble_eq_true rfl) rfl (mY _) ?_
 simp only[HK,D8,J4,VX,Nat.reduceEqDiff,Nat.reduceAdd]
 refine bC (fun(s:Int×List Nat) ρ H=>s.1≤9223372036854775807∧H=[.row s.2.length (s.2.map tV) 1 true]∧s.2.length≤63∧s.1.toNat*2^s.2.length≤9223372036854775807∧aC 1000000000 n.toNat=s.2++aC 1000000000 s.1.toNat∧ρ 0=VI s.1∧ρ 3 = .ref 0 s.2.length 0 s.2.length s.2.length) (fun s=>s.1.toNat) (n,[]) ⟨h1,rfl,by simp,by simp only[List.length_nil,Nat.pow_zero,Nat.mul_one];omega,rfl,rfl,rfl⟩ ?_
 rintro⟨m,ds⟩ ρ H ⟨hm,rfl,hl,bD,hd,g0,g3⟩
 simp only at hm hl bD hd g0 g3
 by_cases hp:(0:Int)<m
 ·obtain⟨k,rfl⟩:∃k:Nat,m=(k:Int):=⟨m.toNat,by omega⟩
  rw[Int.toNat_natCast] at bD hd
  have hk0:k≠0:=by omega
  have HY:ds.length<63:=by
   rcases Nat.lt_or_ge ds.length 63 with h | h
   ·exact h
   ·have e:2^ds.length=9223372036854775808:=by rw[show ds.length=63 by omega]
    rw[e] at bD
    omega
  have r1:=MP k
  have q1:=Mh k (by omega)
  have a1:=abX (ds:=ds) (d:=k % 1000000000) (by omega)
  simp only[yU,g0,g3,hp,r1,q1,rH,uN,a1,VX,Nat.reduceEqDiff,Nat.reduceAdd]
  refine⟨(((k / 1000000000:Nat):Int),ds++[k % 1000000000]),?_,by simp only;omega,by simp,by simp;omega,?_,?_,rfl,by simp⟩
  ·simp only[Int.toNat_natCast];exact Nat.div_lt_self (by omega) (by decide)
  ·simp only[Int.toNat_natCast,List.length_append,List.length_singleton,Nat.pow_succ]
   have h1:k / 1000000000*2≤k:=by omega
   have:=Nat.mul_le_mul_right (2^ds.length) h1
   rw[Nat.mul_assoc,Nat.mul_comm 2] at this
   omega
  ·simp only[Int.toNat_natCast]
   rw[hd,jH (by decide) hk0,List.append_assoc]
   rfl
 ·have hz:m.toNat=0:=by omega
  rw[hz,bW,List.append_nil] at hd
  simp only[yU,g0,g3,hp,VX,Nat.reduceEqDiff,Nat.reduceAdd]
  rw[bQ,hd]
  exact Pf (fun _=>rfl) rfl
theorem uA (a b:Nat) (ha:(aC 1000000000 a).length≤17592186044416) (hb:(aC 1000000000 b).length≤17592186044416):TC 178 [bQ a,bQ b] (VI (fC a b)):=by
 refine TC.walk ⟨true,false⟩ LD rfl (Nat.le_of_ble_eq_true rfl) (by simp[aJ,bZ]) rfl ?_
 have fin:∀ {x:Int},x=fC a b→fz depth [] (VI x)=some (VI (fC a b)):=fun h=>by rw[h];exact aG rfl
 unfold bQ iE
 by_cases hl:(((aC 1000000000 a).length:Nat):Int)=(((aC 1000000000 b).length:Nat):Int)
 ·have zA:(aC 1000000000 a).length=(aC 1000000000 b).length:=by omega
  have w1:IntKind.i64.wrap ((((aC 1000000000 b).length:Nat):Int)-1)=(((aC 1000000000 b).length:Nat):Int)-1:=wrap64 (by omega) (by omega)
  simp only[zL,uJ,hl,w1,VX,Nat.reduceEqDiff,Nat.reduceAdd]
  refine bC (fun(j:Nat) ρ H=>j≤(aC 1000000000 b).length∧H=[]∧(aC 1000000000 a).drop j=(aC 1000000000 b).drop j∧ρ 0=aL tV (aC 1000000000 a)∧ρ 1=aL tV (aC 1000000000 b)∧ρ 5=VI ((j:Int)-1)) (fun j=>j) (aC 1000000000 b).length ⟨Nat.le_refl _,rfl,by rw[List.drop_length,←zA,List.drop_length],rfl,rfl,rfl⟩ ?_
  rintro j ρ H ⟨hj,rfl,hd,h0,h1,h5⟩
  by_cases hz:(0:Int)≤(j:Int)-1
  ·obtain⟨i,rfl⟩:∃i,j=i+1:=⟨j-1,by omega⟩
   obtain⟨x,hx⟩:∃x,(aC 1000000000 a)[i]? = some x:=⟨_,List.getElem?_eq_getElem (by omega)⟩
   obtain⟨y,hy⟩:∃y,(aC 1000000000 b)[i]? = some y:=⟨_,List.getElem?_eq_getElem (by omega)⟩
   have Km:((i+1:Nat):Int)-1=(i:Int):=by omega
   have e1:=aI (f:=tV) (t := .op) (H:=[]) (size:=1) (k := .i64) hx rfl
   have e2:=aI (f:=tV) (t := .op) (H:=[]) (size:=1) (k := .i64) hy rfl
   rw[Km] at h5 hz
   have w2:IntKind.i64.wrap ((i:Int)-1)=(i:Int)-1:=wrap64 (by omega) (by omega)
   by_cases Ap:(x:Int)=(y:Int)
   ·simp only[oK,h0,h1,h5,hz,e1,e2,Ap,w2,VX,Nat.reduceEqDiff,Nat.reduceAdd]
    have aiD:x=y:=by omega
    subst aiD
    refine⟨i,by omega,by omega,?_⟩
    obtain⟨g1,g2⟩:=List.getElem?_eq_some_iff.1 hx
    obtain⟨g3,g4⟩:=List.getElem?_eq_some_iff.1 hy
    rw[List.drop_eq_getElem_cons g1,List.drop_eq_getElem_cons g3,g2,g4,hd]
    exact⟨rfl,rfl⟩
   ·by_cases bD:(x:Int)<(y:Int)
    ·simp only[oK,h0,h1,h5,hz,e1,e2,Ap,bD,VX,Nat.reduceEqDiff,Nat.reduceAdd]
     refine fin ?_
     have:=DF (fF (by decide) a) zA hx hy hd (by omega)
     rw[cA (by decide),cA (by decide)] at this
     simp[fC,this]
    ·simp only[oK,h0,h1,h5,hz,e1,e2,Ap,bD,VX,Nat.reduceEqDiff,Nat.reduceAdd]
     refine fin ?_
     have:=DF (fF (by decide) b) zA.symm hy hx hd.symm (by omega)
     rw[cA (by decide),cA (by decide)] at this
     rw[fC,if_neg (by omega),if_neg (by omega)]
  ·have RZ:j=0:=by omega
   subst RZ
   simp only[oK,h0,h1,h5,hz,VX,Nat.reduceEqDiff,Nat.reduceAdd]
   refine fin ?_
   have:=Rl (b:=1000000000) (by decide) (by simpa using hd)
   subst this
   simp[fC]
 ·by_cases bD:(((aC 1000000000 a).length:Nat):Int)<(((aC 1000000000 b).length:Nat):Int)
  ·simp only[zL,uJ,hl,bD,VX,Nat.reduceEqDiff,Nat.reduceAdd]
   refine fin ?_
   have:=Ds (b:=1000000000) (by decide) (m:=a) (n:=b) (by omega)
   simp[fC,this]
  ·simp only[zL,uJ,hl,bD,VX,Nat.reduceEqDiff,Nat.reduceAdd]
   refine fin ?_
   have:=Ds (b:=1000000000) (by decide) (m:=b) (n:=a) (by omega)
   rw[fC,if_neg (by omega),if_neg (by omega)]
theorem I3 (ds:List Nat) (i:Nat):TC 225 [iE ds,VI (i:Int)] (tV (ds.getD i 0)):=by
 refine TC.walk ⟨true,false⟩ IF rfl (Nat.le_of_ble_eq_true rfl) (by simp[aJ,xZ];rfl) rfl ?_
 by_cases h:(i:Int)<(ds.length:Int)
 ·obtain⟨d,hd⟩:∃d,ds[i]? = some d:=⟨_,List.getElem?_eq_getElem (by omega)⟩
  have e1:=aI (f:=tV) (t := .op) (H:=[]) (size:=1) (k := .i64) hd rfl
  simp only[Am,vF,eK,h,e1,VX,Nat.reduceEqDiff,Nat.reduceAdd]
  rw[List.getD_eq_getElem?_getD,hd]
  exact aG rfl
 ·simp only[Am,vF,eK,h,VX,Nat.reduceEqDiff,Nat.reduceAdd]
  rw[List.getD_eq_getElem?_getD,List.getElem?_eq_none (by omega)]
  exact aG rfl
theorem CY (n i:Nat):TC 225 [bQ n,VI (i:Int)] (tV (n / 1000000000^i % 1000000000)):=by
 have:=I3 (aC 1000000000 n) i
 rwa [Hm (by decide)] at this
theorem GZ (a b:Nat) (ha:(aC 1000000000 a).length<17592186044416) (hb:(aC 1000000000 b).length<17592186044416):TC 177 [bQ a,bQ b] (bQ (a+b)):=by
 refine TC.walk ⟨true,false⟩ GV rfl (Nat.le_of_ble_eq_true rfl) (by simp[aJ,bZ]) (mY _) ?_
 simp only[CC,AJ,J4,VX,Nat.reduceEqDiff,Nat.reduceAdd]
 have hL:=N3 (b:=1000000000) (by decide) (m:=a) (n:=b) (k:=17592186044416-1) (by omega) (by omega)
 refine bC (fun(s:Nat×List Nat×Nat) ρ H=>s.1=s.2.1.length∧H=[.row s.2.1.length (s.2.1.map tV) 1 true]∧s.2.2≤1∧aC 1000000000 (a+b)=s.2.1++aC 1000000000 (a / 1000000000^s.1+b / 1000000000^s.1+s.2.2)∧ρ 0=bQ a∧ρ 1=bQ b∧ρ 5 = .ref 0 s.2.1.length 0 s.2.1.length s.2.1.length∧ρ 6=VI s.2.2∧ρ 7=VI s.1)
  (fun s=>(aC 1000000000 (a+b)).length-s.1) (0,[],0) ⟨rfl,rfl,by simp,by simp,rfl,rfl,rfl,rfl,rfl⟩ ?_
 rintro⟨i,ds,c⟩ ρ H ⟨hi,rfl,hc,hd,g0,g1,g5,g6,g7⟩
 simp only at hi hc hd g5 g6 g7
 have la:=Dx (b:=1000000000) (by decide) (n:=a) (i:=i)
 have lb:=Dx (b:=1000000000) (by decide) (n:=b) (i:=i)
 have c1:=CY a i
 have c2:=CY b i
 have m1:=Nat.mod_lt (a / 1000000000^i) (show 0<1000000000 by decide)
 have m2:=Nat.mod_lt (b / 1000000000^i) (show 0<1000000000 by decide)
 have Zt:a / 1000000000^i+b / 1000000000^i+c≠0→aC 1000000000 (a+b)=ds++(a / 1000000000^i % 1000000000+b / 1000000000^i % 1000000000+c) % 1000000000::aC 1000000000 (a / 1000000000^(i+1)+b / 1000000000^(i+1)+(a / 1000000000^i % 1000000000+b / 1000000000^i % 1000000000+c) / 1000000000):=fun h=>by
  rw[hd,VU (by decide) h,rD,rD]
 generalize a / 1000000000^i=A at *
 generalize b / 1000000000^i=B at *
 by_cases KH:A+B+c=0
 ·have h1:¬(i:Int)<((aC 1000000000 a).length:Int):=by omega
  have h2:¬(i:Int)<((aC 1000000000 b).length:Int):=by omega
  have h3:¬(0:Int)<(c:Int):=by omega
  simp only[kW,g0,g1,g5,g6,g7,cO,h1,h2,h3,VX,Nat.reduceEqDiff,Nat.reduceAdd]
  rw[KH,bW,List.append_nil] at hd
  rw[bQ,hd]
  exact Pf (fun _=>rfl) rfl
 ·have hdn:=Zt KH
  have bD:i<(aC 1000000000 (a+b)).length:=by
   rw[hdn,List.length_append,List.length_cons]
   omega
  have w1:IntKind.i64.wrap (((A % 1000000000:Nat):Int)+((B % 1000000000:Nat):Int))=((A % 1000000000+B % 1000000000:Nat):Int):=wrapN _ (by omega) (by omega)
  have w2:IntKind.i64.wrap (((A % 1000000000+B % 1000000000:Nat):Int)+(c:Int))=((A % 1000000000+B % 1000000000+c:Nat):Int):=wrapN _ (by omega) (by omega)
  have wi:IntKind.i64.wrap ((i:Int)+1)=((i+1:Nat):Int):=wrapN (i+1) (by omega) (by omega)
  have r1:=MP (A % 1000000000+B % 1000000000+c)
  have q1:=Mh (A % 1000000000+B % 1000000000+c) (by omega)
  have a1:=abX (ds:=ds) (d:=(A % 1000000000+B % 1000000000+c) % 1000000000) (by omega)
  have ahO:aC 1000000000 (a+b)=(ds++[(A % 1000000000+B % 1000000000+c) % 1000000000])++aC 1000000000 (a / 1000000000^(i+1)+b / 1000000000^(i+1)+(A % 1000000000+B % 1000000000+c) / 1000000000):=by rw[hdn,List.append_assoc];rfl
  by_cases h1:(i:Int)<((aC 1000000000 a).length:Int)
  ·simp only[kW,g0,g1,g5,g6,g7,cO,h1,c1,c2,w1,w2,wi,r1,q1,rH,uN,a1,VX,Nat.reduceEqDiff,Nat.reduceAdd]
   refine⟨(i+1,ds++[(A % 1000000000+B % 1000000000+c) % 1000000000],(A % 1000000000+B % 1000000000+c) / 1000000000),by simp only;omega,by simp;omega,by simp,by simp only;omega,ahO,?_⟩
   simp only[List.length_append,List.length_singleton]
   try (repeat' apply And.intro)<;>first | rfl | trivial
  ·by_cases h2:(i:Int)<((aC 1000000000 b).length:Int)
   ·simp only[kW,g0,g1,g5,g6,g7,cO,h1,h2,c1,c2,w1,w2,wi,r1,q1,rH,uN,a1,VX,Nat.reduceEqDiff,Nat.reduceAdd]
    refine⟨(i+1,ds++[(A % 1000000000+B % 1000000000+c) % 1000000000],(A % 1000000000+B % 1000000000+c) / 1000000000),by simp only;omega,by simp;omega,by simp,by simp only;omega,ahO,?_⟩
    simp only[List.length_append,List.length_singleton]
    try (repeat' apply And.intro)<;>first | rfl | trivial
   ·have h3:(0:Int)<(c:Int):=by omega
    simp only[kW,g0,g1,g5,g6,g7,cO,h1,h2,h3,c1,c2,w1,w2,wi,r1,q1,rH,uN,a1,VX,Nat.reduceEqDiff,Nat.reduceAdd]
    refine⟨(i+1,ds++[(A % 1000000000+B % 1000000000+c) % 1000000000],(A % 1000000000+B % 1000000000+c) / 1000000000),by simp only;omega,by simp;omega,by simp,by simp only;omega,ahO,?_⟩
    simp only[List.length_append,List.length_singleton]
    try (repeat' apply And.intro)<;>first | rfl | trivial
end Go.PM
namespace Go.PM
theorem jJ {es:List VV} {g e:Nat} {w:Bool}:aP [.row g es e w] 0 g=some (es,e,w):=bK
theorem Rx {x y:Nat} {ρ:cP} {Q:VQ} (hx:(aC 4294967296 x).length≤17592186044416) (hl:(aC 4294967296 y).length≤(aC 4294967296 x).length) (h0:ρ 0=bH x) (h1:ρ 1=bH y) (h5:ρ 5 = .ref 0 0 0 ((aC 4294967296 x).length+1) ((aC 4294967296 x).length+1)) (h6:ρ 6=VK .u64 0) (h20:ρ 20=VI (aC 4294967296 x).length) (h21:ρ 21=VI 0)
  (hQ:∀(aZ:cP) (outs:List Nat) (c:Nat),aZ 0=bH x→aZ 5 = .ref 0 0 0 ((aC 4294967296 x).length+1) ((aC 4294967296 x).length+1)→aZ 6=VK .u64 (c:Nat)→outs.length=(aC 4294967296 x).length+1→(∀d∈outs,d<4294967296)→c≤1→x+y=val 4294967296 (outs.take (aC 4294967296 x).length)+4294967296^(aC 4294967296 x).length*c→Q (.exit 0) aZ [.row 0 (outs.map uV) 1 true]) :
  VW ⟨true,false⟩ 0 (.loop kP) Q ρ [.row 0 ((List.replicate ((aC 4294967296 x).length+1) 0).map uV) 1 true]:=by
 unfold bH at h0 h1 hQ
 have vx:=cA (b:=4294967296) (by decide) x
 have vy:=cA (b:=4294967296) (by decide) y
 have lx:=fF (b:=4294967296) (by decide) x
 have ly:=fF (b:=4294967296) (by decide) y
 generalize aC 4294967296 x=xs at *
 generalize aC 4294967296 y=ys at *
 refine bC (fun(s:Nat×List Nat×Nat) ρ H=>s.1≤xs.length∧H=[.row 0 (s.2.1.map uV) 1 true]∧s.2.1.length=xs.length+1∧(∀d∈s.2.1,d<4294967296)∧s.2.2≤1∧val 4294967296 (xs.take s.1)+val 4294967296 (ys.take s.1)=val 4294967296 (s.2.1.take s.1)+4294967296^s.1*s.2.2 ∧
  ρ 0=AY xs∧ρ 1=AY ys∧ρ 5 = .ref 0 0 0 (xs.length+1) (xs.length+1)∧ρ 6=VK .u64 s.2.2∧ρ 20=VI xs.length∧ρ 21=VI s.1) (fun s=>xs.length-s.1) (0,List.replicate (xs.length+1) 0,0) ?_ ?_
 ·exact⟨Nat.zero_le _,rfl,by simp,Ad (by decide) _,by simp,by simp[val],h0,h1,h5,h6,h20,h21⟩
 ·rintro⟨i,outs,c⟩ ρ H ⟨hi,rfl,iK,lC,hc,hv,g0,g1,g5,g6,g20,g21⟩
  simp only at hi iK lC hc hv g6 g21
  by_cases cQ:(i:Int)<(xs.length:Int)
  ·obtain⟨a,ha⟩:∃a,xs[i]? = some a:=⟨_,List.getElem?_eq_getElem (by omega)⟩
   have la:=lx a (List.mem_of_getElem? ha)
   have e1:=aI (f:=uV) (t := .op) (H:=[.row 0 (outs.map uV) 1 true]) (size:=1) (k := .i64) ha rfl
   have w1:IntKind.u64.wrap (a:Int)=(a:Int):=fH _ (by omega)
   have w2:IntKind.u64.wrap ((c:Int)+(a:Int))=((c+a:Nat):Int):=by rw[←Int.natCast_add];exact fH _ (by omega)
   have wi:IntKind.i64.wrap ((i:Int)+1)=((i+1:Nat):Int):=wrapN (i+1) (by omega) (by omega)
   have e3:=bB (H:=[.row 0 (outs.map uV) 1 true]) (b:=0) (g:=0) (o:=0) (n:=xs.length+1) (c:=xs.length+1) (i:=i) (k := .i64) jJ (by omega)
   have e4:∀s:Nat,cR 0 1 (.ptr 0 0 i 0) (uV s) [.row 0 (outs.map uV) 1 true]=some [.row 0 ((outs.set i s).map uV) 1 true]:=fun s=>by
    rw[gI (f:=uV) (e:=1) jJ (by omega) (Nat.le_refl _) rfl rfl]
    rfl
   have step:∀b,b<4294967296→(∀d,ys[i]? = some d→d=b)→(ys.length≤i→b=0) →
     (i+1≤xs.length∧(outs.set i ((c+a+b) % 4294967296)).length=xs.length+1∧(∀d∈outs.set i ((c+a+b) % 4294967296),d<4294967296)∧(c+a+b) / 4294967296≤1∧val 4294967296 (xs.take (i+1))+val 4294967296 (ys.take (i+1))=val 4294967296 ((outs.set i ((c+a+b) % 4294967296)).take (i+1))+4294967296^(i+1)*((c+a+b) / 4294967296)):=by
    intro b hb h1 h2
    refine⟨by omega,by rw[List.length_set];exact iK,lO lC (Nat.mod_lt _ (by decide)),by omega,?_⟩
    have hy:val 4294967296 (ys.take (i+1))=val 4294967296 (ys.take i)+4294967296^i*b:=by
     cases SJ:ys[i]? with
     | some d=>rw[aY SJ,h1 d SJ]
     |
      none =>
      have hle:=List.getElem?_eq_none_iff.1 SJ
      rw[h2 hle,jP hle,jP (by omega),Nat.mul_zero,Nat.add_zero]
    rw[aY ha,hy,eJ (by omega),Nat.pow_succ]
    exact EH hv rfl (Nat.mod_add_div _ _)
   by_cases bD:(i:Int)<(ys.length:Int)
   ·obtain⟨b,hb⟩:∃b,ys[i]? = some b:=⟨_,List.getElem?_eq_getElem (by omega)⟩
    have lb:=ly b (List.mem_of_getElem? hb)
    have e2:=aI (f:=uV) (t := .op) (H:=[.row 0 (outs.map uV) 1 true]) (size:=1) (k := .i64) hb rfl
    have w3:IntKind.u64.wrap (b:Int)=(b:Int):=fH _ (by omega)
    have w4:IntKind.u64.wrap (((c+a:Nat):Int)+(b:Int))=((c+a+b:Nat):Int):=by rw[←Int.natCast_add];exact fH _ (by omega)
    obtain⟨s1,s2,s3,s4,s5⟩:=step b lb (fun d hd=>by rw[hb] at hd;injection hd with hd;exact hd.symm) (fun h=>by omega)
    simp only[kP,g0,g1,g5,g6,g20,g21,cQ,bD,e1,e2,e3,e4,w1,w2,w3,w4,wi,wrap32,rO,VX,Nat.reduceEqDiff,Nat.reduceAdd]
    exact⟨(i+1,outs.set i ((c+a+b) % 4294967296),(c+a+b) / 4294967296),by simp only;omega,s1,rfl,s2,s3,s4,s5,by (repeat' apply And.intro)<;>first | rfl | trivial⟩
   ·obtain⟨s1,s2,s3,s4,s5⟩:=step 0 (by decide) (fun d hd=>by have:=(List.getElem?_eq_some_iff.1 hd).1;omega) (fun _=>rfl)
    simp only[Nat.add_zero] at s2 s3 s4 s5
    simp only[kP,g0,g1,g5,g6,g20,g21,cQ,bD,e1,e3,e4,w1,w2,wi,wrap32,rO,VX,Nat.reduceEqDiff,Nat.reduceAdd]
    exact⟨(i+1,outs.set i ((c+a) % 4294967296),(c+a) / 4294967296),by simp only;omega,s1,rfl,s2,s3,s4,s5,by (repeat' apply And.intro)<;>first | rfl | trivial⟩
  ·have qR:i=xs.length:=by omega
   subst qR
   simp only[kP,g0,g1,g5,g6,g20,g21,cQ,VX,Nat.reduceEqDiff,Nat.reduceAdd]
   refine hQ _ outs c g0 g5 g6 iK lC hc ?_
   rw[List.take_length,List.take_of_length_le (l:=ys) hl,vx,vy] at hv
   exact hv
theorem Cp (a b:Nat) (ha:(aC 4294967296 a).length≤17592186044416) (hb:(aC 4294967296 b).length≤17592186044416):TC 174 [bH a,bH b] (bH (a+b)):=by
 refine TC.walk ⟨true,false⟩ GY rfl (Nat.le_of_ble_eq_true rfl) (by simp[aJ,bM]) (pW _) ?_
 have mk:∀n:Nat,n≤17592186044416→AQ [.int .u32 0] 4 (VI ((n+1:Nat):Int)) (VI ((n+1:Nat):Int)) []=some (.ref 0 0 0 (n+1) (n+1),[.row 0 ((List.replicate (n+1) 0).map uV) 1 true]):=fun n hn=>tJ (f:=uV) (x:=0) rfl (by omega) (by omega)
 have fin:∀(x y:Nat) (outs:List Nat) (c:Nat),(aC 4294967296 x).length≤17592186044416→x+y=a+b→outs.length=(aC 4294967296 x).length+1→(∀d∈outs,d<4294967296)→c≤1→x+y=val 4294967296 (outs.take (aC 4294967296 x).length)+4294967296^(aC 4294967296 x).length*c →
   bJ 1 (.ref 0 0 0 ((aC 4294967296 x).length+1) ((aC 4294967296 x).length+1)) (VI ((aC 4294967296 x).length:Nat)) [.row 0 (outs.map uV) 1 true]=some (.ptr 0 0 (0+(aC 4294967296 x).length) 0) ∧
   cR 0 1 (.ptr 0 0 (aC 4294967296 x).length 0) (uV (c % 4294967296)) [.row 0 (outs.map uV) 1 true]=some [.row 0 ((outs.set (aC 4294967296 x).length (c % 4294967296)).map uV) 1 true] ∧
   ∀lo K,(∀k,k≤(aC 4294967296 x).length+1→(outs.set (aC 4294967296 x).length (c % 4294967296)).take k=aC 4294967296 (a+b)→K (.ref 0 0 0 k ((aC 4294967296 x).length+1)) [.row 0 ((outs.set (aC 4294967296 x).length (c % 4294967296)).map uV) 1 true]) →
    cT 182 [.ref 0 0 0 ((aC 4294967296 x).length+1) ((aC 4294967296 x).length+1)] lo [.row 0 ((outs.set (aC 4294967296 x).length (c % 4294967296)).map uV) 1 true] K:=by
  intro x y outs c hx Ap iK lC hc hv
  have Hi:=lO (i:=(aC 4294967296 x).length) lC (show c % 4294967296<4294967296 from Nat.mod_lt _ (by decide))
  have I7:val 4294967296 (outs.set (aC 4294967296 x).length (c % 4294967296))=a+b:=by
   have h1:=eJ (b:=4294967296) (xs:=outs) (i:=(aC 4294967296 x).length) (d:=c % 4294967296) (by omega)
   rw[List.take_of_length_le (by rw[List.length_set];omega)] at h1
   rw[h1,Nat.mod_eq_of_lt (Nat.lt_of_le_of_lt hc (by decide)),←hv,Ap]
  refine⟨bB jJ (by omega),?_,?_⟩
  ·rw[gI (f:=uV) (e:=1) jJ (by omega) (Nat.le_refl _) rfl rfl]
   rfl
  ·intro lo K hk
   have ahN:(outs.set (aC 4294967296 x).length (c % 4294967296)).length=(aC 4294967296 x).length+1:=by rw[List.length_set];exact iK
   exact rA jJ (by omega) (Nat.le_refl _) (by omega) (fun d hd=>Hi d (List.mem_of_mem_take hd)) (by rw[List.take_of_length_le (by omega)];exact I7) hk
 by_cases hsw:(((aC 4294967296 a).length:Nat):Int)<(((aC 4294967296 b).length:Nat):Int)
 ·have w1:IntKind.i64.wrap (((aC 4294967296 b).length:Int)+1)=(((aC 4294967296 b).length+1:Nat):Int):=wrapN _ (by omega) (by omega)
  simp only[xN,tP,bH,hsw,w1,mk _ hb,VX,Nat.reduceEqDiff,Nat.reduceAdd]
  refine Rx (x:=b) (y:=a) hb (by omega) rfl rfl rfl rfl rfl rfl ?_
  intro aZ outs c g0 g5 g6 iK lC hc hv
  obtain⟨e1,e2,e3⟩:=fin b a outs c hb (by omega) iK lC hc hv
  simp only[g0,g5,g6,bH,wrap32,e1,e2,VX,Nat.reduceEqDiff,Nat.reduceAdd]
  refine e3 _ _ fun k hk he => ?_
  simp only[VX,Nat.reduceEqDiff,Nat.reduceAdd]
  exact NT jJ (by rw[List.length_set];omega) hk he
 ·have w1:IntKind.i64.wrap (((aC 4294967296 a).length:Int)+1)=(((aC 4294967296 a).length+1:Nat):Int):=wrapN _ (by omega) (by omega)
  simp only[xN,tP,bH,hsw,w1,mk _ ha,VX,Nat.reduceEqDiff,Nat.reduceAdd]
  refine Rx (x:=a) (y:=b) ha (by omega) rfl rfl rfl rfl rfl rfl ?_
  intro aZ outs c g0 g5 g6 iK lC hc hv
  obtain⟨e1,e2,e3⟩:=fin a b outs c ha rfl iK lC hc hv
  simp only[g0,g5,g6,bH,wrap32,e1,e2,VX,Nat.reduceEqDiff,Nat.reduceAdd]
  refine e3 _ _ fun k hk he => ?_
  simp only[VX,Nat.reduceEqDiff,Nat.reduceAdd]
  exact NT jJ (by rw[List.length_set];omega) hk he
end Go.PM
namespace Go.PM
theorem Le {x:Int} {r:Nat} (h:x+4294967296=r) (hx:x<0) (hr:0≤x+4294967296):IntKind.u32.wrap x=(r:Int):=by rw[IntKind.wrap_u32];omega
theorem SO (n:Nat) (hn:n≤70368744177664):AQ [.int .u32 0] 4 (VI (n:Int)) (VI (n:Int)) []=some (.ref 0 0 0 n n,[.row 0 ((List.replicate n 0).map uV) 1 true]):=tJ (f:=uV) (x:=0) rfl (by omega) (by omega)
theorem OA {outs:List Nat} {i d:Nat} (hi:i<outs.length):cR 0 1 (.ptr 0 0 i 0) (uV d) [.row 0 (outs.map uV) 1 true]=some [.row 0 ((outs.set i d).map uV) 1 true]:=by
 rw[gI (f:=uV) (e:=1) jJ hi (Nat.le_refl _) rfl rfl]
 rfl
theorem Cv (a b:Nat) (E6:b≤a) (ha:(aC 4294967296 a).length≤17592186044416):TC 181 [bH a,bH b] (bH (a-b)):=by
 refine TC.walk ⟨true,false⟩ Hy rfl (Nat.le_of_ble_eq_true rfl) (by simp[aJ,bM]) (pW _) ?_
 have va:=cA (b:=4294967296) (by decide) a
 have vb:=cA (b:=4294967296) (by decide) b
 have la:=fF (b:=4294967296) (by decide) a
 have lb:=fF (b:=4294967296) (by decide) b
 have hle:=dR (b:=4294967296) (by decide) E6
 unfold bH
 generalize aC 4294967296 a=xs at *
 generalize aC 4294967296 b=ys at *
 simp only[CR,AB,SO xs.length (by omega),VX,Nat.reduceEqDiff,Nat.reduceAdd]
 refine bC (fun(s:Nat×List Nat×Nat) ρ H=>s.1≤xs.length∧H=[.row 0 (s.2.1.map uV) 1 true]∧s.2.1.length=xs.length∧(∀d∈s.2.1,d<4294967296)∧s.2.2≤1∧val 4294967296 (xs.take s.1)+4294967296^s.1*s.2.2=val 4294967296 (s.2.1.take s.1)+val 4294967296 (ys.take s.1) ∧
  ρ 0=AY xs∧ρ 1=AY ys∧ρ 5 = .ref 0 0 0 xs.length xs.length∧ρ 6=VI s.2.2∧ρ 13=VI xs.length∧ρ 14=VI s.1) (fun s=>xs.length-s.1) (0,List.replicate xs.length 0,0) ⟨Nat.zero_le _,rfl,by simp,Ad (by decide) _,by simp,by simp[val],rfl,rfl,rfl,rfl,rfl,rfl⟩ ?_
 rintro⟨i,outs,l⟩ ρ H ⟨hi,rfl,iK,lC,hc,hv,g0,g1,g5,g6,g13,g14⟩
 simp only at hi iK lC hc hv g6 g14
 by_cases cQ:(i:Int)<(xs.length:Int)
 ·obtain⟨x,hx⟩:∃x,xs[i]? = some x:=⟨_,List.getElem?_eq_getElem (by omega)⟩
  have lx:=la x (List.mem_of_getElem? hx)
  have e1:=aI (f:=uV) (t := .op) (H:=[.row 0 (outs.map uV) 1 true]) (size:=1) (k := .i64) hx rfl
  have w1:IntKind.i64.wrap (x:Int)=(x:Int):=wrapN x rfl (by omega)
  have w2:IntKind.i64.wrap ((x:Int)-(l:Int))=(x:Int)-(l:Int):=wrap64 (by omega) (by omega)
  have wi:IntKind.i64.wrap ((i:Int)+1)=((i+1:Nat):Int):=wrapN (i+1) (by omega) (by omega)
  have e3:bJ 1 (.ref 0 0 0 xs.length xs.length) (VI i) [.row 0 (outs.map uV) 1 true]=some (.ptr 0 0 i 0):=by rw[bB jJ (by omega),Nat.zero_add]
  have e4:∀s:Nat,cR 0 1 (.ptr 0 0 i 0) (uV s) [.row 0 (outs.map uV) 1 true]=some [.row 0 ((outs.set i s).map uV) 1 true]:=fun s=>OA (by omega)
  have step:∀y r l':Nat,y<4294967296→r<4294967296→l'≤1→(∀d,ys[i]? = some d→d=y)→(ys.length≤i→y=0)→r+y+l=x+4294967296*l' →
    i+1≤xs.length∧(outs.set i r).length=xs.length∧(∀d∈outs.set i r,d<4294967296)∧l'≤1∧val 4294967296 (xs.take (i+1))+4294967296^(i+1)*l'=val 4294967296 ((outs.set i r).take (i+1))+val 4294967296 (ys.take (i+1)):=by
   intro y r l' _ hr zA h1 h2 hd
   refine⟨by omega,by rw[List.length_set];exact iK,lO lC hr,zA,?_⟩
   have hy:val 4294967296 (ys.take (i+1))=val 4294967296 (ys.take i)+4294967296^i*y:=by
    cases SJ:ys[i]? with
    | some d=>rw[aY SJ,h1 d SJ]
    |
     none =>
     have hle:=List.getElem?_eq_none_iff.1 SJ
     rw[h2 hle,jP hle,jP (by omega),Nat.mul_zero,Nat.add_zero]
   rw[aY hx,hy,eJ (by omega),Nat.pow_succ]
   exact Ip hv hd
  by_cases bD:(i:Int)<(ys.length:Int)
  ·obtain⟨y,hy⟩:∃y,ys[i]? = some y:=⟨_,List.getElem?_eq_getElem (by omega)⟩
   have ly:=lb y (List.mem_of_getElem? hy)
   have e2:=aI (f:=uV) (t := .op) (H:=[.row 0 (outs.map uV) 1 true]) (size:=1) (k := .i64) hy rfl
   have w3:IntKind.i64.wrap (y:Int)=(y:Int):=wrapN y rfl (by omega)
   have w4:IntKind.i64.wrap ((x:Int)-(l:Int)-(y:Int))=(x:Int)-(l:Int)-(y:Int):=wrap64 (by omega) (by omega)
   by_cases lD:(x:Int)-(l:Int)-(y:Int)<0
   ·obtain⟨r,hr⟩:∃r:Nat,r+y+l=x+4294967296:=⟨x+4294967296-l-y,by omega⟩
    have w5:IntKind.u32.wrap ((x:Int)-(l:Int)-(y:Int))=(r:Int):=Le (by omega) lD (by omega)
    obtain⟨s1,s2,s3,s4,s5⟩:=step y r 1 ly (by omega) (Nat.le_refl _) (fun d hd=>by rw[hy] at hd;injection hd with hd;exact hd.symm) (fun h=>by omega) (by omega)
    simp only[iT,g0,g1,g5,g6,g13,g14,cQ,bD,lD,e1,e2,e3,e4,w1,w2,w3,w4,w5,wi,VX,Nat.reduceEqDiff,Nat.reduceAdd]
    exact⟨(i+1,outs.set i r,1),by simp only;omega,s1,rfl,s2,s3,s4,s5,by (repeat' apply And.intro)<;>first | rfl | trivial⟩
   ·obtain⟨r,hr⟩:∃r:Nat,r+y+l=x:=⟨x-l-y,by omega⟩
    have w5:IntKind.u32.wrap ((x:Int)-(l:Int)-(y:Int))=(r:Int):=by rw[IntKind.wrap_u32];omega
    obtain⟨s1,s2,s3,s4,s5⟩:=step y r 0 ly (by omega) (by omega) (fun d hd=>by rw[hy] at hd;injection hd with hd;exact hd.symm) (fun h=>by omega) (by omega)
    simp only[iT,g0,g1,g5,g6,g13,g14,cQ,bD,lD,e1,e2,e3,e4,w1,w2,w3,w4,w5,wi,VX,Nat.reduceEqDiff,Nat.reduceAdd]
    exact⟨(i+1,outs.set i r,0),by simp only;omega,s1,rfl,s2,s3,s4,s5,by (repeat' apply And.intro)<;>first | rfl | trivial⟩
  ·by_cases lD:(x:Int)-(l:Int)<0
   ·obtain⟨r,hr⟩:∃r:Nat,r+l=x+4294967296:=⟨x+4294967296-l,by omega⟩
    have w5:IntKind.u32.wrap ((x:Int)-(l:Int))=(r:Int):=Le (by omega) lD (by omega)
    obtain⟨s1,s2,s3,s4,s5⟩:=step 0 r 1 (by decide) (by omega) (Nat.le_refl _) (fun d hd=>by have:=(List.getElem?_eq_some_iff.1 hd).1;omega) (fun _=>rfl) (by omega)
    simp only[iT,g0,g1,g5,g6,g13,g14,cQ,bD,lD,e1,e3,e4,w1,w2,w5,wi,VX,Nat.reduceEqDiff,Nat.reduceAdd]
    exact⟨(i+1,outs.set i r,1),by simp only;omega,s1,rfl,s2,s3,s4,s5,by (repeat' apply And.intro)<;>first | rfl | trivial⟩
   ·obtain⟨r,hr⟩:∃r:Nat,r+l=x:=⟨x-l,by omega⟩
    have w5:IntKind.u32.wrap ((x:Int)-(l:Int))=(r:Int):=by rw[IntKind.wrap_u32];omega
    obtain⟨s1,s2,s3,s4,s5⟩:=step 0 r 0 (by decide) (by omega) (by omega) (fun d hd=>by have:=(List.getElem?_eq_some_iff.1 hd).1;omega) (fun _=>rfl) (by omega)
    simp only[iT,g0,g1,g5,g6,g13,g14,cQ,bD,lD,e1,e3,e4,w1,w2,w5,wi,VX,Nat.reduceEqDiff,Nat.reduceAdd]
    exact⟨(i+1,outs.set i r,0),by simp only;omega,s1,rfl,s2,s3,s4,s5,by (repeat' apply And.intro)<;>first | rfl | trivial⟩
 ·have qR:i=xs.length:=by omega
  subst qR
  rw[List.take_length,List.take_of_length_le (l:=ys) hle,List.take_of_length_le (l:=outs) (by omega),va,vb] at hv
  have iC:=oM lC
  rw[iK] at iC
  have I7:val 4294967296 outs=a-b:=by
   rcases Nat.lt_or_ge l 1 with h | h
   ·have:l=0:=by omega
    subst this
    rw[Nat.mul_zero] at hv
    omega
   ·have:l=1:=by omega
    subst this
    rw[Nat.mul_one] at hv
    omega
  simp only[iT,g0,g1,g5,g6,g13,g14,cQ,VX,Nat.reduceEqDiff,Nat.reduceAdd]
  refine rA (m:=a-b) jJ (by omega) (Nat.le_refl _) (by omega) (fun d hd=>lC d (List.mem_of_mem_take hd)) (by rw[List.take_of_length_le (by omega)];exact I7) fun k hk he => ?_
  simp only[VX,Nat.reduceEqDiff,Nat.reduceAdd]
  exact NT jJ (by omega) hk he
theorem PQ {P Q A B Y x c r q o y W:Nat} (Lx:A+P*Q*c=B+P*(x*Y)) (h1:r+W*q=c+(x*y+o)):A+P*Q*r+P*Q*W*q=B+P*Q*o+P*(x*(Y+Q*y)):=by
 have h2:P*Q*(r+W*q)=P*Q*(c+(x*y+o)):=by rw[h1]
 grind
theorem iJ (a b:Nat) (ha:(aC 4294967296 a).length≤17592186044416) (hb:(aC 4294967296 b).length≤17592186044416):TC 180 [bH a,bH b] (bH (a*b)):=by
 refine TC.walk ⟨true,false⟩ Ha rfl (Nat.le_of_ble_eq_true rfl) (by simp[aJ,bM]) (pW _) ?_
 have va:=cA (b:=4294967296) (by decide) a
 have vb:=cA (b:=4294967296) (by decide) b
 have la:=fF (b:=4294967296) (by decide) a
 have lb:=fF (b:=4294967296) (by decide) b
 unfold bH
 generalize aC 4294967296 a=xs at *
 generalize aC 4294967296 b=ys at *
 have w0:IntKind.i64.wrap ((xs.length:Int)+(ys.length:Int))=((xs.length+ys.length:Nat):Int):=wrapN _ (by omega) (by omega)
 simp only[Dk,A9,w0,SO (xs.length+ys.length) (by omega),VX,Nat.reduceEqDiff,Nat.reduceAdd]
 generalize hN:xs.length+ys.length=N at *
 refine bC (fun(s:Nat×List Nat) ρ H=>s.1≤xs.length∧H=[.row 0 (s.2.map uV) 1 true]∧s.2.length=N∧(∀d∈s.2,d<4294967296)∧val 4294967296 (s.2.take (s.1+ys.length))=val 4294967296 (xs.take s.1)*b ∧
  ρ 0=AY xs∧ρ 1=AY ys∧ρ 5 = .ref 0 0 0 N N∧ρ 17=AY xs∧ρ 18=VI xs.length∧ρ 19=VI s.1) (fun s=>xs.length-s.1) (0,List.replicate N 0) ⟨Nat.zero_le _,rfl,by simp,Ad (by decide) _,by simp[val,List.take_replicate,qN],rfl,rfl,rfl,rfl,rfl,rfl⟩ ?_
 rintro⟨i,outs⟩ ρ H ⟨hi,rfl,iK,lC,hv,g0,g1,g5,g17,g18,g19⟩
 simp only at hi iK lC hv g19
 by_cases cQ:(i:Int)<(xs.length:Int)
 ·obtain⟨x,hx⟩:∃x,xs[i]? = some x:=⟨_,List.getElem?_eq_getElem (by omega)⟩
  have lx:=la x (List.mem_of_getElem? hx)
  have e1:=aI (f:=uV) (t := .op) (H:=[.row 0 (outs.map uV) 1 true]) (size:=1) (k := .i64) hx rfl
  simp only[sC,g0,g1,g5,g17,g18,g19,cQ,e1,VX,Nat.reduceEqDiff,Nat.reduceAdd]
  refine bC (fun(s:Nat×List Nat×Nat) ρ H=>s.1≤ys.length∧H=[.row 0 (s.2.1.map uV) 1 true]∧s.2.1.length=N∧(∀d∈s.2.1,d<4294967296)∧s.2.2<4294967296 ∧
   val 4294967296 (s.2.1.take (i+s.1))+4294967296^(i+s.1)*s.2.2=val 4294967296 (outs.take (i+s.1))+4294967296^i*(x*val 4294967296 (ys.take s.1))∧(∀j,i+s.1≤j→s.2.1[j]? = outs[j]?) ∧
   ρ 0=AY xs∧ρ 1=AY ys∧ρ 5 = .ref 0 0 0 N N∧ρ 6=VI i∧ρ 7=uV x∧ρ 8=VK .u64 s.2.2∧ρ 17=AY xs∧ρ 18=VI xs.length∧ρ 19=VI i∧ρ 24=AY ys∧ρ 25=VI ys.length∧ρ 26=VI s.1) (fun s=>ys.length-s.1) (0,outs,0) ⟨Nat.zero_le _,rfl,iK,lC,by simp,by simp[val],fun _ _=>rfl,by (repeat' apply And.intro)<;>first | rfl | trivial⟩ ?_
  rintro⟨k,os,c⟩ Nu H ⟨hk,rfl,Oh,NW,hc,Lx,E5,k0,k1,k5,k6,k7,k8,G8,W4,k19,k24,k25,k26⟩
  simp only at hk Oh NW hc Lx E5 k8 k26
  have wi:IntKind.i64.wrap ((i:Int)+1)=((i+1:Nat):Int):=wrapN (i+1) (by omega) (by omega)
  by_cases hkn:(k:Int)<(ys.length:Int)
  ·obtain⟨y,hy⟩:∃y,ys[k]? = some y:=⟨_,List.getElem?_eq_getElem (by omega)⟩
   have ly:=lb y (List.mem_of_getElem? hy)
   obtain⟨o,ho⟩:∃o,os[i+k]? = some o:=⟨_,List.getElem?_eq_getElem (by omega)⟩
   have lo:=NW o (List.mem_of_getElem? ho)
   have Xj:outs[i+k]? = some o:=by rw[←E5 (i+k) (Nat.le_refl _)];exact ho
   have f1:=aI (f:=uV) (t := .op) (H:=[.row 0 (os.map uV) 1 true]) (size:=1) (k := .i64) hy rfl
   have w1:IntKind.i64.wrap ((i:Int)+(k:Int))=((i+k:Nat):Int):=wrapN _ (by omega) (by omega)
   have f2:bJ 1 (.ref 0 0 0 N N) (VI ((i+k:Nat):Int)) [.row 0 (os.map uV) 1 true]=some (.ptr 0 0 (i+k) 0):=by rw[bB jJ (by omega),Nat.zero_add]
   have f3:dN false 1 (.ptr 0 0 (i+k) 0) [.row 0 (os.map uV) 1 true]=some (uV o):=iQ jJ ho
   have f4:∀s:Nat,cR 0 1 (.ptr 0 0 (i+k) 0) (uV s) [.row 0 (os.map uV) 1 true]=some [.row 0 ((os.set (i+k) s).map uV) 1 true]:=fun s=>OA (by omega)
   have Ap:x*y≤4294967295*4294967295:=Nat.mul_le_mul (by omega) (by omega)
   have w2:IntKind.u64.wrap (x:Int)=(x:Int):=fH _ (by omega)
   have w3:IntKind.u64.wrap (y:Int)=(y:Int):=fH _ (by omega)
   have w4:IntKind.u64.wrap (o:Int)=(o:Int):=fH _ (by omega)
   have w5:IntKind.u64.wrap ((x:Int)*(y:Int))=((x*y:Nat):Int):=by rw[←Int.natCast_mul];exact fH _ (by omega)
   have w6:IntKind.u64.wrap (((x*y:Nat):Int)+(o:Int))=((x*y+o:Nat):Int):=by rw[←Int.natCast_add];exact fH _ (by omega)
   have w7:IntKind.u64.wrap ((c:Int)+((x*y+o:Nat):Int))=((c+(x*y+o):Nat):Int):=by rw[←Int.natCast_add];exact fH _ (by omega)
   have wk:IntKind.i64.wrap ((k:Int)+1)=((k+1:Nat):Int):=wrapN (k+1) (by omega) (by omega)
   simp only[rS,k0,k1,k5,k6,k7,k8,G8,W4,k19,k24,k25,k26,hkn,f1,f2,f3,f4,w1,w2,w3,w4,w5,w6,w7,wk,wrap32,rO,VX,Nat.reduceEqDiff,Nat.reduceAdd]
   have hq:(c+(x*y+o)) / 4294967296<4294967296:=Nat.div_lt_of_lt_mul (by omega)
   refine⟨(k+1,os.set (i+k) ((c+(x*y+o)) % 4294967296),(c+(x*y+o)) / 4294967296),by simp only;omega,by omega,rfl,by rw[List.length_set];exact Oh,lO NW (Nat.mod_lt _ (by decide)),hq,?_,fun j hj => ?_,by (repeat' apply And.intro)<;>first | rfl | trivial⟩
   ·have h1:=Nat.mod_add_div (c+(x*y+o)) 4294967296
    rw[←Nat.add_assoc,eJ (by omega),aY Xj,aY hy,Nat.pow_succ]
    rw[Nat.pow_add] at Lx ⊢
    exact PQ Lx h1
   ·rw[List.getElem?_set_ne (by omega)]
    exact E5 j (by omega)
  ·have hke:k=ys.length:=by omega
   subst hke
   rw[List.take_length,vb,hv] at Lx
   have w1:IntKind.i64.wrap ((i:Int)+(ys.length:Int))=((i+ys.length:Nat):Int):=wrapN _ (by omega) (by omega)
   have f2:bJ 1 (.ref 0 0 0 N N) (VI ((i+ys.length:Nat):Int)) [.row 0 (os.map uV) 1 true]=some (.ptr 0 0 (i+ys.length) 0):=by rw[bB jJ (by omega),Nat.zero_add]
   have f4:∀s:Nat,cR 0 1 (.ptr 0 0 (i+ys.length) 0) (uV s) [.row 0 (os.map uV) 1 true]=some [.row 0 ((os.set (i+ys.length) s).map uV) 1 true]:=fun s=>OA (by omega)
   simp only[rS,k0,k1,k5,k6,k7,k8,G8,W4,k19,k24,k25,k26,hkn,f2,f4,w1,wi,wrap32,VX,Nat.reduceEqDiff,Nat.reduceAdd]
   refine⟨(i+1,os.set (i+ys.length) (c % 4294967296)),by simp only;omega,by omega,rfl,by rw[List.length_set];exact Oh,lO NW (Nat.mod_lt _ (by decide)),?_,by (repeat' apply And.intro)<;>first | rfl | trivial⟩
   rw[show i+1+ys.length=i+ys.length+1 by omega,eJ (by omega),Nat.mod_eq_of_lt hc,Lx,aY hx,Nat.add_mul,Nat.mul_assoc]
 ·have qR:i=xs.length:=by omega
  subst qR
  rw[hN,List.take_length,va,List.take_of_length_le (by omega)] at hv
  simp only[sC,g0,g1,g5,g17,g18,g19,cQ,VX,Nat.reduceEqDiff,Nat.reduceAdd]
  refine rA (m:=a*b) jJ (by omega) (Nat.le_refl _) (by omega) (fun d hd=>lC d (List.mem_of_mem_take hd)) (by rw[List.take_of_length_le (by omega)];exact hv) fun k hk he => ?_
  simp only[VX,Nat.reduceEqDiff,Nat.reduceAdd]
  exact NT jJ (by omega) hk he
end Go.PM
namespace Go.PM
theorem set_drop {xs:List Nat} {i d:Nat} (h:i<xs.length):(xs.set i d).drop i=d::xs.drop (i+1):=by
 rw[List.drop_eq_getElem_cons (by rw[List.length_set];exact h),List.getElem_set_self,Lu h]
theorem TF (n k:Nat) (hn:n≤70368744177664) {H:aA}:AQ [.int .u32 0] 4 (VI (n:Int)) (VI (n:Int)) H=some (.ref H.length 0 0 n n,H++[.row 0 ((List.replicate n 0).map uV) 1 true]):=tJ (f:=uV) (x:=0) rfl (by omega) (by omega)
theorem QL {A q t r x d W:Nat} (h1:t+d*q=r*W+x):(q+W*A)*d+t=x+W*(A*d+r):=by grind
theorem RJ {A B P S W c m x q:Nat} (hv:A+P*c=B*S) (h1:m*S+W*q=x*S):A+P*(c+m*S)+P*W*q=(B+P*x)*S:=by
 have h2:P*(m*S+W*q)=P*(x*S):=by rw[h1]
 grind
theorem vR (a d:Nat) (Cl:0<d) (hdW:d<4294967296) (ha:(aC 4294967296 a).length≤17592186044416):TC 183 [bH a,uV d] (.dL [bH (a / d),uV (a % d)]):=by
 refine TC.walk ⟨true,false⟩ Cf rfl (Nat.le_of_ble_eq_true rfl) (by simp[aJ,bM,aM,nF]) (by simp[eQ,pR,pW,nF]) ?_
 have va:=cA (b:=4294967296) (by decide) a
 have la:=fF (b:=4294967296) (by decide) a
 unfold bH
 generalize aC 4294967296 a=xs at *
 have w0:IntKind.i64.wrap ((xs.length:Int)-1)=(xs.length:Int)-1:=wrap64 (by omega) (by omega)
 have wd:IntKind.u64.wrap (d:Int)=(d:Int):=fH _ (by omega)
 simp only[vQ,sW,w0,SO xs.length (by omega),VX,Nat.reduceEqDiff,Nat.reduceAdd]
 refine bC (fun(s:Nat×List Nat×Nat) ρ H=>s.1≤xs.length∧H=[.row 0 (s.2.1.map uV) 1 true]∧s.2.1.length=xs.length∧(∀d∈s.2.1,d<4294967296)∧s.2.2<d∧val 4294967296 (s.2.1.drop s.1)*d+s.2.2=val 4294967296 (xs.drop s.1) ∧
  ρ 0=AY xs∧ρ 1=uV d∧ρ 6 = .ref 0 0 0 xs.length xs.length∧ρ 7=VK .u64 s.2.2∧ρ 8=VI ((s.1:Int)-1)) (fun s=>s.1) (xs.length,List.replicate xs.length 0,0) ⟨Nat.le_refl _,rfl,by simp,Ad (by decide) _,Cl,by simp[val,List.drop_replicate],rfl,rfl,rfl,rfl,rfl⟩ ?_
 rintro⟨j,outs,r⟩ ρ H ⟨hj,rfl,iK,lC,hr,hv,g0,g1,g6,g7,g8⟩
 simp only at hj iK lC hr hv g7 g8
 by_cases hz:(0:Int)≤(j:Int)-1
 ·obtain⟨i,rfl⟩:∃i,j=i+1:=⟨j-1,by omega⟩
  obtain⟨x,hx⟩:∃x,xs[i]? = some x:=⟨_,List.getElem?_eq_getElem (by omega)⟩
  have lx:=la x (List.mem_of_getElem? hx)
  have Km:((i+1:Nat):Int)-1=(i:Int):=by omega
  rw[Km] at g8 hz
  have e1:=aI (f:=uV) (t := .op) (H:=[.row 0 (outs.map uV) 1 true]) (size:=1) (k := .i64) hx rfl
  have e3:bJ 1 (.ref 0 0 0 xs.length xs.length) (VI i) [.row 0 (outs.map uV) 1 true]=some (.ptr 0 0 i 0):=by rw[bB jJ (by omega),Nat.zero_add]
  have e4:∀s:Nat,cR 0 1 (.ptr 0 0 i 0) (uV s) [.row 0 (outs.map uV) 1 true]=some [.row 0 ((outs.set i s).map uV) 1 true]:=fun s=>OA (by omega)
  have w2:IntKind.i64.wrap ((i:Int)-1)=(i:Int)-1:=wrap64 (by omega) (by omega)
  have w3:IntKind.u64.wrap (x:Int)=(x:Int):=fH _ (by omega)
  have w4:IntKind.u64.wrap (((r*4294967296:Nat):Int)+(x:Int))=((r*4294967296+x:Nat):Int):=by rw[←Int.natCast_add];exact fH _ (by omega)
  have w5:=DJ r .u64 (by omega)
  have q1:=Ud (r*4294967296+x) d (by omega) Cl
  have q2:=OL (r*4294967296+x) d Cl
  have hq:(r*4294967296+x) / d<4294967296:=by
   rw[Nat.div_lt_iff_lt_mul Cl]
   have:(r+1)*4294967296≤d*4294967296:=Nat.mul_le_mul_right _ hr
   rw[Nat.mul_comm 4294967296 d]
   omega
  simp only[mD,g0,g1,g6,g7,g8,hz,e1,e3,e4,w2,w3,w4,w5,wd,q1,q2,wrap32,Nat.mod_eq_of_lt hq,VX,Nat.reduceEqDiff,Nat.reduceAdd]
  refine⟨(i,outs.set i ((r*4294967296+x) / d),(r*4294967296+x) % d),by simp only;omega,by omega,rfl,by rw[List.length_set];exact iK,lO lC hq,Nat.mod_lt _ Cl,?_,by (repeat' apply And.intro)<;>first | rfl | trivial⟩
  have h1:=Nat.mod_add_div (r*4294967296+x) d
  rw[set_drop (by omega),rJ,sJ hx,←hv]
  exact QL h1
 ·have RZ:j=0:=by omega
  subst RZ
  rw[List.drop_zero,List.drop_zero,va] at hv
  have h1:a / d=val 4294967296 outs:=by
   rw[←hv,Nat.mul_comm,Nat.mul_add_div Cl,Nat.div_eq_of_lt hr,Nat.add_zero]
  have h2:a % d=r:=by
   rw[←hv,Nat.mul_comm,Nat.mul_add_mod,Nat.mod_eq_of_lt hr]
  simp only[mD,g0,g1,g6,g7,g8,hz,VX,Nat.reduceEqDiff,Nat.reduceAdd]
  refine rA (m:=a / d) jJ (by omega) (Nat.le_refl _) (by omega) (fun d hd=>lC d (List.mem_of_mem_take hd)) (by rw[List.take_of_length_le (by omega)];exact h1.symm) fun k hk he => ?_
  simp only[wrap32,Nat.mod_eq_of_lt (show r<4294967296 by omega),g7,VX,Nat.reduceEqDiff,Nat.reduceAdd]
  rw[h2]
  exact bG (d:=6) (Jq (d:=5) jJ (by omega) hk he) (aH rfl)
theorem Fp {n g e:Nat} {es:List VV} {w:Bool}:aP (List.replicate n fU.dead++[.row g es e w]) n g=some (es,e,w):=by rw[Jl];exact bK
theorem asK {n:Nat} (xs:List Nat):yF n (xs.map uV)=true:=by
 rw[wX]
 intro x hx
 obtain⟨y,_,rfl⟩:=List.mem_map.1 hx
 rfl
theorem yA (a s:Nat) (hs:s≤31) (ha:(aC 4294967296 a).length≤17592186044416):FC 220 [bH a,VI s] fun n r L=>∃outs:List Nat,r = .ref n 0 0 ((aC 4294967296 a).length+1) ((aC 4294967296 a).length+1)∧L=[.row 0 (outs.map uV) 1 true]∧outs.length=(aC 4294967296 a).length+1∧(∀d∈outs,d<4294967296)∧val 4294967296 outs=a*2^s∧(∀d,outs[(aC 4294967296 a).length]? = some d→d<2^s):=by
 refine FC.walk ⟨true,false⟩ Cw (Nat.le_of_ble_eq_true rfl) fun n => ?_
 have va:=cA (b:=4294967296) (by decide) a
 have la:=fF (b:=4294967296) (by decide) a
 unfold bH
 generalize aC 4294967296 a=xs at *
 have hS:0<2^s:=Nat.pow_pos (by decide)
 have hSW:2^s*2^(32-s)=4294967296:=by rw[←Nat.pow_add,show s+(32-s)=32 by omega]
 have w0:IntKind.i64.wrap ((xs.length:Int)+1)=((xs.length+1:Nat):Int):=wrapN _ (by omega) (by omega)
 simp only[yK,uR,w0,TF (xs.length+1) n (by omega),List.length_replicate,VX,Nat.reduceEqDiff,Nat.reduceAdd]
 refine bC (fun(t:Nat×List Nat×Nat) ρ H=>t.1≤xs.length∧H=List.replicate n .dead++[.row 0 (t.2.1.map uV) 1 true]∧t.2.1.length=xs.length+1∧(∀d∈t.2.1,d<4294967296)∧t.2.1[t.1]? = some t.2.2∧t.2.2<2^s∧val 4294967296 (t.2.1.take t.1)+4294967296^t.1*t.2.2=val 4294967296 (xs.take t.1)*2^s ∧
  ρ 1=VI s∧ρ 5 = .ref n 0 0 (xs.length+1) (xs.length+1)∧ρ 13=AY xs∧ρ 14=VI xs.length∧ρ 15=VI t.1) (fun t=>xs.length-t.1) (0,List.replicate (xs.length+1) 0,0) ⟨Nat.zero_le _,rfl,by simp,Ad (by decide) _,by simp,hS,by simp[val],rfl,rfl,rfl,rfl,rfl⟩ ?_
 rintro⟨i,outs,c⟩ ρ H ⟨hi,rfl,iK,lC,hoc,hc,hv,g1,g5,g13,g14,g15⟩
 simp only at hi iK lC hoc hc hv g15
 by_cases cQ:(i:Int)<(xs.length:Int)
 ·obtain⟨x,hx⟩:∃x,xs[i]? = some x:=⟨_,List.getElem?_eq_getElem (by omega)⟩
  have lx:=la x (List.mem_of_getElem? hx)
  have e1:=aI (f:=uV) (t := .op) (H:=List.replicate n .dead++[.row 0 (outs.map uV) 1 true]) (size:=1) (k := .i64) hx rfl
  have wx:IntKind.u64.wrap (x:Int)=(x:Int):=fH _ (by omega)
  have wi:IntKind.i64.wrap ((i:Int)+1)=((i+1:Nat):Int):=wrapN (i+1) (by omega) (by omega)
  have w5:=ahT x s lx hs
  obtain⟨m,hm⟩:∃m,(x*2^s) % 4294967296=m*2^s:=by
   refine⟨x % 2^(32-s),?_⟩
   rw[←hSW,Nat.mul_comm x,Nat.mul_mod_mul_left,Nat.mul_comm]
  have hhi:(x*2^s) / 4294967296<2^s:=by
   rw[Nat.div_lt_iff_lt_mul (by decide),Nat.mul_comm (2^s)]
   exact Nat.mul_lt_mul_of_pos_right lx hS
  have bD:(x*2^s) % 4294967296<4294967296:=Nat.mod_lt _ (by decide)
  have hmm:m<2^(32-s):=by
   have:m*2^s<2^(32-s)*2^s:=by rw[←hm,Nat.mul_comm (2^(32-s)) (2^s),hSW];exact bD
   exact Nat.lt_of_mul_lt_mul_right this
  have aiL:m*2^s+c<4294967296:=by
   have:(m+1)*2^s≤2^(32-s)*2^s:=Nat.mul_le_mul_right _ hmm
   rw[Nat.mul_comm (2^(32-s)),hSW,Nat.add_mul] at this
   omega
  have or1:=aiK c m s hc aiL
  have e3:bJ 1 (.ref n 0 0 (xs.length+1) (xs.length+1)) (VI i) (List.replicate n .dead++[.row 0 (outs.map uV) 1 true])=some (.ptr n 0 i 0):=by rw[bB Fp (by omega),Nat.zero_add]
  have e4:dN false 1 (.ptr n 0 i 0) (List.replicate n .dead++[.row 0 (outs.map uV) 1 true])=some (uV c):=iQ Fp hoc
  have e5:∀(os:List Nat) (j t:Nat),j<os.length→cR n 1 (.ptr n 0 j 0) (uV t) (List.replicate n .dead++[.row 0 (os.map uV) 1 true])=some (List.replicate n .dead++[.row 0 ((os.set j t).map uV) 1 true]):=fun os j t hj=>by
   rw[gI (f:=uV) (e:=1) Fp hj (Nat.le_refl _) rfl rfl,Ya]
   rfl
  have e6:bJ 1 (.ref n 0 0 (xs.length+1) (xs.length+1)) (VI ((i+1:Nat):Int)) (List.replicate n .dead++[.row 0 ((outs.set i (c+m*2^s)).map uV) 1 true])=some (.ptr n 0 (i+1) 0):=by rw[bB Fp (by omega),Nat.zero_add]
  have e7:=e5 outs i (c+m*2^s) (by omega)
  have e8:=e5 (outs.set i (c+m*2^s)) (i+1) ((x*2^s) / 4294967296) (by rw[List.length_set];omega)
  have hq:(x*2^s) / 4294967296 % 4294967296=(x*2^s) / 4294967296:=Nat.mod_eq_of_lt (by
   have:2^s≤2^31:=Nat.pow_le_pow_right (by decide) hs
   omega)
  simp only[nD,g1,g5,g13,g14,g15,cQ,e1,e3,e4,e6,e7,e8,wx,wi,w5,wrap32,rO,hm,or1,hq,VX,Nat.reduceEqDiff,Nat.reduceAdd]
  refine⟨(i+1,(outs.set i (c+m*2^s)).set (i+1) ((x*2^s) / 4294967296),(x*2^s) / 4294967296),by simp only;omega,by omega,rfl,by rw[List.length_set,List.length_set];exact iK,
   lO (lO lC (by omega)) (by
    have:2^s≤2^31:=Nat.pow_le_pow_right (by decide) hs
    omega),by rw[List.getElem?_set_self (by rw[List.length_set];omega)],hhi,?_,by (repeat' apply And.intro)<;>first | rfl | trivial⟩
  rw[List.take_set_of_le (Nat.le_refl _),eJ (by omega),aY hx,Nat.pow_succ]
  have h1:=Nat.mod_add_div (x*2^s) 4294967296
  rw[hm] at h1
  exact RJ hv h1
 ·have qR:i=xs.length:=by omega
  subst qR
  rw[List.take_length,va] at hv
  have I7:val 4294967296 outs=a*2^s:=by
   have h1:=aY (b:=4294967296) hoc
   rw[List.take_of_length_le (by omega)] at h1
   rw[h1]
   exact hv
  simp only[nD,g1,g5,g13,g14,g15,cQ,VX,Nat.reduceEqDiff,Nat.reduceAdd]
  exact⟨_,rfl,by simp[qQ],by simp[kQ,asK outs],outs,rfl,iK,lC,I7,fun d hd=>by rw[hoc] at hd;injection hd with hd;omega⟩
end Go.PM
namespace Go.PM
theorem Om (n:Nat) (hn:n≤35184372088832):AQ [.int .i64 0] 8 (VI (n:Int)) (VI (n:Int)) []=some (.ref 0 0 0 n n,[.row 0 ((List.replicate n 0).map tV) 1 true]):=tJ (f:=tV) (x:=0) rfl (by omega) (by omega)
theorem OG {outs:List Nat} {i d:Nat} (hi:i<outs.length):cR 0 1 (.ptr 0 0 i 0) (VI (d:Int)) [.row 0 (outs.map tV) 1 true]=some [.row 0 ((outs.set i d).map tV) 1 true]:=by
 rw[show VI (d:Int)=tV d from rfl,gI (f:=tV) (e:=1) Jm hi (Nat.le_refl _) rfl rfl]
 rfl
theorem KC {b g:Nat} {rows:List Nat} {w:Bool} {H:aA} {j d:Nat} (hr:aP H b g=some (rows.map tV,1,w)) (hj:rows[j]? = some d):dN false 1 (.ptr b g j 0) H=some (VI (d:Int)):=tN hr hj
theorem adT {n i:Nat} {outs:List Nat} (h:i<n):bJ 1 (.ref 0 0 0 n n) (VI (i:Int)) [.row 0 (outs.map tV) 1 true]=some (.ptr 0 0 i 0):=by rw[bB Jm h,Nat.zero_add]
theorem wr {x:Int} (n:Nat) (h:x=n) (hn:n≤9223372036854775807):IntKind.i64.wrap x=(n:Int):=wrapN n h hn
theorem zG (a b:Nat) (E6:b≤a) (ha:(aC 1000000000 a).length≤17592186044416):TC 179 [bQ a,bQ b] (bQ (a-b)):=by
 refine TC.walk ⟨true,false⟩ Gi rfl (Nat.le_of_ble_eq_true rfl) (by simp[aJ,bZ]) (mY _) ?_
 have hle:=dR (b:=1000000000) (by decide) E6
 simp only[BX,zM,J4,cO,VX,Nat.reduceEqDiff,Nat.reduceAdd]
 refine bC (fun(s:Nat×List Nat×Nat) ρ H=>s.1=s.2.1.length∧s.1≤(aC 1000000000 a).length∧H=[.row s.2.1.length (s.2.1.map tV) 1 true]∧(∀d∈s.2.1,d<1000000000)∧s.2.2≤1∧val 1000000000 ((aC 1000000000 a).take s.1)+1000000000^s.1*s.2.2=val 1000000000 s.2.1+val 1000000000 ((aC 1000000000 b).take s.1) ∧
  ρ 0=bQ a∧ρ 1=bQ b∧ρ 5 = .ref 0 s.2.1.length 0 s.2.1.length s.2.1.length∧ρ 6=VI s.2.2∧ρ 11=VI (aC 1000000000 a).length∧ρ 12=VI s.1) (fun s=>(aC 1000000000 a).length-s.1) (0,[],0) ⟨rfl,Nat.zero_le _,rfl,by simp,by simp,by simp[val],rfl,rfl,rfl,rfl,rfl,rfl⟩ ?_
 rintro⟨i,outs,l⟩ ρ H ⟨hi,Jn,rfl,lC,hc,hv,g0,g1,g5,g6,g11,g12⟩
 simp only at hi Jn lC hc hv g5 g6 g12
 by_cases cQ:(i:Int)<((aC 1000000000 a).length:Int)
 ·have hx:=JH (b:=1000000000) (by decide) (n:=a) (i:=i) (by omega)
  have e1:bJ 1 (bQ a) (VI i) [.row outs.length (outs.map tV) 1 true]=some (.cK (tV (a / 1000000000^i % 1000000000)) 0):=aI (f:=tV) (t := .op) (size:=1) (k := .i64) hx rfl
  have c2:=CY b i
  have t1:=Ea (b:=1000000000) (aC 1000000000 a) i
  have t2:=Ea (b:=1000000000) (aC 1000000000 b) i
  rw[Hm (by decide)] at t1 t2
  have lx:=Nat.mod_lt (a / 1000000000^i) (show 0<1000000000 by decide)
  have ly:=Nat.mod_lt (b / 1000000000^i) (show 0<1000000000 by decide)
  generalize a / 1000000000^i % 1000000000=x at *
  generalize b / 1000000000^i % 1000000000=y at *
  have wi:IntKind.i64.wrap ((i:Int)+1)=((i+1:Nat):Int):=wrapN (i+1) (by omega) (by omega)
  have w1:IntKind.i64.wrap ((x:Int)-(y:Int))=(x:Int)-(y:Int):=wrap64 (by omega) (by omega)
  have w2:IntKind.i64.wrap ((x:Int)-(y:Int)-(l:Int))=(x:Int)-(y:Int)-(l:Int):=wrap64 (by omega) (by omega)
  have step:∀r l':Nat,r<1000000000→l'≤1→r+y+l=x+1000000000*l'→(∀d∈outs++[r],d<1000000000)∧val 1000000000 ((aC 1000000000 a).take (i+1))+1000000000^(i+1)*l'=val 1000000000 (outs++[r])+val 1000000000 ((aC 1000000000 b).take (i+1)):=by
   intro r l' hr _ hd
   refine⟨fun d h => ?_,?_⟩
   ·rcases List.mem_append.1 h with h | h
    ·exact lC d h
    ·rw[List.mem_singleton.1 h];exact hr
   ·rw[t1,t2,sB,←hi,Nat.pow_succ]
    exact Ip hv hd
  by_cases lD:(x:Int)-(y:Int)-(l:Int)<0
  ·obtain⟨r,hr⟩:∃r:Nat,r+y+l=x+1000000000:=⟨x+1000000000-l-y,by omega⟩
   have w3:IntKind.i64.wrap ((x:Int)-(y:Int)-(l:Int)+1000000000)=(r:Int):=wrapN r (by omega) (by omega)
   obtain⟨s1,s2⟩:=step r 1 (by omega) (Nat.le_refl _) (by omega)
   have a1:=abX (ds:=outs) (d:=r) (by omega)
   simp only[mT,g0,g1,g5,g6,g11,g12,cQ,e1,c2,w1,w2,w3,wi,lD,rH,uN,a1,VX,Nat.reduceEqDiff,Nat.reduceAdd]
   refine⟨(i+1,outs++[r],1),by simp only;omega,by simp;omega,by simp only;omega,by simp,s1,Nat.le_refl _,s2,?_⟩
   simp only[List.length_append,List.length_singleton]
   try (repeat' apply And.intro)<;>first | rfl | trivial
  ·obtain⟨r,hr⟩:∃r:Nat,r+y+l=x:=⟨x-l-y,by omega⟩
   obtain⟨s1,s2⟩:=step r 0 (by omega) (by omega) (by omega)
   have er:(x:Int)-(y:Int)-(l:Int)=(r:Int):=by omega
   have a1:=abX (ds:=outs) (d:=r) (by omega)
   have w3:IntKind.i64.wrap ((x:Int)-(y:Int)-(l:Int))=(r:Int):=wrapN r er (by omega)
   have OW:¬(r:Int)<0:=by omega
   simp only[mT,g0,g1,g5,g6,g11,g12,cQ,e1,c2,w1,w3,wi,OW,rH,uN,a1,VX,Nat.reduceEqDiff,Nat.reduceAdd]
   refine⟨(i+1,outs++[r],0),by simp only;omega,by simp;omega,by simp only;omega,by simp,s1,Nat.zero_le _,s2,?_⟩
   simp only[List.length_append,List.length_singleton]
   try (repeat' apply And.intro)<;>first | rfl | trivial
 ·have qR:i=(aC 1000000000 a).length:=by omega
  rw[qR,List.take_length,List.take_of_length_le (l:=aC 1000000000 b) hle,cA (by decide),cA (by decide)] at hv
  have iC:=oM lC
  rw[←hi,qR] at iC
  have I7:val 1000000000 outs=a-b:=by
   rcases Nat.lt_or_ge l 1 with h | h
   ·have:l=0:=by omega
    subst this
    rw[Nat.mul_zero] at hv
    omega
   ·have:l=1:=by omega
    subst this
    rw[Nat.mul_one] at hv
    omega
  simp only[mT,g0,g1,g5,g6,g11,g12,cQ,VX,Nat.reduceEqDiff,Nat.reduceAdd]
  refine G5 lC rfl (by omega) I7 ?_
  simp only[VX,Nat.reduceEqDiff,Nat.reduceAdd]
  exact Qs _
theorem gU (a b:Nat) (ha:(aC 1000000000 a).length≤17592186044416) (hb:(aC 1000000000 b).length≤17592186044416):TC 162 [bQ a,bQ b] (bQ (a*b)):=by
 refine TC.walk ⟨true,false⟩ Hq rfl (Nat.le_of_ble_eq_true rfl) (by simp[aJ,bZ]) (mY _) ?_
 have va:=cA (b:=1000000000) (by decide) a
 have vb:=cA (b:=1000000000) (by decide) b
 have la:=fF (b:=1000000000) (by decide) a
 have lb:=fF (b:=1000000000) (by decide) b
 unfold bQ
 generalize aC 1000000000 a=xs at *
 generalize aC 1000000000 b=ys at *
 have w0:IntKind.i64.wrap ((xs.length:Int)+(ys.length:Int))=((xs.length+ys.length:Nat):Int):=wrapN _ (by omega) (by omega)
 simp only[CS,A4,eK,w0,Om (xs.length+ys.length) (by omega),VX,Nat.reduceEqDiff,Nat.reduceAdd]
 generalize hN:xs.length+ys.length=N at *
 refine bC (fun(s:Nat×List Nat) ρ H=>s.1≤xs.length∧H=[.row 0 (s.2.map tV) 1 true]∧s.2.length=N∧(∀d∈s.2,d<1000000000)∧val 1000000000 (s.2.take (s.1+ys.length))=val 1000000000 (xs.take s.1)*b∧(∀j,s.1+ys.length≤j→j<N→s.2[j]? = some 0) ∧
  ρ 0=iE xs∧ρ 1=iE ys∧ρ 5 = .ref 0 0 0 N N∧ρ 17=VI xs.length∧ρ 18=VI s.1) (fun s=>xs.length-s.1) (0,List.replicate N 0) ⟨Nat.zero_le _,rfl,by simp,Ad (by decide) _,by simp[val,List.take_replicate,qN],fun j _ h=>by simp[List.getElem?_replicate,h],rfl,rfl,rfl,rfl,rfl⟩ ?_
 rintro⟨i,outs⟩ ρ H ⟨hi,rfl,iK,lC,hv,hzr,g0,g1,g5,g17,g18⟩
 simp only at hi iK lC hv hzr g18
 by_cases cQ:(i:Int)<(xs.length:Int)
 ·obtain⟨x,hx⟩:∃x,xs[i]? = some x:=⟨_,List.getElem?_eq_getElem (by omega)⟩
  have lx:=la x (List.mem_of_getElem? hx)
  have e1:∀os:List Nat,bJ 1 (iE xs) (VI i) [.row 0 (os.map tV) 1 true]=some (.cK (tV x) 0):=fun os=>aI (f:=tV) (t := .op) (size:=1) (k := .i64) hx rfl
  simp only[rL,g0,g1,g5,g17,g18,cQ,eK,VX,Nat.reduceEqDiff,Nat.reduceAdd]
  refine bC (fun(s:Nat×List Nat×Nat) ρ H=>s.1≤ys.length∧H=[.row 0 (s.2.1.map tV) 1 true]∧s.2.1.length=N∧(∀d∈s.2.1,d<1000000000)∧s.2.2<1000000000 ∧
   val 1000000000 (s.2.1.take (i+s.1))+1000000000^(i+s.1)*s.2.2=val 1000000000 (outs.take (i+s.1))+1000000000^i*(x*val 1000000000 (ys.take s.1))∧(∀j,i+s.1≤j→s.2.1[j]? = outs[j]?) ∧
   ρ 0=iE xs∧ρ 1=iE ys∧ρ 5 = .ref 0 0 0 N N∧ρ 6=VI i∧ρ 7=VI s.2.2∧ρ 17=VI xs.length∧ρ 18=VI i∧ρ 22=VI ys.length∧ρ 23=VI s.1) (fun s=>ys.length-s.1) (0,outs,0) ⟨Nat.zero_le _,rfl,iK,lC,by simp,by simp[val],fun _ _=>rfl,by (repeat' apply And.intro)<;>first | rfl | trivial⟩ ?_
  rintro⟨k,os,c⟩ Nu H ⟨hk,rfl,Oh,NW,hc,Lx,E5,k0,k1,k5,k6,k7,G8,W4,k22,k23⟩
  simp only at hk Oh NW hc Lx E5 k7 k23
  have wi:IntKind.i64.wrap ((i:Int)+1)=((i+1:Nat):Int):=wrapN (i+1) (by omega) (by omega)
  by_cases hkn:(k:Int)<(ys.length:Int)
  ·obtain⟨y,hy⟩:∃y,ys[k]? = some y:=⟨_,List.getElem?_eq_getElem (by omega)⟩
   have ly:=lb y (List.mem_of_getElem? hy)
   obtain⟨o,ho⟩:∃o,os[i+k]? = some o:=⟨_,List.getElem?_eq_getElem (by omega)⟩
   have lo:=NW o (List.mem_of_getElem? ho)
   have Xj:outs[i+k]? = some o:=by rw[←E5 (i+k) (Nat.le_refl _)];exact ho
   have f1:bJ 1 (iE ys) (VI k) [.row 0 (os.map tV) 1 true]=some (.cK (tV y) 0):=aI (f:=tV) (t := .op) (size:=1) (k := .i64) hy rfl
   have w1:IntKind.i64.wrap ((i:Int)+(k:Int))=((i+k:Nat):Int):=wrapN _ (by omega) (by omega)
   have f2:bJ 1 (.ref 0 0 0 N N) (VI ((i+k:Nat):Int)) [.row 0 (os.map tV) 1 true]=some (.ptr 0 0 (i+k) 0):=adT (by omega)
   have f3:dN false 1 (.ptr 0 0 (i+k) 0) [.row 0 (os.map tV) 1 true]=some (VI (o:Int)):=KC Jm ho
   have f4:∀s:Nat,cR 0 1 (.ptr 0 0 (i+k) 0) (VI (s:Int)) [.row 0 (os.map tV) 1 true]=some [.row 0 ((os.set (i+k) s).map tV) 1 true]:=fun s=>OG (by omega)
   have Ap:x*y≤999999999*999999999:=Nat.mul_le_mul (by omega) (by omega)
   have w5:IntKind.i64.wrap ((x:Int)*(y:Int))=((x*y:Nat):Int):=wrapN _ (by simp) (by omega)
   have w6:IntKind.i64.wrap ((o:Int)+((x*y:Nat):Int))=((o+x*y:Nat):Int):=wrapN _ (by omega) (by omega)
   have w7:IntKind.i64.wrap (((o+x*y:Nat):Int)+(c:Int))=((o+x*y+c:Nat):Int):=wrapN _ (by omega) (by omega)
   have wk:IntKind.i64.wrap ((k:Int)+1)=((k+1:Nat):Int):=wrapN (k+1) (by omega) (by omega)
   have r1:=MP (o+x*y+c)
   have q1:=Mh (o+x*y+c) (by omega)
   simp only[sG,k0,k1,k5,k6,k7,G8,W4,k22,k23,hkn,e1,f1,f2,f3,f4,w1,w5,w6,w7,wk,r1,q1,VX,Nat.reduceEqDiff,Nat.reduceAdd]
   have hq:(o+x*y+c) / 1000000000<1000000000:=Nat.div_lt_of_lt_mul (by omega)
   refine⟨(k+1,os.set (i+k) ((o+x*y+c) % 1000000000),(o+x*y+c) / 1000000000),by simp only;omega,by omega,rfl,by rw[List.length_set];exact Oh,lO NW (Nat.mod_lt _ (by decide)),hq,?_,fun j hj => ?_,by (repeat' apply And.intro)<;>first | rfl | trivial⟩
   ·have h1:=Nat.mod_add_div (o+x*y+c) 1000000000
    rw[show o+x*y+c=c+(x*y+o) by omega] at h1 ⊢
    rw[←Nat.add_assoc,eJ (by omega),aY Xj,aY hy,Nat.pow_succ]
    rw[Nat.pow_add] at Lx ⊢
    exact PQ Lx h1
   ·rw[List.getElem?_set_ne (by omega)]
    exact E5 j (by omega)
  ·have hke:k=ys.length:=by omega
   subst hke
   rw[List.take_length,vb,hv] at Lx
   have w1:IntKind.i64.wrap ((i:Int)+(ys.length:Int))=((i+ys.length:Nat):Int):=wrapN _ (by omega) (by omega)
   have DQ:os[i+ys.length]? = some 0:=by rw[E5 _ (Nat.le_refl _)];exact hzr _ (Nat.le_refl _) (by omega)
   have f2:bJ 1 (.ref 0 0 0 N N) (VI ((i+ys.length:Nat):Int)) [.row 0 (os.map tV) 1 true]=some (.ptr 0 0 (i+ys.length) 0):=adT (by omega)
   have f3:dN false 1 (.ptr 0 0 (i+ys.length) 0) [.row 0 (os.map tV) 1 true]=some (VI ((0:Nat):Int)):=KC Jm DQ
   have f4:∀s:Nat,cR 0 1 (.ptr 0 0 (i+ys.length) 0) (VI (s:Int)) [.row 0 (os.map tV) 1 true]=some [.row 0 ((os.set (i+ys.length) s).map tV) 1 true]:=fun s=>OG (by omega)
   have w2:IntKind.i64.wrap (((0:Nat):Int)+(c:Int))=(c:Int):=wrapN _ (by omega) (by omega)
   simp only[sG,k0,k1,k5,k6,k7,G8,W4,k22,k23,hkn,eK,f2,f3,f4,w1,w2,wi,VX,Nat.reduceEqDiff,Nat.reduceAdd]
   refine⟨(i+1,os.set (i+ys.length) c),by simp only;omega,by omega,rfl,by rw[List.length_set];exact Oh,lO NW hc,?_,fun j hj Xd => ?_,by (repeat' apply And.intro)<;>first | rfl | trivial⟩
   ·rw[show i+1+ys.length=i+ys.length+1 by omega,eJ (by omega),Lx,aY hx,Nat.add_mul,Nat.mul_assoc]
   ·rw[List.getElem?_set_ne (by omega),E5 j (by omega)]
    exact hzr j (by omega) Xd
 ·have qR:i=xs.length:=by omega
  subst qR
  rw[hN,List.take_length,va,List.take_of_length_le (by omega)] at hv
  simp only[rL,g0,g1,g5,g17,g18,cQ,VX,Nat.reduceEqDiff,Nat.reduceAdd]
  refine G5 (m:=a*b) lC iK.symm (by omega) hv ?_
  simp only[VX,Nat.reduceEqDiff,Nat.reduceAdd]
  exact Qs _
theorem B5 (a:Nat) (ha:(aC 1000000000 a).length≤17592186044416):TC 236 [bQ a] (if (aC 1000000000 a).length≤2 then .dL [VI a,VB true] else .dL [VI 0,VB false]):=by
 refine TC.walk ⟨true,false⟩ I8 rfl (Nat.le_of_ble_eq_true rfl) (by simp[aJ,bZ]) (by split<;>rfl) ?_
 by_cases h2:(aC 1000000000 a).length≤2
 ·rw[if_pos h2]
  have h3:¬(2:Int)<((aC 1000000000 a).length:Int):=by omega
  have c0:TC 225 [bQ a,VI 0] (VI ((a % 1000000000:Nat):Int)):=by have:=CY a 0;rwa [Nat.pow_zero,Nat.div_one] at this
  have c1:TC 225 [bQ a,VI 1] (VI ((a / 1000000000 % 1000000000:Nat):Int)):=by have:=CY a 1;rwa [Nat.pow_one] at this
  have bD:=gK (b:=1000000000) (by decide) a
  have hp:1000000000^(aC 1000000000 a).length≤1000000000^2:=Nat.pow_le_pow_right (by decide) h2
  have hm:a / 1000000000<1000000000:=Nat.div_lt_of_lt_mul (by omega)
  rw[Nat.mod_eq_of_lt hm] at c1
  have hmd:=Nat.mod_add_div a 1000000000
  have w1:IntKind.i64.wrap (1000000000*((a / 1000000000:Nat):Int))=((1000000000*(a / 1000000000):Nat):Int):=wrapN _ (by omega) (by omega)
  have w2:IntKind.i64.wrap (((a % 1000000000:Nat):Int)+((1000000000*(a / 1000000000):Nat):Int))=(a:Int):=wrapN _ (by omega) (by omega)
  simp only[Aj,vL,cO,h3,c0,c1,w1,w2,VX,Nat.reduceEqDiff,Nat.reduceAdd]
  exact aG rfl
 ·rw[if_neg h2]
  have h3:(2:Int)<((aC 1000000000 a).length:Int):=by omega
  simp only[Aj,vL,cO,h3,VX,Nat.reduceEqDiff,Nat.reduceAdd]
  exact aG rfl
theorem YU {outs:List Nat} {n cap x:Nat} (hn:n=outs.length) (hc:n<cap):fE 0 1 8 (.ref 0 0 0 n cap) [VI (x:Int)] [.row 0 ((outs++List.replicate (cap-n) 0).map tV) 1 true]=some (.ref 0 0 0 (n+1) cap,[.row 0 (((outs++[x])++List.replicate (cap-(n+1)) 0).map tV) 1 true]):=by
 subst hn
 simp only[fE,bK,List.length_map,List.length_append,List.length_replicate,List.length_cons,List.length_nil,Nat.zero_add]
 rw[if_pos ⟨by decide,by decide⟩,if_pos ⟨trivial,Nat.le_refl _,by omega⟩,if_pos (by omega),if_neg (by omega),if_pos (by omega)]
 congr 3
 have e:List.replicate (cap-outs.length) 0=(0:Nat)::List.replicate (cap-(outs.length+1)) 0:=by
  rw[show cap-outs.length=(cap-(outs.length+1))+1 by omega,List.replicate_succ]
 simp only[cS,List.set_cons_zero,e,List.map_append,List.map_cons,List.length_cons,List.length_nil,List.map_nil]
 congr 1
 rw[List.take_left' (by simp),←List.drop_drop,List.drop_left' (by simp)]
 simp
theorem xH (a d:Nat) (Cl:0<d) (hd:d<1000000000) (ha:(aC 1000000000 a).length<17592186044416):TC 238 [bQ a,VI (d:Int)] (bQ (a*d)):=by
 refine TC.walk ⟨true,false⟩ E0 rfl (Nat.le_of_ble_eq_true rfl) (by simp[aJ,bZ];rfl) (mY _) ?_
 have w0:IntKind.i64.wrap (((aC 1000000000 a).length:Int)+1)=(((aC 1000000000 a).length+1:Nat):Int):=wrapN _ (by omega) (by omega)
 have mk:AQ [.int .i64 0] 8 (VI 0) (VI (((aC 1000000000 a).length+1:Nat):Int)) []=some (.ref 0 0 0 0 ((aC 1000000000 a).length+1),[.row 0 ((([]:List Nat)++List.replicate ((aC 1000000000 a).length+1-0) 0).map tV) 1 true]):=by
  simp only[AQ]
  rw[if_pos ⟨by omega,by omega,by omega,by omega⟩]
  simp
  rfl
 simp only[Ar,yS,cO,w0,mk,VX,Nat.reduceEqDiff,Nat.reduceAdd]
 refine bC (fun(s:Nat×List Nat×Nat) ρ H=>s.1=s.2.1.length∧s.1≤(aC 1000000000 a).length∧H=[.row 0 ((s.2.1++List.replicate ((aC 1000000000 a).length+1-s.1) 0).map tV) 1 true]∧s.2.2<d∧aC 1000000000 (a*d)=s.2.1++aC 1000000000 (a / 1000000000^s.1*d+s.2.2) ∧
  ρ 1=VI d∧ρ 5 = .ref 0 0 0 s.1 ((aC 1000000000 a).length+1)∧ρ 6=VI s.2.2∧ρ 14=bQ a∧ρ 15=VI (aC 1000000000 a).length∧ρ 16=VI s.1) (fun s=>(aC 1000000000 a).length-s.1) (0,[],0) ⟨rfl,Nat.zero_le _,rfl,Cl,by simp,rfl,rfl,rfl,rfl,rfl,rfl⟩ ?_
 rintro⟨i,outs,c⟩ ρ H ⟨hi,Jn,rfl,hc,hv,g1,g5,g6,g14,g15,g16⟩
 simp only at hi Jn hc hv g5 g6 g16
 by_cases cQ:(i:Int)<((aC 1000000000 a).length:Int)
 ·have hx:=JH (b:=1000000000) (by decide) (n:=a) (i:=i) (by omega)
  have hA:=(Dx (b:=1000000000) (by decide) (n:=a) (i:=i)).1 (by omega)
  have e1:∀H,bJ 1 (bQ a) (VI i) H=some (.cK (tV (a / 1000000000^i % 1000000000)) 0):=fun H=>aI (f:=tV) (t := .op) (size:=1) (k := .i64) hx rfl
  have lx:=Nat.mod_lt (a / 1000000000^i) (show 0<1000000000 by decide)
  have fR:a / 1000000000^i*d+c≠0:=by
   have:=Nat.mul_ne_zero hA (show d≠0 by omega)
   omega
  rw[V4 (by decide) fR,←rD] at hv
  generalize a / 1000000000^i % 1000000000=x at *
  have hxd:x*d≤999999999*999999999:=Nat.mul_le_mul (by omega) (by omega)
  have w1:IntKind.i64.wrap ((x:Int)*(d:Int))=((x*d:Nat):Int):=wrapN _ (by simp) (by omega)
  have w2:IntKind.i64.wrap (((x*d:Nat):Int)+(c:Int))=((x*d+c:Nat):Int):=wrapN _ (by omega) (by omega)
  have wi:IntKind.i64.wrap ((i:Int)+1)=((i+1:Nat):Int):=wrapN (i+1) (by omega) (by omega)
  have r1:=MP (x*d+c)
  have q1:=Mh (x*d+c) (by omega)
  have a1:=YU (outs:=outs) (n:=i) (cap:=(aC 1000000000 a).length+1) (x:=(x*d+c) % 1000000000) hi (by omega)
  have hq:(x*d+c) / 1000000000<d:=by
   rw[Nat.div_lt_iff_lt_mul (by decide)]
   have h1:x*d≤999999999*d:=Nat.mul_le_mul_right _ (by omega)
   omega
  simp only[lE,g1,g5,g6,g14,g15,g16,cQ,e1,w1,w2,wi,r1,q1,rH,uN,a1,VX,Nat.reduceEqDiff,Nat.reduceAdd]
  refine⟨(i+1,outs++[(x*d+c) % 1000000000],(x*d+c) / 1000000000),by simp only;omega,by simp;omega,by simp only;omega,rfl,hq,by rw[hv,List.append_assoc];rfl,?_⟩
  try (repeat' apply And.intro)<;>first | rfl | trivial
 ·have qR:i=(aC 1000000000 a).length:=by omega
  have hz:a / 1000000000^i=0:=by
   have:=mt (Dx (b:=1000000000) (by decide) (n:=a) (i:=i)).2
   omega
  rw[hz,Nat.zero_mul,Nat.zero_add] at hv
  by_cases hcp:(0:Int)<(c:Int)
  ·rw[CW (b:=1000000000) (by decide) (show c≠0 by omega) (show c<1000000000 by omega)] at hv
   have a1:=YU (outs:=outs) (n:=i) (cap:=(aC 1000000000 a).length+1) (x:=c) hi (by omega)
   simp only[lE,g1,g5,g6,g14,g15,g16,cQ,hcp,rH,uN,a1,VX,Nat.reduceEqDiff,Nat.reduceAdd]
   rw[bQ,hv]
   rw[Jk bK (by simp;omega) (by omega) (eO fun _=>rfl)]
   rw[List.map_append,List.take_left' (by simp;omega)]
  ·have hc0:c=0:=by omega
   rw[hc0,bW,List.append_nil] at hv
   simp only[lE,g1,g5,g6,g14,g15,g16,cQ,hcp,VX,Nat.reduceEqDiff,Nat.reduceAdd]
   rw[bQ,hv]
   rw[Jk bK (by simp;omega) (by omega) (eO fun _=>rfl)]
   rw[List.map_append,List.take_left' (by simp;omega)]
theorem Jj (a b:Nat) (ha:a≤9223372036854775807) (hb:0<b):dF .quo (.int .i64 (a:Int)) (.int .i64 (b:Int))=some (.int .i64 ((a / b:Nat):Int)):=by
 have h1:¬((b:Int)=0):=by omega
 have h2:(a:Int).tdiv (b:Int)=((a / b:Nat):Int):=by rw[Int.tdiv_eq_ediv_of_nonneg (by omega)];simp
 have h3:a / b≤a:=Nat.div_le_self _ _
 simp only[dF,if_true,h1,if_false,h2]
 generalize a / b=q at *
 rw[wrap64 (by omega) (by omega)]
theorem Jw (a b:Nat) (hb:0<b):dF .rem (.int .i64 (a:Int)) (.int .i64 (b:Int))=some (.int .i64 ((a % b:Nat):Int)):=by
 have h1:¬((b:Int)=0):=by omega
 have h2:(a:Int).tmod (b:Int)=((a % b:Nat):Int):=by rw[Int.tmod_eq_emod_of_nonneg (by omega)];simp
 simp only[dF,if_true,h1,if_false,h2]
theorem ZZ {r d x:Nat} (hr:r<d) (hd:d<1000000000) (hx:x<1000000000):r*1000000000+x≤9223372036854775807:=by omega
theorem ajF {r d x:Nat} (Cl:0<d) (hr:r<d) (hx:x<1000000000):(r*1000000000+x) / d<1000000000:=by
 rw[Nat.div_lt_iff_lt_mul Cl]
 omega
theorem wV (a d:Nat) (Cl:0<d) (hdT:d<1000000000) (ha:(aC 1000000000 a).length≤17592186044416):TC 237 [bQ a,VI (d:Int)] (.dL [bQ (a / d),VI ((a % d:Nat):Int)]):=by
 refine TC.walk ⟨true,false⟩ Ew rfl (Nat.le_of_ble_eq_true rfl) (by simp[aJ,bZ];rfl) (by simp[eQ,pR,mY,nF]) ?_
 have va:=cA (b:=1000000000) (by decide) a
 have la:=fF (b:=1000000000) (by decide) a
 unfold bQ
 generalize aC 1000000000 a=xs at *
 have w0:IntKind.i64.wrap ((xs.length:Int)-1)=(xs.length:Int)-1:=wrap64 (by omega) (by omega)
 simp only[AZ,yV,eK,w0,Om xs.length (by omega),VX,Nat.reduceEqDiff,Nat.reduceAdd]
 refine bC (fun(s:Nat×List Nat×Nat) ρ H=>s.1≤xs.length∧H=[.row 0 (s.2.1.map tV) 1 true]∧s.2.1.length=xs.length∧(∀d∈s.2.1,d<1000000000)∧s.2.2<d∧val 1000000000 (s.2.1.drop s.1)*d+s.2.2=val 1000000000 (xs.drop s.1) ∧
  ρ 0=iE xs∧ρ 1=VI d∧ρ 6 = .ref 0 0 0 xs.length xs.length∧ρ 7=VI s.2.2∧ρ 8=VI ((s.1:Int)-1)) (fun s=>s.1) (xs.length,List.replicate xs.length 0,0) ⟨Nat.le_refl _,rfl,by simp,Ad (by decide) _,Cl,by simp[val,List.drop_replicate],rfl,rfl,rfl,rfl,rfl⟩ ?_
 rintro⟨j,outs,r⟩ ρ H ⟨hj,rfl,iK,lC,hr,hv,g0,g1,g6,g7,g8⟩
 simp only at hj iK lC hr hv g7 g8
 by_cases hz:(0:Int)≤(j:Int)-1
 ·obtain⟨i,rfl⟩:∃i,j=i+1:=⟨j-1,by omega⟩
  obtain⟨x,hx⟩:∃x,xs[i]? = some x:=⟨_,List.getElem?_eq_getElem (by omega)⟩
  have lx:=la x (List.mem_of_getElem? hx)
  have Km:((i+1:Nat):Int)-1=(i:Int):=by omega
  rw[Km] at g8 hz
  have e1:=aI (f:=tV) (t := .op) (H:=[.row 0 (outs.map tV) 1 true]) (size:=1) (k := .i64) hx rfl
  have e3:bJ 1 (.ref 0 0 0 xs.length xs.length) (VI i) [.row 0 (outs.map tV) 1 true]=some (.ptr 0 0 i 0):=adT (by omega)
  have e4:∀s:Nat,cR 0 1 (.ptr 0 0 i 0) (VI (s:Int)) [.row 0 (outs.map tV) 1 true]=some [.row 0 ((outs.set i s).map tV) 1 true]:=fun s=>OG (by omega)
  have w2:IntKind.i64.wrap ((i:Int)-1)=(i:Int)-1:=wrap64 (by omega) (by omega)
  have w4:IntKind.i64.wrap ((r:Int)*1000000000)=((r*1000000000:Nat):Int):=wrapN _ (by omega) (by omega)
  have w5:IntKind.i64.wrap (((r*1000000000:Nat):Int)+(x:Int))=((r*1000000000+x:Nat):Int):=wrapN _ (by omega) (by omega)
  have Ao:r*1000000000+x≤9223372036854775807:=ZZ hr hdT lx
  have q1:=Jj (r*1000000000+x) d Ao Cl
  have q2:=Jw (r*1000000000+x) d Cl
  have hq:(r*1000000000+x) / d<1000000000:=ajF Cl hr lx
  simp only[pJ,g0,g1,g6,g7,g8,hz,e1,e3,e4,w2,w4,w5,q1,q2,VX,Nat.reduceEqDiff,Nat.reduceAdd]
  refine⟨(i,outs.set i ((r*1000000000+x) / d),(r*1000000000+x) % d),by simp only;omega,by omega,rfl,by rw[List.length_set];exact iK,lO lC hq,Nat.mod_lt _ Cl,?_,by (repeat' apply And.intro)<;>first | rfl | trivial⟩
  have h1:=Nat.mod_add_div (r*1000000000+x) d
  rw[set_drop (by omega),rJ,sJ hx,←hv]
  exact QL h1
 ·have RZ:j=0:=by omega
  subst RZ
  rw[List.drop_zero,List.drop_zero,va] at hv
  have h1:a / d=val 1000000000 outs:=by
   rw[←hv,Nat.mul_comm,Nat.mul_add_div Cl,Nat.div_eq_of_lt hr,Nat.add_zero]
  have h2:a % d=r:=by
   rw[←hv,Nat.mul_comm,Nat.mul_add_mod,Nat.mod_eq_of_lt hr]
  simp only[pJ,g0,g1,g6,g7,g8,hz,VX,Nat.reduceEqDiff,Nat.reduceAdd]
  refine G5 (m:=a / d) lC iK.symm (by omega) h1.symm ?_
  simp only[g7,VX,Nat.reduceEqDiff,Nat.reduceAdd]
  rw[h2]
  exact aG (by simp[aM,aJ,xZ,bQ,nF])
end Go.PM
namespace Go.PM
theorem Oc {H:aA} {b b' g:Nat} {x:fU} (h:b≠b'):aP (H.set b x) b' g=aP H b' g:=by
 unfold aP
 rw[List.getElem?_set_ne h]
theorem nC {H:aA} {b g e:Nat} {es mO:List VV} {w w':Bool} (h:aP H b g=some (es,e,w)):aP (H.set b (.row g mO e w')) b g=some (mO,e,w'):=by
 have bD:b<H.length:=by
  unfold aP at h
  split at h
  ·rename_i hb
   exact(List.getElem?_eq_some_iff.1 hb).1
  ·cases h
 unfold aP
 rw[List.getElem?_set_self bD]
 simp
theorem lU {H:aA} {b:Nat} {x y:fU}:(H.set b x).set b y=H.set b y:=by rw[List.set_set]
theorem wB {H:aA} {b g e:Nat} {es:List VV} {w:Bool} (h:aP H b g=some (es,e,w)):H.set b (.row g es e w)=H:=by
 apply List.ext_getElem?
 intro i
 by_cases hi:b=i
 ·subst hi
  unfold aP at h
  split at h
  ·rename_i hb
   split at h
   ·rename_i hg
    cases h
    rw[List.getElem?_set_self (List.getElem?_eq_some_iff.1 hb).1,hb,hg]
   ·cases h
  ·cases h
 ·rw[List.getElem?_set_ne hi]
theorem Xl {H:aA} {b g o i lo d:Nat} {pre iH post:List Nat} (hr:aP H b g=some ((pre++iH++post).map uV,1,true)) (ho:pre.length=o) (hi:i<iH.length) (iC:lo≤b) :
  cR lo 1 (.ptr b g (o+i) 0) (uV d) H=some (H.set b (.row g ((pre++iH.set i d++post).map uV) 1 true)):=by
 rw[gI (f:=uV) (e:=1) hr (by simp only[List.length_append];omega) iC rfl rfl,TB ho hi]
theorem SA {H:aA} {lo b g o L c b2 g2 n2 c2 t:Nat} {pre iH post vs Mz:List Nat} {w2:Bool} (hr:aP H b g=some ((pre++iH++post).map uV,1,true)) (hr2:aP H b2 g2=some (Mz.map uV,1,w2)) (hb:b≠b2) (iC:lo≤b)
  (ho:pre.length=o) (hL:iH.length=L) (axP:L≤70368744177664) (OU:Mz.take n2=vs) (hn2:n2≤Mz.length) (hle:n2≤L) (Wc:∀d∈iH,d<4294967296) (Gm:∀d∈vs,d<4294967296) (ht:t<4294967296) (xB:t*val 4294967296 vs≤val 4294967296 iH+val 4294967296 vs) :
  oO 221 [.ref b g o L c,.ref b2 g2 0 n2 c2,VK .u64 t] lo H fun r H'=>∃qT:List Nat,H'=H.set b (.row g ((pre++qT++post).map uV) 1 true)∧qT.length=L∧(∀d∈qT,d<4294967296) ∧
   ((r=VB false∧val 4294967296 qT+t*val 4294967296 vs=val 4294967296 iH)∨(r=VB true∧val 4294967296 iH<t*val 4294967296 vs∧val 4294967296 qT+t*val 4294967296 vs=val 4294967296 iH+val 4294967296 vs)):=by
 refine oO.walk ⟨true,false⟩ IJ (Nat.le_of_ble_eq_true rfl) ?_
 have D3:vs.length=n2:=by rw[←OU,List.length_take];omega
 have zD:∀i,i<n2→Mz[i]? = vs[i]? := fun i hi=>by rw[←OU,List.getElem?_take_of_lt hi]
 have Oh:=oM Wc
 have Lx:=oM Gm
 rw[hL] at Oh
 rw[D3] at Lx
 have hVL:val 4294967296 vs≤4294967296^L:=Nat.le_trans (Nat.le_of_lt Lx) (Nat.pow_le_pow_right (by decide) hle)
 have e0:∀ {K:aA} {es:List VV},aP K b g=some (es,1,true)→pV (.ref b g o L c) K=some (VI L):=fun h=>fM h
 have e00:∀ {K:aA},aP K b2 g2=some (Mz.map uV,1,w2)→pV (.ref b2 g2 0 n2 c2) K=some (VI n2):=fun h=>fM h
 have rd:∀(s:List Nat),s.length=L→aP (H.set b (.row g ((pre++s++post).map uV) 1 true)) b g=some ((pre++s++post).map uV,1,true):=fun s _=>nC hr
 have rd2:∀(s:List Nat),aP (H.set b (.row g ((pre++s++post).map uV) 1 true)) b2 g2=some (Mz.map uV,1,w2):=fun s=>by rw[Oc hb];exact hr2
 have wi:∀i:Nat,i<L→IntKind.i64.wrap ((i:Int)+1)=((i+1:Nat):Int):=fun i hi=>wrapN (i+1) (by omega) (by omega)
 have back:∀(ρ:cP) (s:List Nat),s.length=L→(∀d∈s,d<4294967296)→(∀s2:List Nat,s2.length=L→(∀d∈s2,d<4294967296)→∀c,val 4294967296 s+val 4294967296 vs=val 4294967296 s2+4294967296^L*c→val 4294967296 s2+t*val 4294967296 vs=val 4294967296 iH+val 4294967296 vs)→val 4294967296 iH<t*val 4294967296 vs→ρ 0 = .ref b g o L c→ρ 1 = .ref b2 g2 0 n2 c2→ρ 7=VK .u64 0→ρ 58=VI L→ρ 59=VI 0 →
   VW ⟨true,false⟩ lo (.loop lJ) (Ai 2 (mV (VW ⟨true,false⟩ lo (.seq (.dT [⟨(some 6),(.mv (.const (.bool true))),none,false,[]⟩]) .ret) (Aq [.tmp 6] fun r H'=>∃qT:List Nat,H'=H.set b (.row g ((pre++qT++post).map uV) 1 true)∧qT.length=L∧(∀d∈qT,d<4294967296)∧((r=VB false∧val 4294967296 qT+t*val 4294967296 vs=val 4294967296 iH)∨(r=VB true∧val 4294967296 iH<t*val 4294967296 vs∧val 4294967296 qT+t*val 4294967296 vs=val 4294967296 iH+val 4294967296 vs)))) (Aq [.tmp 6] fun r H'=>∃qT:List Nat,H'=H.set b (.row g ((pre++qT++post).map uV) 1 true)∧qT.length=L∧(∀d∈qT,d<4294967296)∧((r=VB false∧val 4294967296 qT+t*val 4294967296 vs=val 4294967296 iH)∨(r=VB true∧val 4294967296 iH<t*val 4294967296 vs∧val 4294967296 qT+t*val 4294967296 vs=val 4294967296 iH+val 4294967296 vs))))) ρ (H.set b (.row g ((pre++s++post).map uV) 1 true)):=by
  intro ρ s hs NW KH abM g0 g1 g7 g58 g59
  refine bC (fun(u:Nat×List Nat×Nat) ρ K=>u.1≤L∧K=H.set b (.row g ((pre++u.2.1++post).map uV) 1 true)∧u.2.1.length=L∧(∀d∈u.2.1,d<4294967296)∧u.2.2≤1∧val 4294967296 (s.take u.1)+val 4294967296 (vs.take u.1)=val 4294967296 (u.2.1.take u.1)+4294967296^u.1*u.2.2∧(∀j,u.1≤j→u.2.1[j]? = s[j]?) ∧
   ρ 0 = .ref b g o L c∧ρ 1 = .ref b2 g2 0 n2 c2∧ρ 7=VK .u64 u.2.2∧ρ 58=VI L∧ρ 59=VI u.1) (fun u=>L-u.1) (0,s,0) ⟨Nat.zero_le _,rfl,hs,NW,by simp,by simp[val],fun _ _=>rfl,g0,g1,g7,g58,g59⟩ ?_
  rintro⟨i,outs,cy⟩ Nu K ⟨hi,rfl,iK,lC,hc,hv,E5,k0,k1,k7,k58,k59⟩
  simp only at hi iK lC hc hv E5 k7 k59
  by_cases cQ:(i:Int)<(L:Int)
  ·obtain⟨x,hx⟩:∃x,outs[i]? = some x:=⟨_,List.getElem?_eq_getElem (by omega)⟩
   have lx:=lC x (List.mem_of_getElem? hx)
   have G6:s[i]? = some x:=by rw[←E5 i (Nat.le_refl _)];exact hx
   have e1:bJ 1 (.ref b g o L c) (VI i) (H.set b (.row g ((pre++outs++post).map uV) 1 true))=some (.ptr b g (o+i) 0):=bB (rd outs iK) (by omega)
   have e2:dN false 1 (.ptr b g (o+i) 0) (H.set b (.row g ((pre++outs++post).map uV) 1 true))=some (uV x):=iQ (rd outs iK) (by rw[NO ho (by omega)];exact hx)
   have e3:∀d:Nat,cR lo 1 (.ptr b g (o+i) 0) (uV d) (H.set b (.row g ((pre++outs++post).map uV) 1 true))=some (H.set b (.row g ((pre++outs.set i d++post).map uV) 1 true)):=fun d=>by
    rw[Xl (rd outs iK) ho (by omega) iC,lU]
   have e4:=e00 (rd2 outs)
   have w1:IntKind.u64.wrap (x:Int)=(x:Int):=fH _ (by omega)
   have w2:IntKind.u64.wrap ((cy:Int)+(x:Int))=((cy+x:Nat):Int):=by rw[←Int.natCast_add];exact fH _ (by omega)
   have wii:=wi i (by omega)
   have step:∀y,y<4294967296→(∀d,vs[i]? = some d→d=y)→(vs.length≤i→y=0) →
     (i+1≤L∧(outs.set i ((cy+x+y) % 4294967296)).length=L∧(∀d∈outs.set i ((cy+x+y) % 4294967296),d<4294967296)∧(cy+x+y) / 4294967296≤1∧val 4294967296 (s.take (i+1))+val 4294967296 (vs.take (i+1))=val 4294967296 ((outs.set i ((cy+x+y) % 4294967296)).take (i+1))+4294967296^(i+1)*((cy+x+y) / 4294967296))∧∀j,i+1≤j→(outs.set i ((cy+x+y) % 4294967296))[j]? = s[j]? := by
    intro y hy h1 h2
    refine⟨⟨by omega,by rw[List.length_set];exact iK,lO lC (Nat.mod_lt _ (by decide)),by omega,?_⟩,fun j hj=>by rw[List.getElem?_set_ne (by omega)];exact E5 j (by omega)⟩
    have hy':val 4294967296 (vs.take (i+1))=val 4294967296 (vs.take i)+4294967296^i*y:=by
     cases SJ:vs[i]? with
     | some d=>rw[aY SJ,h1 d SJ]
     |
      none =>
      have hle:=List.getElem?_eq_none_iff.1 SJ
      rw[h2 hle,jP hle,jP (by omega),Nat.mul_zero,Nat.add_zero]
    rw[aY G6,hy',eJ (by omega),Nat.pow_succ]
    exact EH hv rfl (Nat.mod_add_div _ _)
   by_cases bD:(i:Int)<(n2:Int)
   ·obtain⟨y,hy⟩:∃y,vs[i]? = some y:=⟨_,List.getElem?_eq_getElem (by omega)⟩
    have ly:=Gm y (List.mem_of_getElem? hy)
    have f1:bJ 1 (.ref b2 g2 0 n2 c2) (VI i) (H.set b (.row g ((pre++outs++post).map uV) 1 true))=some (.ptr b2 g2 i 0):=by rw[bB (rd2 outs) (by omega),Nat.zero_add]
    have f2:dN false 1 (.ptr b2 g2 i 0) (H.set b (.row g ((pre++outs++post).map uV) 1 true))=some (uV y):=iQ (rd2 outs) (by rw[zD i (by omega)];exact hy)
    have w3:IntKind.u64.wrap (y:Int)=(y:Int):=fH _ (by omega)
    have w4:IntKind.u64.wrap (((cy+x:Nat):Int)+(y:Int))=((cy+x+y:Nat):Int):=by rw[←Int.natCast_add];exact fH _ (by omega)
    obtain⟨⟨s1,s2,s3,s4,s5⟩,s6⟩:=step y ly (fun d hd=>by rw[hy] at hd;injection hd with hd;exact hd.symm) (fun h=>by omega)
    simp only[lJ,k0,k1,k7,k58,k59,cQ,bD,e1,e2,e3,e4,f1,f2,w1,w2,w3,w4,wii,wrap32,rO,VX,Nat.reduceEqDiff,Nat.reduceAdd]
    exact⟨(i+1,outs.set i ((cy+x+y) % 4294967296),(cy+x+y) / 4294967296),by simp only;omega,s1,rfl,s2,s3,s4,s5,s6,by (repeat' apply And.intro)<;>first | rfl | trivial⟩
   ·obtain⟨⟨s1,s2,s3,s4,s5⟩,s6⟩:=step 0 (by decide) (fun d hd=>by have:=(List.getElem?_eq_some_iff.1 hd).1;omega) (fun _=>rfl)
    simp only[Nat.add_zero] at s2 s3 s4 s5 s6
    simp only[lJ,k0,k1,k7,k58,k59,cQ,bD,e1,e2,e3,e4,w1,w2,wii,wrap32,rO,VX,Nat.reduceEqDiff,Nat.reduceAdd]
    exact⟨(i+1,outs.set i ((cy+x) % 4294967296),(cy+x) / 4294967296),by simp only;omega,s1,rfl,s2,s3,s4,s5,s6,by (repeat' apply And.intro)<;>first | rfl | trivial⟩
  ·have qR:i=L:=by omega
   subst qR
   rw[List.take_of_length_le (by omega),List.take_of_length_le (by omega),List.take_of_length_le (by omega)] at hv
   simp only[lJ,k0,k1,k7,k58,k59,cQ,VX,Nat.reduceEqDiff,Nat.reduceAdd]
   exact⟨outs,rfl,iK,lC,.inr ⟨abM,KH outs iK lC cy hv⟩⟩
 simp only[D1,BZ,e0 hr,VX,Nat.reduceEqDiff,Nat.reduceAdd]
 refine bC (fun(u:Nat×List Nat×Nat×Nat) ρ K=>u.1≤L∧K=H.set b (.row g ((pre++u.2.1++post).map uV) 1 true)∧u.2.1.length=L∧(∀d∈u.2.1,d<4294967296)∧u.2.2.1<4294967296∧u.2.2.2≤1∧val 4294967296 (iH.take u.1)+4294967296^u.1*(u.2.2.1+u.2.2.2)=val 4294967296 (u.2.1.take u.1)+t*val 4294967296 (vs.take u.1)∧(∀j,u.1≤j→u.2.1[j]? = iH[j]?) ∧
  ρ 0 = .ref b g o L c∧ρ 1 = .ref b2 g2 0 n2 c2∧ρ 2=VK .u64 t∧ρ 7=VK .u64 u.2.2.1∧ρ 8=VI u.2.2.2∧ρ 13=VI L∧ρ 14=VI u.1) (fun u=>L-u.1) (0,iH,0,0) ⟨Nat.zero_le _,(wB hr).symm,hL,Wc,by simp,by simp,by simp[val],fun _ _=>rfl,by (repeat' apply And.intro)<;>first | rfl | trivial⟩ ?_
 rintro⟨i,outs,cy,l⟩ ρ K ⟨hi,rfl,iK,lC,hc,Dg,hv,E5,k0,k1,k2,k7,k8,Bc,Cc⟩
 simp only at hi iK lC hc Dg hv E5 k7 k8 Cc
 by_cases cQ:(i:Int)<(L:Int)
 ·obtain⟨x,hx⟩:∃x,outs[i]? = some x:=⟨_,List.getElem?_eq_getElem (by omega)⟩
  have lx:=lC x (List.mem_of_getElem? hx)
  have G6:iH[i]? = some x:=by rw[←E5 i (Nat.le_refl _)];exact hx
  have e1:bJ 1 (.ref b g o L c) (VI i) (H.set b (.row g ((pre++outs++post).map uV) 1 true))=some (.ptr b g (o+i) 0):=bB (rd outs iK) (by omega)
  have e2:dN false 1 (.ptr b g (o+i) 0) (H.set b (.row g ((pre++outs++post).map uV) 1 true))=some (uV x):=iQ (rd outs iK) (by rw[NO ho (by omega)];exact hx)
  have e3:∀d:Nat,cR lo 1 (.ptr b g (o+i) 0) (uV d) (H.set b (.row g ((pre++outs++post).map uV) 1 true))=some (H.set b (.row g ((pre++outs.set i d++post).map uV) 1 true)):=fun d=>by
   rw[Xl (rd outs iK) ho (by omega) iC,lU]
  have e4:=e00 (rd2 outs)
  have wii:=wi i (by omega)
  have w1:IntKind.i64.wrap (x:Int)=(x:Int):=wrapN x rfl (by omega)
  have step:∀y c1,y<4294967296→c1=cy+t*y→(∀d,vs[i]? = some d→d=y)→(vs.length≤i→y=0) →
    c1 / 4294967296<4294967296∧IntKind.i64.wrap ((x:Int)-((c1 % 4294967296:Nat):Int)-(l:Int))=(x:Int)-((c1 % 4294967296:Nat):Int)-(l:Int)∧IntKind.i64.wrap ((x:Int)-((c1 % 4294967296:Nat):Int))=(x:Int)-((c1 % 4294967296:Nat):Int) ∧
    ∃r l',l'≤1∧((x:Int)-((c1 % 4294967296:Nat):Int)-(l:Int)<0↔l'=1)∧IntKind.u32.wrap ((x:Int)-((c1 % 4294967296:Nat):Int)-(l:Int))=((r:Nat):Int) ∧
    (i+1≤L∧(outs.set i r).length=L∧(∀d∈outs.set i r,d<4294967296)∧c1 / 4294967296<4294967296∧l'≤1∧val 4294967296 (iH.take (i+1))+4294967296^(i+1)*(c1 / 4294967296+l')=val 4294967296 ((outs.set i r).take (i+1))+t*val 4294967296 (vs.take (i+1))∧∀j,i+1≤j→(outs.set i r)[j]? = iH[j]?):=by
   intro y c1 hy hc1 h1 h2
   have hty:t*y≤4294967295*4294967295:=Nat.mul_le_mul (by omega) (by omega)
   have hm:=Nat.mod_lt c1 (show 0<4294967296 by decide)
   have hdv:=Nat.mod_add_div c1 4294967296
   have hq:c1 / 4294967296<4294967296:=Nat.div_lt_of_lt_mul (by omega)
   refine⟨hq,wrap64 (by omega) (by omega),wrap64 (by omega) (by omega),?_⟩
   obtain⟨r,l',zA,G7,hd,hlw,lD⟩:∃r l':Nat,l'≤1∧r<4294967296∧r+c1 % 4294967296+l=x+4294967296*l'∧IntKind.u32.wrap ((x:Int)-((c1 % 4294967296:Nat):Int)-(l:Int))=((r:Nat):Int)∧((x:Int)-((c1 % 4294967296:Nat):Int)-(l:Int)<0↔l'=1):=by
    by_cases hn:(x:Int)-((c1 % 4294967296:Nat):Int)-(l:Int)<0
    ·exact⟨x+4294967296-c1 % 4294967296-l,1,by omega,by omega,by omega,Le (by omega) hn (by omega),fun _=>rfl,fun _=>hn⟩
    ·exact⟨x-c1 % 4294967296-l,0,by omega,by omega,by omega,by rw[IntKind.wrap_u32];omega,fun h=>absurd h hn,fun h=>by omega⟩
   refine⟨r,l',zA,lD,hlw,by omega,by rw[List.length_set];exact iK,lO lC G7,hq,zA,?_,fun j hj=>by rw[List.getElem?_set_ne (by omega)];exact E5 j (by omega)⟩
   have hy':val 4294967296 (vs.take (i+1))=val 4294967296 (vs.take i)+4294967296^i*y:=by
    cases SJ:vs[i]? with
    | some d=>rw[aY SJ,h1 d SJ]
    |
     none =>
     have hle:=List.getElem?_eq_none_iff.1 SJ
     rw[h2 hle,jP hle,jP (by omega),Nat.mul_zero,Nat.add_zero]
   rw[aY G6,hy',eJ (by omega),Nat.pow_succ]
   have:=WX hv hc1 hdv.symm hd
   rw[this,Nat.mul_add,Nat.mul_left_comm t]
  by_cases bD:(i:Int)<(n2:Int)
  ·obtain⟨y,hy⟩:∃y,vs[i]? = some y:=⟨_,List.getElem?_eq_getElem (by omega)⟩
   have ly:=Gm y (List.mem_of_getElem? hy)
   have f1:bJ 1 (.ref b2 g2 0 n2 c2) (VI i) (H.set b (.row g ((pre++outs++post).map uV) 1 true))=some (.ptr b2 g2 i 0):=by rw[bB (rd2 outs) (by omega),Nat.zero_add]
   have f2:dN false 1 (.ptr b2 g2 i 0) (H.set b (.row g ((pre++outs++post).map uV) 1 true))=some (uV y):=iQ (rd2 outs) (by rw[zD i (by omega)];exact hy)
   have w3:IntKind.u64.wrap (y:Int)=(y:Int):=fH _ (by omega)
   have hty:t*y≤4294967295*4294967295:=Nat.mul_le_mul (by omega) (by omega)
   have w4:IntKind.u64.wrap ((t:Int)*(y:Int))=((t*y:Nat):Int):=by rw[←Int.natCast_mul];exact fH _ (by omega)
   have w5:IntKind.u64.wrap ((cy:Int)+((t*y:Nat):Int))=((cy+t*y:Nat):Int):=by rw[←Int.natCast_add];exact fH _ (by omega)
   have w6:IntKind.i64.wrap (((cy+t*y) % 4294967296:Nat):Int)=(((cy+t*y) % 4294967296:Nat):Int):=wrapN _ rfl (by omega)
   obtain⟨_,a1,a2,r,l',zA,lD,hw,s1,s2,s3,s4,s5,s6,s7⟩:=step y (cy+t*y) ly rfl (fun d hd=>by rw[hy] at hd;injection hd with hd;exact hd.symm) (fun h=>by omega)
   by_cases hn:(x:Int)-(((cy+t*y) % 4294967296:Nat):Int)-(l:Int)<0
   ·have:=lD.1 hn
    subst this
    simp only[fQ,k0,k1,k2,k7,k8,Bc,Cc,cQ,bD,e1,e2,e3,e4,f1,f2,w1,w3,w4,w5,w6,a1,a2,hn,hw,wii,wrap32,rO,VX,Nat.reduceEqDiff,Nat.reduceAdd]
    exact⟨(i+1,outs.set i r,(cy+t*y) / 4294967296,1),by simp only;omega,s1,rfl,s2,s3,s4,s5,s6,s7,by (repeat' apply And.intro)<;>first | rfl | trivial⟩
   ·have:l'=0:=by
     have:l'≠1:=fun h=>hn (lD.2 h)
     omega
    subst this
    simp only[fQ,k0,k1,k2,k7,k8,Bc,Cc,cQ,bD,e1,e2,e3,e4,f1,f2,w1,w3,w4,w5,w6,a1,a2,hn,hw,wii,wrap32,rO,VX,Nat.reduceEqDiff,Nat.reduceAdd]
    exact⟨(i+1,outs.set i r,(cy+t*y) / 4294967296,0),by simp only;omega,s1,rfl,s2,s3,s4,s5,s6,s7,by (repeat' apply And.intro)<;>first | rfl | trivial⟩
  ·have w6:IntKind.i64.wrap ((cy % 4294967296:Nat):Int)=((cy % 4294967296:Nat):Int):=wrapN _ rfl (by omega)
   obtain⟨_,a1,a2,r,l',zA,lD,hw,s1,s2,s3,s4,s5,s6,s7⟩:=step 0 cy (by decide) (by simp) (fun d hd=>by have:=(List.getElem?_eq_some_iff.1 hd).1;omega) (fun _=>rfl)
   by_cases hn:(x:Int)-((cy % 4294967296:Nat):Int)-(l:Int)<0
   ·have:=lD.1 hn
    subst this
    simp only[fQ,k0,k1,k2,k7,k8,Bc,Cc,cQ,bD,e1,e2,e3,e4,w1,w6,a1,a2,hn,hw,wii,wrap32,rO,VX,Nat.reduceEqDiff,Nat.reduceAdd]
    exact⟨(i+1,outs.set i r,cy / 4294967296,1),by simp only;omega,s1,rfl,s2,s3,s4,s5,s6,s7,by (repeat' apply And.intro)<;>first | rfl | trivial⟩
   ·have:l'=0:=by
     have:l'≠1:=fun h=>hn (lD.2 h)
     omega
    subst this
    simp only[fQ,k0,k1,k2,k7,k8,Bc,Cc,cQ,bD,e1,e2,e3,e4,w1,w6,a1,a2,hn,hw,wii,wrap32,rO,VX,Nat.reduceEqDiff,Nat.reduceAdd]
    exact⟨(i+1,outs.set i r,cy / 4294967296,0),by simp only;omega,s1,rfl,s2,s3,s4,s5,s6,s7,by (repeat' apply And.intro)<;>first | rfl | trivial⟩
 ·have qR:i=L:=by omega
  subst qR
  rw[List.take_of_length_le (by omega),List.take_of_length_le (by omega),List.take_of_length_le (by omega)] at hv
  have ahN:=oM lC
  rw[iK] at ahN
  by_cases hz:l=0∧cy=0
  ·obtain⟨rfl,rfl⟩:=hz
   simp only[fQ,k0,k1,k2,k7,k8,Bc,Cc,cQ,Int.natCast_zero,VX,Nat.reduceEqDiff,Nat.reduceAdd]
   exact⟨outs,rfl,iK,lC,.inl (by simpa using hv.symm)⟩
  ·have V9:cy+l=1:=by
    rcases Ye hv ahN hVL xB with h | h<;>omega
   rw[V9,Nat.mul_one] at hv
   have abM:val 4294967296 iH<t*val 4294967296 vs:=by omega
   have fin:∀s2:List Nat,s2.length=i→(∀d∈s2,d<4294967296)→∀c,val 4294967296 outs+val 4294967296 vs=val 4294967296 s2+4294967296^i*c→val 4294967296 s2+t*val 4294967296 vs=val 4294967296 iH+val 4294967296 vs:=by
    intro s2 h2 h3 c h4
    have h5:=oM h3
    rw[h2] at h5
    exact Xn hv h4 h5 hVL xB Oh (by omega)
   have hlen:=e0 (rd outs iK)
   by_cases zX:(l:Int)=0
   ·have hcy:¬(cy:Int)=0:=by omega
    simp only[fQ,k0,k1,k2,k7,k8,Bc,Cc,cQ,zX,hcy,hlen,VX,Nat.reduceEqDiff,Nat.reduceAdd]
    exact back _ outs iK lC fin abM k0 k1 (by rfl) (by rfl) (by rfl)
   ·simp only[fQ,k0,k1,k2,k7,k8,Bc,Cc,cQ,zX,hlen,VX,Nat.reduceEqDiff,Nat.reduceAdd]
    exact back _ outs iK lC fin abM k0 k1 (by rfl) (by rfl) (by rfl)
end Go.PM