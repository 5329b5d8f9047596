/- Texts of a claim, in one: part 8. -/
import Derived.Test.YtjmflicajplclaaGreatDoorKDg
open And renaming intro → aL1
open Int renaming natCast_add → aMq,tdiv_eq_ediv_of_nonneg → aMv,tmod_eq_emod_of_nonneg → aMu,toNat_natCast → aLH
open List renaming append_assoc → aL7,append_nil → aLt,drop_eq_getElem_cons → aKq,drop_length → aMo,drop_replicate → aME,drop_zero → aLx,getD_eq_getElem?_getD → aKi,getElem?_eq_getElem → aKs,getElem?_eq_none → aKL,getElem?_eq_none_iff → aMy,getElem?_eq_some_iff → aKk,getElem?_set_ne → aKK,length_append → aKw,length_cons → aKv,length_nil → aLY,length_replicate → aMa,length_set → aMk,length_singleton → aMw,map_append → aMG,mem_of_getElem? → aLf,mem_of_mem_take → aLi,replicate → aLb,take_left' → aMH,take_length → aLy,take_of_length_le → aLe,take_replicate → aMB
open Nat renaming add_mul → aKQ,add_zero → aMA,div_div_eq_div_mul → aMs,div_eq_of_lt → aLS,div_lt_iff_lt_mul → aMF,div_lt_of_lt_mul → aMD,le_of_ble_eq_true → aL9,le_refl → aKl,lt_or_ge → aKo,mod_add_div → aMn,mod_eq_of_lt → aLP,mod_lt → aKN,mul_assoc → aMx,mul_comm → aLN,mul_le_mul → aMC,mul_le_mul_right → aKM,mul_zero → aMz,pow_add → aMt,pow_le_pow_right → aMp,pow_succ → aLM,pow_zero → aMr,zero_add → aLT,zero_le → aKP
set_option linter.unusedSimpArgs false
set_option linter.unusedVariables false
namespace Go.PM
theorem pE (n:Nat) (h:n<18446744073709551616):TC 139 [VK .u64 n] (bN n):=by
 refine TC.walk ⟨true,false⟩ SG rfl (aL9 rfl) rfl (tL _) ?_
 have e1:=aiD (H:=[]) (z:=[.int .u32 0]) (u:=uV (n % 4294967296)) (v:=uV (n / 4294967296 % 4294967296)) rfl rfl rfl rfl rfl
 have hm:∀d∈[n % 4294967296,n / 4294967296 % 4294967296],d<4294967296:=by
  intro d hd
  simp only[List.mem_cons,List.not_mem_nil,or_false] at hd
  rcases hd with rfl | rfl<;>exact aKN _ (by decide)
 have hv:val 4294967296 [n % 4294967296,n / 4294967296 % 4294967296]=n:=by
  simp only[val]
  have:=aMn n 4294967296
  rw[aLP (show n / 4294967296<4294967296 by omega)]
  omega
 simp only[NQ,J8,wrap32,qV,e1,VX,Nat.reduceEqDiff,Nat.reduceAdd]
 refine OJ (ds:=[n % 4294967296,n / 4294967296 % 4294967296]) (t := .cl 1) hm (by show 2≤70368744177664;decide) hv fun t' ht => ?_
 simp only[VX,Nat.reduceEqDiff,Nat.reduceAdd]
 exact asT ht
theorem CM (n:Nat) (hn:(aD 4294967296 n).length≤17592186044416):TC 193 [bN n] (if (aD 4294967296 n).length≤2 then .dU [VK .u64 n,VB true] else .dU [VK .u64 0,VB false]):=by
 refine TC.walk ⟨true,false⟩ HP rfl (aL9 rfl) (by simp[aO,bT]) (by split<;>rfl) ?_
 have hv:=cI (b:=4294967296) (by decide) n
 have hl:=gF (b:=4294967296) (by decide) n
 unfold bN C6
 generalize aD 4294967296 n=ds at *
 have w1:IntKind.i64.wrap ((ds.length:Int)-1)=(ds.length:Int)-1:=wrap64 (by omega) (by omega)
 simp only[C0,AQ,w1,VX,Nat.reduceEqDiff,Nat.reduceAdd]
 by_cases h2:ds.length≤2
 ·rw[if_pos h2]
  have c2:(ds.length:Int)≤2:=by omega
  refine aR (fun(j:Nat) ρ H=>j≤ds.length∧H=[]∧ρ 0=aC uV ds∧ρ 4=VK .u64 (val 4294967296 (ds.drop j):Nat)∧ρ 5=VI ((j:Int)-1)) (fun j=>j) ds.length ⟨aKl _,rfl,rfl,by rw[aMo];rfl,rfl⟩ ?_
  rintro j ρ H ⟨hj,rfl,g0,g4,g5⟩
  by_cases hz:(0:Int)≤(j:Int)-1
  ·obtain⟨i,rfl⟩:∃i,j=i+1:=⟨j-1,by omega⟩
   obtain⟨x,hx⟩:∃x,ds[i]? = some x:=⟨_,aKs (by omega)⟩
   have DV:((i+1:Nat):Int)-1=(i:Int):=by omega
   rw[DV] at g5 hz
   have e1:=aI (f:=uV) (t := .op) (H:=[]) (size:=1) (k := .i64) hx rfl
   have lx:=hl x (aLf hx)
   have ld:=rI (b:=4294967296) (xs:=ds.drop (i+1)) fun d hd=>hl d (List.mem_of_mem_drop hd)
   have hle:(ds.drop (i+1)).length≤1:=by rw[List.length_drop];omega
   have hpw:4294967296^(ds.drop (i+1)).length≤4294967296^1:=aMp (by decide) hle
   rw[Nat.pow_one] at hpw
   have w2:IntKind.i64.wrap ((i:Int)-1)=(i:Int)-1:=wrap64 (by omega) (by omega)
   have w3:IntKind.u64.wrap (x:Int)=(x:Int):=eT _ (by omega)
   have w4:IntKind.u64.wrap (((val 4294967296 (ds.drop (i+1))*4294967296:Nat):Int)+(x:Int))=((val 4294967296 (ds.drop i):Nat):Int):=by
    rw[wT hx,←aMq,eT _ (by omega)]
    congr 1
    omega
   have w5:=Gz (val 4294967296 (ds.drop (i+1))) .u64 (by omega)
   simp only[nL,g0,g4,g5,hz,c2,e1,w2,w3,w4,w5,VX,Nat.reduceEqDiff,Nat.reduceAdd]
   exact⟨i,by omega,by omega,by (repeat' apply aL1)<;>first | rfl | trivial⟩
  ·have XU:j=0:=by omega
   subst XU
   rw[aLx,hv] at g4
   simp only[nL,g0,g4,g5,hz,c2,VX,Nat.reduceEqDiff,Nat.reduceAdd]
   exact aH rfl
 ·rw[if_neg h2]
  have c2:¬(ds.length:Int)≤2:=by omega
  have c3:(0:Int)≤(ds.length:Int)-1:=by omega
  refine aR (fun(j:Nat) ρ H=>H=[]∧ρ 0=aC uV ds∧ρ 4=VK .u64 0∧ρ 5=VI ((ds.length:Int)-1)) (fun j=>j) 0 ⟨rfl,rfl,rfl,rfl⟩ ?_
  rintro j ρ H ⟨rfl,g0,g4,g5⟩
  simp only[nL,g0,g4,g5,c2,c3,VX,Nat.reduceEqDiff,Nat.reduceAdd]
  exact aH rfl
theorem lK (a b:Nat) (ha:(aD 4294967296 a).length≤17592186044416) (hb:(aD 4294967296 b).length≤17592186044416):TC 142 [bN a,bN b] (VI (fW a b)):=by
 refine TC.walk ⟨true,false⟩ Kk rfl (aL9 rfl) (by simp[aO,bT]) rfl ?_
 have fin:∀ {x:Int},x=fW a b→fz depth [] (VI x)=some (VI (fW a b)):=fun h=>by rw[h];exact aH rfl
 unfold bN C6
 by_cases hl:(((aD 4294967296 a).length:Nat):Int)=(((aD 4294967296 b).length:Nat):Int)
 ·have EZ:(aD 4294967296 a).length=(aD 4294967296 b).length:=by omega
  have w1:IntKind.i64.wrap ((((aD 4294967296 b).length:Nat):Int)-1)=(((aD 4294967296 b).length:Nat):Int)-1:=wrap64 (by omega) (by omega)
  simp only[vJ,sE,hl,w1,VX,Nat.reduceEqDiff,Nat.reduceAdd]
  refine aR (fun(j:Nat) ρ H=>j≤(aD 4294967296 b).length∧H=[]∧(aD 4294967296 a).drop j=(aD 4294967296 b).drop j∧ρ 0=aC uV (aD 4294967296 a)∧ρ 1=aC uV (aD 4294967296 b)∧ρ 5=VI ((j:Int)-1)) (fun j=>j) (aD 4294967296 b).length ⟨aKl _,rfl,by rw[aMo,←EZ,aMo],rfl,rfl,rfl⟩ ?_
  rintro j ρ H ⟨hj,rfl,hd,h0,h1,h5⟩
  by_cases hz:(0:Int)≤(j:Int)-1
  ·obtain⟨i,rfl⟩:∃i,j=i+1:=⟨j-1,by omega⟩
   obtain⟨x,hx⟩:∃x,(aD 4294967296 a)[i]? = some x:=⟨_,aKs (by omega)⟩
   obtain⟨y,hy⟩:∃y,(aD 4294967296 b)[i]? = some y:=⟨_,aKs (by omega)⟩
   have DV:((i+1:Nat):Int)-1=(i:Int):=by omega
   have e1:=aI (f:=uV) (t := .op) (H:=[]) (size:=1) (k := .i64) hx rfl
   have e2:=aI (f:=uV) (t := .op) (H:=[]) (size:=1) (k := .i64) hy rfl
   rw[DV] at h5 hz
   have w2:IntKind.i64.wrap ((i:Int)-1)=(i:Int)-1:=wrap64 (by omega) (by omega)
   by_cases CB:(x:Int)=(y:Int)
   ·simp only[mW,h0,h1,h5,hz,e1,e2,CB,w2,VX,Nat.reduceEqDiff,Nat.reduceAdd]
    have azA:x=y:=by omega
    subst azA
    refine⟨i,by omega,by omega,?_⟩
    obtain⟨g1,g2⟩:=aKk.1 hx
    obtain⟨g3,g4⟩:=aKk.1 hy
    rw[aKq g1,aKq g3,g2,g4,hd]
    exact⟨rfl,rfl⟩
   ·by_cases bF:(x:Int)<(y:Int)
    ·simp only[mW,h0,h1,h5,hz,e1,e2,CB,bF,VX,Nat.reduceEqDiff,Nat.reduceAdd]
     refine fin ?_
     have:=Gt (gF (by decide) a) EZ hx hy hd (by omega)
     rw[cI (by decide),cI (by decide)] at this
     simp[fW,this]
    ·simp only[mW,h0,h1,h5,hz,e1,e2,CB,bF,VX,Nat.reduceEqDiff,Nat.reduceAdd]
     refine fin ?_
     have:=Gt (gF (by decide) b) EZ.symm hy hx hd.symm (by omega)
     rw[cI (by decide),cI (by decide)] at this
     rw[fW,if_neg (by omega),if_neg (by omega)]
  ·have XU:j=0:=by omega
   subst XU
   simp only[mW,h0,h1,h5,hz,VX,Nat.reduceEqDiff,Nat.reduceAdd]
   refine fin ?_
   have:=UE (b:=4294967296) (by decide) (by simpa using hd)
   subst this
   simp[fW]
 ·by_cases bF:(((aD 4294967296 a).length:Nat):Int)<(((aD 4294967296 b).length:Nat):Int)
  ·simp only[vJ,sE,hl,bF,VX,Nat.reduceEqDiff,Nat.reduceAdd]
   refine fin ?_
   have:=GK (b:=4294967296) (by decide) (m:=a) (n:=b) (by omega)
   simp[fW,this]
  ·simp only[vJ,sE,hl,bF,VX,Nat.reduceEqDiff,Nat.reduceAdd]
   refine fin ?_
   have:=GK (b:=4294967296) (by decide) (m:=b) (n:=a) (by omega)
   rw[fW,if_neg (by omega),if_neg (by omega)]
end Go.PM
namespace Go.PM
section
variable {b:Nat}
theorem KN (hb:2≤b) (n i:Nat):(aD b n).getD i 0=n / b^i % b:=by
 induction i generalizing n with
 |
  zero =>
  by_cases h:n=0
  ·subst h;simp[cD]
  ·rw[kO hb h,List.getD_cons_zero,aMr,Nat.div_one]
 |
  succ i ih =>
  by_cases h:n=0
  ·subst h;simp[cD]
  ·rw[kO hb h,List.getD_cons_succ,ih,aMs,aLM,aLN b]
theorem GM (hb:2≤b) {n i:Nat}:i<(aD b n).length↔n / b^i≠0:=by
 induction i generalizing n with
 |
  zero =>
  rw[aMr,Nat.div_one,List.length_pos_iff]
  exact not_congr (oF hb)
 |
  succ i ih =>
  by_cases h:n=0
  ·subst h;simp[cD]
  ·rw[kO hb h,aKv,Nat.add_lt_add_iff_right,ih,aMs,aLM,aLN b]
theorem OZ (hb:2≤b) {n i:Nat} (h:i<(aD b n).length):(aD b n)[i]? = some (n / b^i % b):=by
 rw[←KN hb,aKi,aKs h]
 rfl
theorem abW (hb:2≤b) (n i:Nat):(aD b n).drop i=aD b (n / b^i):=by
 induction i generalizing n with
 | zero=>simp
 |
  succ i ih =>
  by_cases h:n=0
  ·subst h;simp[cD]
  ·rw[kO hb h,List.drop_succ_cons,ih,aMs,aLM,aLN b]
theorem wJ (n i:Nat):n / b^(i+1)=n / b^i / b:=by rw[aMs,aLM]
theorem HE (xs:List Nat) (i:Nat):val b (xs.take (i+1))=val b (xs.take i)+b^i*xs.getD i 0:=by
 by_cases h:i<xs.length
 ·rw[bE (aKs h),aKi,aKs h]
  rfl
 ·rw[lE (by omega),lE (by omega),aKi,aKL (by omega)]
  simp
theorem R1 (hb:2≤b) {n d q:Nat} (hn:n≠0) (h:n=d+b*q) (hd:d<b):aD b n=d::aD b q:=by
 rw[kO hb hn,h,Nat.add_mul_mod_self_left,aLP hd,Nat.add_mul_div_left _ _ (by omega),aLS hd,aLT]
theorem aaU (hb:2≤b) {x y c:Nat} (h:x+y+c≠0):aD b (x+y+c)=(x % b+y % b+c) % b::aD b (x / b+y / b+(x % b+y % b+c) / b):=by
 refine R1 hb h ?_ (aKN _ (by omega))
 have h1:=aMn x b
 have h2:=aMn y b
 have h3:=aMn (x % b+y % b+c) b
 have e:b*(x / b+y / b+(x % b+y % b+c) / b)=b*(x / b)+b*(y / b)+b*((x % b+y % b+c) / b):=by grind
 omega
theorem acS (hb:2≤b) {x d c:Nat} (h:x*d+c≠0):aD b (x*d+c)=(x % b*d+c) % b::aD b (x / b*d+(x % b*d+c) / b):=by
 refine R1 hb h ?_ (aKN _ (by omega))
 have h1:=aMn x b
 have h3:=aMn (x % b*d+c) b
 have e:b*(x / b*d+(x % b*d+c) / b)=b*(x / b)*d+b*((x % b*d+c) / b):=by grind
 have e2:x*d=x % b*d+b*(x / b)*d:=by
  conv=>lhs;rw[←h1,aKQ]
 omega
theorem Te (hb:2≤b) {m n k:Nat} (hm:(aD b m).length≤k) (hn:(aD b n).length≤k):(aD b (m+n)).length≤k+1:=by
 refine oN hb ?_
 have y1:=iO hb m
 have y2:=iO hb n
 have y3:b^(aD b m).length≤b^k:=aMp (by omega) hm
 have y4:b^(aD b n).length≤b^k:=aMp (by omega) hn
 have y5:b^k*2≤b^k*b:=Nat.mul_le_mul_left _ hb
 rw[aLM]
 omega
theorem Tt (hb:2≤b) (m n:Nat):(aD b (m*n)).length≤(aD b m).length+(aD b n).length:=by
 refine oN hb ?_
 rw[aMt]
 exact Nat.mul_lt_mul'' (iO hb m) (iO hb n)
theorem F7 (hb:2≤b) {c:Nat} (h:c≠0) (hc:c<b):aD b c=[c]:=by
 rw[kO hb h,aLP hc,aLS hc,cD]
end
end Go.PM
namespace Go.PM
abbrev tV (d:Nat):VV:=VI (d:Int)
abbrev jJ (ds:List Nat):VV:=aC tV ds
def bW (n:Nat):VV:=jJ (aD 1000000000 n)
theorem IH:∀d:Nat,(aB (tV d)).length=1:=fun _=>rfl
theorem AT (ds:List Nat):aX (jJ ds)=true:=mN IH fun _=>rfl
theorem acG (ds:List Nat):gW (jJ ds)=true:=zC IH (fun _=>rfl) fun _=>rfl
theorem cG (n:Nat):aX (bW n)=true:=AT _
theorem pR (n:Nat):gW (bW n)=true:=acG _
theorem KO:bW 0 = .tree [] .op:=by rw[bW,cD];rfl
theorem ajE:bW 1=jJ [1]:=by rw[bW,kO (by decide) (by decide),cD]
theorem cL (n:Nat) {H:aA}:rC (bW n) H=some (VI (aD 1000000000 n).length):=eR
section
variable {α:Type} {f:α→VV} {xs:List α} {x:α} {H:aA}
theorem Nu {g e:Nat} {es:List VV} {w:Bool}:aG [.row g es e w] 0 g=some (es,e,w):=aT
theorem aD6 {e bytes:Nat} (he:1≤e) (hb:1≤bytes) (DO:(xs.length+1)*bytes≤140737488355328):dI 0 e bytes (.ref 0 xs.length 0 xs.length xs.length) [f x] [.row xs.length (xs.map f) e true]=some (.ref 0 (xs.length+1) 0 (xs.length+1) (xs.length+1),[.row (xs.length+1) ((xs++[x]).map f) e true]):=by
 rw[jU (f:=f) (x:=x) aT rfl (aKl _) he hb DO]
 rfl
theorem Vj {n g e:Nat} {w:Bool} (hp:∀x,aX (f x)=true) (hn:n=xs.length):fz depth [.row g (xs.map f) e w] (.ref 0 g 0 n n)=some (aC f xs):=HN aT (by simpa using hn) (aKl _) (fM hp)
end
theorem NO {lr:Bool}:oD lr [.int .i64 0] 0 [] []=some (.ref 0 0 0 0 0,[.row 0 (([]:List Nat).map tV) 1 true]):=mO (H:=[]) rfl
theorem wL {d:Int} {H:aA}:oD false [.int .i64 0] 1 [(0,VI d)] H=some (.tree [VI d] (.cl 1),H):=lS rfl rfl rfl
theorem zR {d:Int} {H:aA} {t:TK}:dF 1 (.tree [VI d] t) H=some [VI d]:=gS rfl rfl
theorem apD {ds:List Nat} {d:Nat} (h:ds.length<17592186044416):dI 0 1 8 (.ref 0 ds.length 0 ds.length ds.length) [VI (d:Int)] [.row ds.length (ds.map tV) 1 true]=some (.ref 0 (ds.length+1) 0 (ds.length+1) (ds.length+1),[.row (ds.length+1) ((ds++[d]).map tV) 1 true]):=aD6 (f:=tV) (by decide) (by decide) (by omega)
theorem RE (n:Nat):dK .rem (.int .i64 (n:Int)) (.int .i64 1000000000)=some (.int .i64 ((n % 1000000000:Nat):Int)):=by
 have h2:(n:Int).tmod 1000000000=((n % 1000000000:Nat):Int):=by rw[aMu (by omega)];simp
 simp only[dK,if_true,h2]
 rfl
theorem RM (n:Nat) (h:n≤9223372036854775807):dK .quo (.int .i64 (n:Int)) (.int .i64 1000000000)=some (.int .i64 ((n / 1000000000:Nat):Int)):=by
 have h2:(n:Int).tdiv 1000000000=((n / 1000000000:Nat):Int):=by rw[aMv (by omega)];simp
 simp only[dK,if_true,h2]
 rw[wrap64 (by omega) (by omega)]
 rfl
theorem wI (ds:List Nat) (h:∀d∈ds,d<1000000000) (hlen:ds.length≤70368744177664):TC 184 [jJ ds] (bW (val 1000000000 ds)):=by
 refine TC.walk ⟨true,false⟩ N7 rfl (aL9 rfl) (by simp[aO,AT]) (pR _) ?_
 simp only[J3,E9,VX,Nat.reduceEqDiff,Nat.reduceAdd]
 refine aR (fun(xs:List Nat) ρ H'=>(∀d∈xs,d<1000000000)∧val 1000000000 xs=val 1000000000 ds∧xs.length≤ds.length∧H'=[]∧ρ 0=jJ xs) (fun s=>s.length) ds ⟨h,rfl,aKl _,rfl,rfl⟩ ?_
 rintro xs ρ H' ⟨hx,hv,hl,rfl,h0⟩
 have done:xs.getLast? ≠ some 0→fz depth [] (jJ xs)=some (bW (val 1000000000 ds)):=fun gD=>by rw[bW,←hv,On (by decide) hx gD];exact aH (AT _)
 rcases Nat.eq_zero_or_pos xs.length with hz | hp
 ·have hxn:xs=[]:=List.length_eq_zero_iff.1 hz
  subst hxn
  simp only[uD,h0,Int.reduceLT,Int.natCast_zero,eR,aLY,VX,Nat.reduceEqDiff,Nat.reduceAdd]
  exact done (by simp)
 ·obtain⟨m,hm⟩:∃m,xs.length=m+1:=⟨xs.length-1,by omega⟩
  obtain⟨d,hd⟩:∃d,xs[m]? = some d:=⟨_,aKs (by omega)⟩
  have BJ:(0:Int)<((m+1:Nat):Int):=by omega
  have w1:IntKind.i64.wrap (((m+1:Nat):Int)-1)=(m:Int):=by rw[wrap64 (by omega) (by omega)];omega
  have e1:=aI (f:=tV) (t := .op) (H:=[]) (size:=1) (k := .i64) hd rfl
  by_cases ES:(d:Int)=0
  ·have hd1:d=0:=by omega
   subst hd1
   have e2:=L8 (f:=tV) (size:=1) (t := .op) (H:=[]) (k2 := .i64) (xs:=xs) (h:=m) IH (by omega) (by omega)
   have Wq:xs=xs.take m++[0]:=by
    have:=List.take_append_drop m xs
    have h3:=(aKk.1 hd)
    rw[aKq h3.1,h3.2,List.drop_of_length_le (by omega)] at this
    exact this.symm
   simp only[uD,h0,hm,BJ,w1,e1,e2,ES,eR,VX,Nat.reduceEqDiff,Nat.reduceAdd]
   refine⟨xs.take m,by simp only[List.length_take];omega,fun d hd=>hx d (aLi hd),?_,by simp only[List.length_take];omega,by first | rfl | exact⟨rfl,rfl⟩⟩
   rw[←hv]
   conv=>rhs;rw[Wq]
   rw[wM]
   simp
  ·simp only[uD,h0,hm,BJ,w1,e1,ES,eR,VX,Nat.reduceEqDiff,Nat.reduceAdd]
   exact done (Tp hm hd (by omega))
theorem Ke {outs:List Nat} {n g m:Nat} {lo:Nat} {w:Bool} {K:VV→aA→Prop} (hd:∀d∈outs,d<1000000000) (hn:n=outs.length) (hlen:outs.length≤70368744177664) (hm:val 1000000000 outs=m) (hk:K (bW m) (cZ [.row g (outs.map tV) 1 w] [0])) :
  dH 184 [.ref 0 g 0 n n] lo [.row g (outs.map tV) 1 w] K:=by
 subst hm
 rw[TC.asC (f:=tV) (wI outs hd hlen) aT hn (aKl _) IH (fun _=>rfl) rfl rfl]
 exact hk
theorem Vh {H:aA} (n:Nat):fz depth H (bW n)=some (bW n):=aH (cG n)
theorem tY (n:Int) (h1:n≤9223372036854775807):TC 178 [VI n] (bW n.toNat):=by
 refine TC.walk ⟨true,false⟩ Qa rfl (aL9 rfl) rfl (pR _) ?_
 simp only[Mx,Hw,NO,VX,Nat.reduceEqDiff,Nat.reduceAdd]
 refine aR (fun(s:Int×List Nat) ρ H=>s.1≤9223372036854775807∧H=[.row s.2.length (s.2.map tV) 1 true]∧s.2.length≤63∧s.1.toNat*2^s.2.length≤9223372036854775807∧aD 1000000000 n.toNat=s.2++aD 1000000000 s.1.toNat∧ρ 0=VI s.1∧ρ 3 = .ref 0 s.2.length 0 s.2.length s.2.length) (fun s=>s.1.toNat) (n,[]) ⟨h1,rfl,by simp,by simp only[aLY,aMr,Nat.mul_one];omega,rfl,rfl,rfl⟩ ?_
 rintro⟨m,ds⟩ ρ H ⟨hm,rfl,hl,bF,hd,g0,g3⟩
 simp only at hm hl bF hd g0 g3
 by_cases hp:(0:Int)<m
 ·obtain⟨k,rfl⟩:∃k:Nat,m=(k:Int):=⟨m.toNat,by omega⟩
  rw[aLH] at bF hd
  have hk0:k≠0:=by omega
  have JM:ds.length<63:=by
   rcases aKo ds.length 63 with h | h
   ·exact h
   ·have e:2^ds.length=9223372036854775808:=by rw[show ds.length=63 by omega]
    rw[e] at bF
    omega
  have r1:=RE k
  have q1:=RM k (by omega)
  have a1:=apD (ds:=ds) (d:=k % 1000000000) (by omega)
  simp only[Bm,g0,g3,hp,r1,q1,wL,zR,a1,VX,Nat.reduceEqDiff,Nat.reduceAdd]
  refine⟨(((k / 1000000000:Nat):Int),ds++[k % 1000000000]),?_,by simp only;omega,by simp,by simp;omega,?_,?_,rfl,by simp⟩
  ·simp only[aLH];exact Nat.div_lt_self (by omega) (by decide)
  ·simp only[aLH,aKw,aMw,aLM]
   have h1:k / 1000000000*2≤k:=by omega
   have:=aKM (2^ds.length) h1
   rw[aMx,aLN 2] at this
   omega
  ·simp only[aLH]
   rw[hd,kO (by decide) hk0,aL7]
   rfl
 ·have hz:m.toNat=0:=by omega
  rw[hz,cD,aLt] at hd
  simp only[Bm,g0,g3,hp,VX,Nat.reduceEqDiff,Nat.reduceAdd]
  rw[bW,hd]
  exact Vj (fun _=>rfl) rfl
theorem yX (a b:Nat) (ha:(aD 1000000000 a).length≤17592186044416) (hb:(aD 1000000000 b).length≤17592186044416):TC 155 [bW a,bW b] (VI (fW a b)):=by
 refine TC.walk ⟨true,false⟩ Qu rfl (aL9 rfl) (by simp[aO,cG]) rfl ?_
 have fin:∀ {x:Int},x=fW a b→fz depth [] (VI x)=some (VI (fW a b)):=fun h=>by rw[h];exact aH rfl
 unfold bW jJ
 by_cases hl:(((aD 1000000000 a).length:Nat):Int)=(((aD 1000000000 b).length:Nat):Int)
 ·have EZ:(aD 1000000000 a).length=(aD 1000000000 b).length:=by omega
  have w1:IntKind.i64.wrap ((((aD 1000000000 b).length:Nat):Int)-1)=(((aD 1000000000 b).length:Nat):Int)-1:=wrap64 (by omega) (by omega)
  simp only[BO,yU,hl,w1,VX,Nat.reduceEqDiff,Nat.reduceAdd]
  refine aR (fun(j:Nat) ρ H=>j≤(aD 1000000000 b).length∧H=[]∧(aD 1000000000 a).drop j=(aD 1000000000 b).drop j∧ρ 0=aC tV (aD 1000000000 a)∧ρ 1=aC tV (aD 1000000000 b)∧ρ 5=VI ((j:Int)-1)) (fun j=>j) (aD 1000000000 b).length ⟨aKl _,rfl,by rw[aMo,←EZ,aMo],rfl,rfl,rfl⟩ ?_
  rintro j ρ H ⟨hj,rfl,hd,h0,h1,h5⟩
  by_cases hz:(0:Int)≤(j:Int)-1
  ·obtain⟨i,rfl⟩:∃i,j=i+1:=⟨j-1,by omega⟩
   obtain⟨x,hx⟩:∃x,(aD 1000000000 a)[i]? = some x:=⟨_,aKs (by omega)⟩
   obtain⟨y,hy⟩:∃y,(aD 1000000000 b)[i]? = some y:=⟨_,aKs (by omega)⟩
   have DV:((i+1:Nat):Int)-1=(i:Int):=by omega
   have e1:=aI (f:=tV) (t := .op) (H:=[]) (size:=1) (k := .i64) hx rfl
   have e2:=aI (f:=tV) (t := .op) (H:=[]) (size:=1) (k := .i64) hy rfl
   rw[DV] at h5 hz
   have w2:IntKind.i64.wrap ((i:Int)-1)=(i:Int)-1:=wrap64 (by omega) (by omega)
   by_cases CB:(x:Int)=(y:Int)
   ·simp only[rD,h0,h1,h5,hz,e1,e2,CB,w2,VX,Nat.reduceEqDiff,Nat.reduceAdd]
    have azA:x=y:=by omega
    subst azA
    refine⟨i,by omega,by omega,?_⟩
    obtain⟨g1,g2⟩:=aKk.1 hx
    obtain⟨g3,g4⟩:=aKk.1 hy
    rw[aKq g1,aKq g3,g2,g4,hd]
    exact⟨rfl,rfl⟩
   ·by_cases bF:(x:Int)<(y:Int)
    ·simp only[rD,h0,h1,h5,hz,e1,e2,CB,bF,VX,Nat.reduceEqDiff,Nat.reduceAdd]
     refine fin ?_
     have:=Gt (gF (by decide) a) EZ hx hy hd (by omega)
     rw[cI (by decide),cI (by decide)] at this
     simp[fW,this]
    ·simp only[rD,h0,h1,h5,hz,e1,e2,CB,bF,VX,Nat.reduceEqDiff,Nat.reduceAdd]
     refine fin ?_
     have:=Gt (gF (by decide) b) EZ.symm hy hx hd.symm (by omega)
     rw[cI (by decide),cI (by decide)] at this
     rw[fW,if_neg (by omega),if_neg (by omega)]
  ·have XU:j=0:=by omega
   subst XU
   simp only[rD,h0,h1,h5,hz,VX,Nat.reduceEqDiff,Nat.reduceAdd]
   refine fin ?_
   have:=UE (b:=1000000000) (by decide) (by simpa using hd)
   subst this
   simp[fW]
 ·by_cases bF:(((aD 1000000000 a).length:Nat):Int)<(((aD 1000000000 b).length:Nat):Int)
  ·simp only[BO,yU,hl,bF,VX,Nat.reduceEqDiff,Nat.reduceAdd]
   refine fin ?_
   have:=GK (b:=1000000000) (by decide) (m:=a) (n:=b) (by omega)
   simp[fW,this]
  ·simp only[BO,yU,hl,bF,VX,Nat.reduceEqDiff,Nat.reduceAdd]
   refine fin ?_
   have:=GK (b:=1000000000) (by decide) (m:=b) (n:=a) (by omega)
   rw[fW,if_neg (by omega),if_neg (by omega)]
theorem MV (ds:List Nat) (i:Nat):TC 186 [jJ ds,VI (i:Int)] (tV (ds.getD i 0)):=by
 refine TC.walk ⟨true,false⟩ M0 rfl (aL9 rfl) (by simp[aO,AT];rfl) rfl ?_
 by_cases h:(i:Int)<(ds.length:Int)
 ·obtain⟨d,hd⟩:∃d,ds[i]? = some d:=⟨_,aKs (by omega)⟩
  have e1:=aI (f:=tV) (t := .op) (H:=[]) (size:=1) (k := .i64) hd rfl
  simp only[Cy,zY,eR,h,e1,VX,Nat.reduceEqDiff,Nat.reduceAdd]
  rw[aKi,hd]
  exact aH rfl
 ·simp only[Cy,zY,eR,h,VX,Nat.reduceEqDiff,Nat.reduceAdd]
  rw[aKi,aKL (by omega)]
  exact aH rfl
theorem Fy (n i:Nat):TC 186 [bW n,VI (i:Int)] (tV (n / 1000000000^i % 1000000000)):=by
 have:=MV (aD 1000000000 n) i
 rwa [KN (by decide)] at this
theorem KB (a b:Nat) (ha:(aD 1000000000 a).length<17592186044416) (hb:(aD 1000000000 b).length<17592186044416):TC 154 [bW a,bW b] (bW (a+b)):=by
 refine TC.walk ⟨true,false⟩ Ls rfl (aL9 rfl) (by simp[aO,cG]) (pR _) ?_
 simp only[F0,Dv,NO,VX,Nat.reduceEqDiff,Nat.reduceAdd]
 have hL:=Te (b:=1000000000) (by decide) (m:=a) (n:=b) (k:=17592186044416-1) (by omega) (by omega)
 refine aR (fun(s:Nat×List Nat×Nat) ρ H=>s.1=s.2.1.length∧H=[.row s.2.1.length (s.2.1.map tV) 1 true]∧s.2.2≤1∧aD 1000000000 (a+b)=s.2.1++aD 1000000000 (a / 1000000000^s.1+b / 1000000000^s.1+s.2.2)∧ρ 0=bW a∧ρ 1=bW b∧ρ 5 = .ref 0 s.2.1.length 0 s.2.1.length s.2.1.length∧ρ 6=VI s.2.2∧ρ 7=VI s.1)
  (fun s=>(aD 1000000000 (a+b)).length-s.1) (0,[],0) ⟨rfl,rfl,by simp,by simp,rfl,rfl,rfl,rfl,rfl⟩ ?_
 rintro⟨i,ds,c⟩ ρ H ⟨hi,rfl,hc,hd,g0,g1,g5,g6,g7⟩
 simp only at hi hc hd g5 g6 g7
 have la:=GM (b:=1000000000) (by decide) (n:=a) (i:=i)
 have lb:=GM (b:=1000000000) (by decide) (n:=b) (i:=i)
 have c1:=Fy a i
 have c2:=Fy b i
 have m1:=aKN (a / 1000000000^i) (show 0<1000000000 by decide)
 have m2:=aKN (b / 1000000000^i) (show 0<1000000000 by decide)
 have hd':a / 1000000000^i+b / 1000000000^i+c≠0→aD 1000000000 (a+b)=ds++(a / 1000000000^i % 1000000000+b / 1000000000^i % 1000000000+c) % 1000000000::aD 1000000000 (a / 1000000000^(i+1)+b / 1000000000^(i+1)+(a / 1000000000^i % 1000000000+b / 1000000000^i % 1000000000+c) / 1000000000):=fun h=>by
  rw[hd,aaU (by decide) h,wJ,wJ]
 generalize a / 1000000000^i=A at *
 generalize b / 1000000000^i=B at *
 by_cases Oe:A+B+c=0
 ·have h1:¬(i:Int)<((aD 1000000000 a).length:Int):=by omega
  have h2:¬(i:Int)<((aD 1000000000 b).length:Int):=by omega
  have h3:¬(0:Int)<(c:Int):=by omega
  simp only[mY,g0,g1,g5,g6,g7,cL,h1,h2,h3,VX,Nat.reduceEqDiff,Nat.reduceAdd]
  rw[Oe,cD,aLt] at hd
  rw[bW,hd]
  exact Vj (fun _=>rfl) rfl
 ·have hdn:=hd' Oe
  have bF:i<(aD 1000000000 (a+b)).length:=by
   rw[hdn,aKw,aKv]
   omega
  have w1:IntKind.i64.wrap (((A % 1000000000:Nat):Int)+((B % 1000000000:Nat):Int))=((A % 1000000000+B % 1000000000:Nat):Int):=wrapN _ (by omega) (by omega)
  have w2:IntKind.i64.wrap (((A % 1000000000+B % 1000000000:Nat):Int)+(c:Int))=((A % 1000000000+B % 1000000000+c:Nat):Int):=wrapN _ (by omega) (by omega)
  have wi:IntKind.i64.wrap ((i:Int)+1)=((i+1:Nat):Int):=wrapN (i+1) (by omega) (by omega)
  have r1:=RE (A % 1000000000+B % 1000000000+c)
  have q1:=RM (A % 1000000000+B % 1000000000+c) (by omega)
  have a1:=apD (ds:=ds) (d:=(A % 1000000000+B % 1000000000+c) % 1000000000) (by omega)
  have azG:aD 1000000000 (a+b)=(ds++[(A % 1000000000+B % 1000000000+c) % 1000000000])++aD 1000000000 (a / 1000000000^(i+1)+b / 1000000000^(i+1)+(A % 1000000000+B % 1000000000+c) / 1000000000):=by rw[hdn,aL7];rfl
  by_cases h1:(i:Int)<((aD 1000000000 a).length:Int)
  ·simp only[mY,g0,g1,g5,g6,g7,cL,h1,c1,c2,w1,w2,wi,r1,q1,wL,zR,a1,VX,Nat.reduceEqDiff,Nat.reduceAdd]
   refine⟨(i+1,ds++[(A % 1000000000+B % 1000000000+c) % 1000000000],(A % 1000000000+B % 1000000000+c) / 1000000000),by simp only;omega,by simp;omega,by simp,by simp only;omega,azG,?_⟩
   simp only[aKw,aMw]
   try (repeat' apply aL1)<;>first | rfl | trivial
  ·by_cases h2:(i:Int)<((aD 1000000000 b).length:Int)
   ·simp only[mY,g0,g1,g5,g6,g7,cL,h1,h2,c1,c2,w1,w2,wi,r1,q1,wL,zR,a1,VX,Nat.reduceEqDiff,Nat.reduceAdd]
    refine⟨(i+1,ds++[(A % 1000000000+B % 1000000000+c) % 1000000000],(A % 1000000000+B % 1000000000+c) / 1000000000),by simp only;omega,by simp;omega,by simp,by simp only;omega,azG,?_⟩
    simp only[aKw,aMw]
    try (repeat' apply aL1)<;>first | rfl | trivial
   ·have h3:(0:Int)<(c:Int):=by omega
    simp only[mY,g0,g1,g5,g6,g7,cL,h1,h2,h3,c1,c2,w1,w2,wi,r1,q1,wL,zR,a1,VX,Nat.reduceEqDiff,Nat.reduceAdd]
    refine⟨(i+1,ds++[(A % 1000000000+B % 1000000000+c) % 1000000000],(A % 1000000000+B % 1000000000+c) / 1000000000),by simp only;omega,by simp;omega,by simp,by simp only;omega,azG,?_⟩
    simp only[aKw,aMw]
    try (repeat' apply aL1)<;>first | rfl | trivial
end Go.PM
namespace Go.PM
theorem kV {es:List VV} {g e:Nat} {w:Bool}:aG [.row g es e w] 0 g=some (es,e,w):=aT
theorem WG {x y:Nat} {ρ:cT} {Q:VQ} (hx:(aD 4294967296 x).length≤17592186044416) (hl:(aD 4294967296 y).length≤(aD 4294967296 x).length) (h0:ρ 0=bN x) (h1:ρ 1=bN y) (h5:ρ 5 = .ref 0 0 0 ((aD 4294967296 x).length+1) ((aD 4294967296 x).length+1)) (h6:ρ 6=VK .u64 0) (h20:ρ 20=VI (aD 4294967296 x).length) (h21:ρ 21=VI 0)
  (hQ:∀(aP:cT) (outs:List Nat) (c:Nat),aP 0=bN x→aP 5 = .ref 0 0 0 ((aD 4294967296 x).length+1) ((aD 4294967296 x).length+1)→aP 6=VK .u64 (c:Nat)→outs.length=(aD 4294967296 x).length+1→(∀d∈outs,d<4294967296)→c≤1→x+y=val 4294967296 (outs.take (aD 4294967296 x).length)+4294967296^(aD 4294967296 x).length*c→Q (.exit 0) aP [.row 0 (outs.map uV) 1 true]) :
  VW ⟨true,false⟩ 0 (.loop mU) Q ρ [.row 0 ((aLb ((aD 4294967296 x).length+1) 0).map uV) 1 true]:=by
 unfold bN at h0 h1 hQ
 have vx:=cI (b:=4294967296) (by decide) x
 have vy:=cI (b:=4294967296) (by decide) y
 have lx:=gF (b:=4294967296) (by decide) x
 have ly:=gF (b:=4294967296) (by decide) y
 generalize aD 4294967296 x=xs at *
 generalize aD 4294967296 y=ys at *
 refine aR (fun(s:Nat×List Nat×Nat) ρ H=>s.1≤xs.length∧H=[.row 0 (s.2.1.map uV) 1 true]∧s.2.1.length=xs.length+1∧(∀d∈s.2.1,d<4294967296)∧s.2.2≤1∧val 4294967296 (xs.take s.1)+val 4294967296 (ys.take s.1)=val 4294967296 (s.2.1.take s.1)+4294967296^s.1*s.2.2 ∧
  ρ 0=C6 xs∧ρ 1=C6 ys∧ρ 5 = .ref 0 0 0 (xs.length+1) (xs.length+1)∧ρ 6=VK .u64 s.2.2∧ρ 20=VI xs.length∧ρ 21=VI s.1) (fun s=>xs.length-s.1) (0,aLb (xs.length+1) 0,0) ?_ ?_
 ·exact⟨aKP _,rfl,by simp,Cx (by decide) _,by simp,by simp[val],h0,h1,h5,h6,h20,h21⟩
 ·rintro⟨i,outs,c⟩ ρ H ⟨hi,rfl,iA,nI,hc,hv,g0,g1,g5,g6,g20,g21⟩
  simp only at hi iA nI hc hv g6 g21
  by_cases bX:(i:Int)<(xs.length:Int)
  ·obtain⟨a,ha⟩:∃a,xs[i]? = some a:=⟨_,aKs (by omega)⟩
   have la:=lx a (aLf ha)
   have e1:=aI (f:=uV) (t := .op) (H:=[.row 0 (outs.map uV) 1 true]) (size:=1) (k := .i64) ha rfl
   have w1:IntKind.u64.wrap (a:Int)=(a:Int):=eT _ (by omega)
   have w2:IntKind.u64.wrap ((c:Int)+(a:Int))=((c+a:Nat):Int):=by rw[←aMq];exact eT _ (by omega)
   have wi:IntKind.i64.wrap ((i:Int)+1)=((i+1:Nat):Int):=wrapN (i+1) (by omega) (by omega)
   have e3:=bA (H:=[.row 0 (outs.map uV) 1 true]) (b:=0) (g:=0) (o:=0) (n:=xs.length+1) (c:=xs.length+1) (i:=i) (k := .i64) kV (by omega)
   have e4:∀s:Nat,bK 0 1 (.ptr 0 0 i 0) (uV s) [.row 0 (outs.map uV) 1 true]=some [.row 0 ((outs.set i s).map uV) 1 true]:=fun s=>by
    rw[dN (f:=uV) (e:=1) kV (by omega) (aKl _) rfl rfl]
    rfl
   have step:∀b,b<4294967296→(∀d,ys[i]? = some d→d=b)→(ys.length≤i→b=0) →
     (i+1≤xs.length∧(outs.set i ((c+a+b) % 4294967296)).length=xs.length+1∧(∀d∈outs.set i ((c+a+b) % 4294967296),d<4294967296)∧(c+a+b) / 4294967296≤1∧val 4294967296 (xs.take (i+1))+val 4294967296 (ys.take (i+1))=val 4294967296 ((outs.set i ((c+a+b) % 4294967296)).take (i+1))+4294967296^(i+1)*((c+a+b) / 4294967296)):=by
    intro b hb h1 h2
    refine⟨by omega,by rw[aMk];exact iA,nU nI (aKN _ (by decide)),by omega,?_⟩
    have hy:val 4294967296 (ys.take (i+1))=val 4294967296 (ys.take i)+4294967296^i*b:=by
     cases XS:ys[i]? with
     | some d=>rw[bE XS,h1 d XS]
     |
      none =>
      have hle:=aMy.1 XS
      rw[h2 hle,lE hle,lE (by omega),aMz,aMA]
    rw[bE ha,hy,fB (by omega),aLM]
    exact Ii hv rfl (aMn _ _)
   by_cases bF:(i:Int)<(ys.length:Int)
   ·obtain⟨b,hb⟩:∃b,ys[i]? = some b:=⟨_,aKs (by omega)⟩
    have lb:=ly b (aLf hb)
    have e2:=aI (f:=uV) (t := .op) (H:=[.row 0 (outs.map uV) 1 true]) (size:=1) (k := .i64) hb rfl
    have w3:IntKind.u64.wrap (b:Int)=(b:Int):=eT _ (by omega)
    have w4:IntKind.u64.wrap (((c+a:Nat):Int)+(b:Int))=((c+a+b:Nat):Int):=by rw[←aMq];exact eT _ (by omega)
    obtain⟨s1,s2,s3,s4,s5⟩:=step b lb (fun d hd=>by rw[hb] at hd;injection hd with hd;exact hd.symm) (fun h=>by omega)
    simp only[mU,g0,g1,g5,g6,g20,g21,bX,bF,e1,e2,e3,e4,w1,w2,w3,w4,wi,wrap32,qV,VX,Nat.reduceEqDiff,Nat.reduceAdd]
    exact⟨(i+1,outs.set i ((c+a+b) % 4294967296),(c+a+b) / 4294967296),by simp only;omega,s1,rfl,s2,s3,s4,s5,by (repeat' apply aL1)<;>first | rfl | trivial⟩
   ·obtain⟨s1,s2,s3,s4,s5⟩:=step 0 (by decide) (fun d hd=>by have:=(aKk.1 hd).1;omega) (fun _=>rfl)
    simp only[aMA] at s2 s3 s4 s5
    simp only[mU,g0,g1,g5,g6,g20,g21,bX,bF,e1,e3,e4,w1,w2,wi,wrap32,qV,VX,Nat.reduceEqDiff,Nat.reduceAdd]
    exact⟨(i+1,outs.set i ((c+a) % 4294967296),(c+a) / 4294967296),by simp only;omega,s1,rfl,s2,s3,s4,s5,by (repeat' apply aL1)<;>first | rfl | trivial⟩
  ·have nC:i=xs.length:=by omega
   subst nC
   simp only[mU,g0,g1,g5,g6,g20,g21,bX,VX,Nat.reduceEqDiff,Nat.reduceAdd]
   refine hQ _ outs c g0 g5 g6 iA nI hc ?_
   rw[aLy,aLe (l:=ys) hl,vx,vy] at hv
   exact hv
theorem Fx (a b:Nat) (ha:(aD 4294967296 a).length≤17592186044416) (hb:(aD 4294967296 b).length≤17592186044416):TC 145 [bN a,bN b] (bN (a+b)):=by
 refine TC.walk ⟨true,false⟩ K7 rfl (aL9 rfl) (by simp[aO,bT]) (tL _) ?_
 have mk:∀n:Nat,n≤17592186044416→Bc [.int .u32 0] 4 (VI ((n+1:Nat):Int)) (VI ((n+1:Nat):Int)) []=some (.ref 0 0 0 (n+1) (n+1),[.row 0 ((aLb (n+1) 0).map uV) 1 true]):=fun n hn=>oG (f:=uV) (x:=0) rfl (by omega) (by omega)
 have fin:∀(x y:Nat) (outs:List Nat) (c:Nat),(aD 4294967296 x).length≤17592186044416→x+y=a+b→outs.length=(aD 4294967296 x).length+1→(∀d∈outs,d<4294967296)→c≤1→x+y=val 4294967296 (outs.take (aD 4294967296 x).length)+4294967296^(aD 4294967296 x).length*c →
   bJ 1 (.ref 0 0 0 ((aD 4294967296 x).length+1) ((aD 4294967296 x).length+1)) (VI ((aD 4294967296 x).length:Nat)) [.row 0 (outs.map uV) 1 true]=some (.ptr 0 0 (0+(aD 4294967296 x).length) 0) ∧
   bK 0 1 (.ptr 0 0 (aD 4294967296 x).length 0) (uV (c % 4294967296)) [.row 0 (outs.map uV) 1 true]=some [.row 0 ((outs.set (aD 4294967296 x).length (c % 4294967296)).map uV) 1 true] ∧
   ∀lo K,(∀k,k≤(aD 4294967296 x).length+1→(outs.set (aD 4294967296 x).length (c % 4294967296)).take k=aD 4294967296 (a+b)→K (.ref 0 0 0 k ((aD 4294967296 x).length+1)) [.row 0 ((outs.set (aD 4294967296 x).length (c % 4294967296)).map uV) 1 true]) →
    dH 182 [.ref 0 0 0 ((aD 4294967296 x).length+1) ((aD 4294967296 x).length+1)] lo [.row 0 ((outs.set (aD 4294967296 x).length (c % 4294967296)).map uV) 1 true] K:=by
  intro x y outs c hx CB iA nI hc hv
  have Lo:=nU (i:=(aD 4294967296 x).length) nI (show c % 4294967296<4294967296 from aKN _ (by decide))
  have EX:val 4294967296 (outs.set (aD 4294967296 x).length (c % 4294967296))=a+b:=by
   have h1:=fB (b:=4294967296) (xs:=outs) (i:=(aD 4294967296 x).length) (d:=c % 4294967296) (by omega)
   rw[aLe (by rw[aMk];omega)] at h1
   rw[h1,aLP (Nat.lt_of_le_of_lt hc (by decide)),←hv,CB]
  refine⟨bA kV (by omega),?_,?_⟩
  ·rw[dN (f:=uV) (e:=1) kV (by omega) (aKl _) rfl rfl]
   rfl
  ·intro lo K hk
   have awM:(outs.set (aD 4294967296 x).length (c % 4294967296)).length=(aD 4294967296 x).length+1:=by rw[aMk];exact iA
   exact vC kV (by omega) (aKl _) (by omega) (fun d hd=>Lo d (aLi hd)) (by rw[aLe (by omega)];exact EX) hk
 by_cases hsw:(((aD 4294967296 a).length:Nat):Int)<(((aD 4294967296 b).length:Nat):Int)
 ·have w1:IntKind.i64.wrap (((aD 4294967296 b).length:Int)+1)=(((aD 4294967296 b).length+1:Nat):Int):=wrapN _ (by omega) (by omega)
  simp only[Bk,yJ,bN,hsw,w1,mk _ hb,VX,Nat.reduceEqDiff,Nat.reduceAdd]
  refine WG (x:=b) (y:=a) hb (by omega) rfl rfl rfl rfl rfl rfl ?_
  intro aP outs c g0 g5 g6 iA nI hc hv
  obtain⟨e1,e2,e3⟩:=fin b a outs c hb (by omega) iA nI hc hv
  simp only[g0,g5,g6,bN,wrap32,e1,e2,VX,Nat.reduceEqDiff,Nat.reduceAdd]
  refine e3 _ _ fun k hk he => ?_
  simp only[VX,Nat.reduceEqDiff,Nat.reduceAdd]
  exact Tz kV (by rw[aMk];omega) hk he
 ·have w1:IntKind.i64.wrap (((aD 4294967296 a).length:Int)+1)=(((aD 4294967296 a).length+1:Nat):Int):=wrapN _ (by omega) (by omega)
  simp only[Bk,yJ,bN,hsw,w1,mk _ ha,VX,Nat.reduceEqDiff,Nat.reduceAdd]
  refine WG (x:=a) (y:=b) ha (by omega) rfl rfl rfl rfl rfl rfl ?_
  intro aP outs c g0 g5 g6 iA nI hc hv
  obtain⟨e1,e2,e3⟩:=fin a b outs c ha rfl iA nI hc hv
  simp only[g0,g5,g6,bN,wrap32,e1,e2,VX,Nat.reduceEqDiff,Nat.reduceAdd]
  refine e3 _ _ fun k hk he => ?_
  simp only[VX,Nat.reduceEqDiff,Nat.reduceAdd]
  exact Tz kV (by rw[aMk];omega) hk he
end Go.PM
namespace Go.PM
theorem PG {x:Int} {r:Nat} (h:x+4294967296=r) (hx:x<0) (hr:0≤x+4294967296):IntKind.u32.wrap x=(r:Int):=by rw[IntKind.wrap_u32];omega
theorem Xx (n:Nat) (hn:n≤70368744177664):Bc [.int .u32 0] 4 (VI (n:Int)) (VI (n:Int)) []=some (.ref 0 0 0 n n,[.row 0 ((aLb n 0).map uV) 1 true]):=oG (f:=uV) (x:=0) rfl (by omega) (by omega)
theorem Ss {outs:List Nat} {i d:Nat} (hi:i<outs.length):bK 0 1 (.ptr 0 0 i 0) (uV d) [.row 0 (outs.map uV) 1 true]=some [.row 0 ((outs.set i d).map uV) 1 true]:=by
 rw[dN (f:=uV) (e:=1) kV hi (aKl _) rfl rfl]
 rfl
theorem Fw (a b:Nat) (IN:b≤a) (ha:(aD 4294967296 a).length≤17592186044416):TC 146 [bN a,bN b] (bN (a-b)):=by
 refine TC.walk ⟨true,false⟩ Kg rfl (aL9 rfl) (by simp[aO,bT]) (tL _) ?_
 have va:=cI (b:=4294967296) (by decide) a
 have vb:=cI (b:=4294967296) (by decide) b
 have la:=gF (b:=4294967296) (by decide) a
 have lb:=gF (b:=4294967296) (by decide) b
 have hle:=eU (b:=4294967296) (by decide) IN
 unfold bN
 generalize aD 4294967296 a=xs at *
 generalize aD 4294967296 b=ys at *
 simp only[Fu,CP,Xx xs.length (by omega),VX,Nat.reduceEqDiff,Nat.reduceAdd]
 refine aR (fun(s:Nat×List Nat×Nat) ρ H=>s.1≤xs.length∧H=[.row 0 (s.2.1.map uV) 1 true]∧s.2.1.length=xs.length∧(∀d∈s.2.1,d<4294967296)∧s.2.2≤1∧val 4294967296 (xs.take s.1)+4294967296^s.1*s.2.2=val 4294967296 (s.2.1.take s.1)+val 4294967296 (ys.take s.1) ∧
  ρ 0=C6 xs∧ρ 1=C6 ys∧ρ 5 = .ref 0 0 0 xs.length xs.length∧ρ 6=VI s.2.2∧ρ 13=VI xs.length∧ρ 14=VI s.1) (fun s=>xs.length-s.1) (0,aLb xs.length 0,0) ⟨aKP _,rfl,by simp,Cx (by decide) _,by simp,by simp[val],rfl,rfl,rfl,rfl,rfl,rfl⟩ ?_
 rintro⟨i,outs,l⟩ ρ H ⟨hi,rfl,iA,nI,hc,hv,g0,g1,g5,g6,g13,g14⟩
 simp only at hi iA nI hc hv g6 g14
 by_cases bX:(i:Int)<(xs.length:Int)
 ·obtain⟨x,hx⟩:∃x,xs[i]? = some x:=⟨_,aKs (by omega)⟩
  have lx:=la x (aLf hx)
  have e1:=aI (f:=uV) (t := .op) (H:=[.row 0 (outs.map uV) 1 true]) (size:=1) (k := .i64) hx rfl
  have w1:IntKind.i64.wrap (x:Int)=(x:Int):=wrapN x rfl (by omega)
  have w2:IntKind.i64.wrap ((x:Int)-(l:Int))=(x:Int)-(l:Int):=wrap64 (by omega) (by omega)
  have wi:IntKind.i64.wrap ((i:Int)+1)=((i+1:Nat):Int):=wrapN (i+1) (by omega) (by omega)
  have e3:bJ 1 (.ref 0 0 0 xs.length xs.length) (VI i) [.row 0 (outs.map uV) 1 true]=some (.ptr 0 0 i 0):=by rw[bA kV (by omega),aLT]
  have e4:∀s:Nat,bK 0 1 (.ptr 0 0 i 0) (uV s) [.row 0 (outs.map uV) 1 true]=some [.row 0 ((outs.set i s).map uV) 1 true]:=fun s=>Ss (by omega)
  have step:∀y r l':Nat,y<4294967296→r<4294967296→l'≤1→(∀d,ys[i]? = some d→d=y)→(ys.length≤i→y=0)→r+y+l=x+4294967296*l' →
    i+1≤xs.length∧(outs.set i r).length=xs.length∧(∀d∈outs.set i r,d<4294967296)∧l'≤1∧val 4294967296 (xs.take (i+1))+4294967296^(i+1)*l'=val 4294967296 ((outs.set i r).take (i+1))+val 4294967296 (ys.take (i+1)):=by
   intro y r l' _ hr EZ h1 h2 hd
   refine⟨by omega,by rw[aMk];exact iA,nU nI hr,EZ,?_⟩
   have hy:val 4294967296 (ys.take (i+1))=val 4294967296 (ys.take i)+4294967296^i*y:=by
    cases XS:ys[i]? with
    | some d=>rw[bE XS,h1 d XS]
    |
     none =>
     have hle:=aMy.1 XS
     rw[h2 hle,lE hle,lE (by omega),aMz,aMA]
   rw[bE hx,hy,fB (by omega),aLM]
   exact Lz hv hd
  by_cases bF:(i:Int)<(ys.length:Int)
  ·obtain⟨y,hy⟩:∃y,ys[i]? = some y:=⟨_,aKs (by omega)⟩
   have ly:=lb y (aLf hy)
   have e2:=aI (f:=uV) (t := .op) (H:=[.row 0 (outs.map uV) 1 true]) (size:=1) (k := .i64) hy rfl
   have w3:IntKind.i64.wrap (y:Int)=(y:Int):=wrapN y rfl (by omega)
   have w4:IntKind.i64.wrap ((x:Int)-(l:Int)-(y:Int))=(x:Int)-(l:Int)-(y:Int):=wrap64 (by omega) (by omega)
   by_cases jV:(x:Int)-(l:Int)-(y:Int)<0
   ·obtain⟨r,hr⟩:∃r:Nat,r+y+l=x+4294967296:=⟨x+4294967296-l-y,by omega⟩
    have w5:IntKind.u32.wrap ((x:Int)-(l:Int)-(y:Int))=(r:Int):=PG (by omega) jV (by omega)
    obtain⟨s1,s2,s3,s4,s5⟩:=step y r 1 ly (by omega) (aKl _) (fun d hd=>by rw[hy] at hd;injection hd with hd;exact hd.symm) (fun h=>by omega) (by omega)
    simp only[jX,g0,g1,g5,g6,g13,g14,bX,bF,jV,e1,e2,e3,e4,w1,w2,w3,w4,w5,wi,VX,Nat.reduceEqDiff,Nat.reduceAdd]
    exact⟨(i+1,outs.set i r,1),by simp only;omega,s1,rfl,s2,s3,s4,s5,by (repeat' apply aL1)<;>first | rfl | trivial⟩
   ·obtain⟨r,hr⟩:∃r:Nat,r+y+l=x:=⟨x-l-y,by omega⟩
    have w5:IntKind.u32.wrap ((x:Int)-(l:Int)-(y:Int))=(r:Int):=by rw[IntKind.wrap_u32];omega
    obtain⟨s1,s2,s3,s4,s5⟩:=step y r 0 ly (by omega) (by omega) (fun d hd=>by rw[hy] at hd;injection hd with hd;exact hd.symm) (fun h=>by omega) (by omega)
    simp only[jX,g0,g1,g5,g6,g13,g14,bX,bF,jV,e1,e2,e3,e4,w1,w2,w3,w4,w5,wi,VX,Nat.reduceEqDiff,Nat.reduceAdd]
    exact⟨(i+1,outs.set i r,0),by simp only;omega,s1,rfl,s2,s3,s4,s5,by (repeat' apply aL1)<;>first | rfl | trivial⟩
  ·by_cases jV:(x:Int)-(l:Int)<0
   ·obtain⟨r,hr⟩:∃r:Nat,r+l=x+4294967296:=⟨x+4294967296-l,by omega⟩
    have w5:IntKind.u32.wrap ((x:Int)-(l:Int))=(r:Int):=PG (by omega) jV (by omega)
    obtain⟨s1,s2,s3,s4,s5⟩:=step 0 r 1 (by decide) (by omega) (aKl _) (fun d hd=>by have:=(aKk.1 hd).1;omega) (fun _=>rfl) (by omega)
    simp only[jX,g0,g1,g5,g6,g13,g14,bX,bF,jV,e1,e3,e4,w1,w2,w5,wi,VX,Nat.reduceEqDiff,Nat.reduceAdd]
    exact⟨(i+1,outs.set i r,1),by simp only;omega,s1,rfl,s2,s3,s4,s5,by (repeat' apply aL1)<;>first | rfl | trivial⟩
   ·obtain⟨r,hr⟩:∃r:Nat,r+l=x:=⟨x-l,by omega⟩
    have w5:IntKind.u32.wrap ((x:Int)-(l:Int))=(r:Int):=by rw[IntKind.wrap_u32];omega
    obtain⟨s1,s2,s3,s4,s5⟩:=step 0 r 0 (by decide) (by omega) (by omega) (fun d hd=>by have:=(aKk.1 hd).1;omega) (fun _=>rfl) (by omega)
    simp only[jX,g0,g1,g5,g6,g13,g14,bX,bF,jV,e1,e3,e4,w1,w2,w5,wi,VX,Nat.reduceEqDiff,Nat.reduceAdd]
    exact⟨(i+1,outs.set i r,0),by simp only;omega,s1,rfl,s2,s3,s4,s5,by (repeat' apply aL1)<;>first | rfl | trivial⟩
 ·have nC:i=xs.length:=by omega
  subst nC
  rw[aLy,aLe (l:=ys) hle,aLe (l:=outs) (by omega),va,vb] at hv
  have dQ:=rI nI
  rw[iA] at dQ
  have EX:val 4294967296 outs=a-b:=by
   rcases aKo l 1 with h | h
   ·have:l=0:=by omega
    subst this
    rw[aMz] at hv
    omega
   ·have:l=1:=by omega
    subst this
    rw[Nat.mul_one] at hv
    omega
  simp only[jX,g0,g1,g5,g6,g13,g14,bX,VX,Nat.reduceEqDiff,Nat.reduceAdd]
  refine vC (m:=a-b) kV (by omega) (aKl _) (by omega) (fun d hd=>nI d (aLi hd)) (by rw[aLe (by omega)];exact EX) fun k hk he => ?_
  simp only[VX,Nat.reduceEqDiff,Nat.reduceAdd]
  exact Tz kV (by omega) hk he
theorem Wv {P Q A B Y x c r q o y W:Nat} (Qp:A+P*Q*c=B+P*(x*Y)) (h1:r+W*q=c+(x*y+o)):A+P*Q*r+P*Q*W*q=B+P*Q*o+P*(x*(Y+Q*y)):=by
 have h2:P*Q*(r+W*q)=P*Q*(c+(x*y+o)):=by rw[h1]
 grind
theorem jM (a b:Nat) (ha:(aD 4294967296 a).length≤17592186044416) (hb:(aD 4294967296 b).length≤17592186044416):TC 143 [bN a,bN b] (bN (a*b)):=by
 refine TC.walk ⟨true,false⟩ K4 rfl (aL9 rfl) (by simp[aO,bT]) (tL _) ?_
 have va:=cI (b:=4294967296) (by decide) a
 have vb:=cI (b:=4294967296) (by decide) b
 have la:=gF (b:=4294967296) (by decide) a
 have lb:=gF (b:=4294967296) (by decide) b
 unfold bN
 generalize aD 4294967296 a=xs at *
 generalize aD 4294967296 b=ys at *
 have w0:IntKind.i64.wrap ((xs.length:Int)+(ys.length:Int))=((xs.length+ys.length:Nat):Int):=wrapN _ (by omega) (by omega)
 simp only[Fo,CD,w0,Xx (xs.length+ys.length) (by omega),VX,Nat.reduceEqDiff,Nat.reduceAdd]
 generalize hN:xs.length+ys.length=N at *
 refine aR (fun(s:Nat×List Nat) ρ H=>s.1≤xs.length∧H=[.row 0 (s.2.map uV) 1 true]∧s.2.length=N∧(∀d∈s.2,d<4294967296)∧val 4294967296 (s.2.take (s.1+ys.length))=val 4294967296 (xs.take s.1)*b ∧
  ρ 0=C6 xs∧ρ 1=C6 ys∧ρ 5 = .ref 0 0 0 N N∧ρ 17=C6 xs∧ρ 18=VI xs.length∧ρ 19=VI s.1) (fun s=>xs.length-s.1) (0,aLb N 0) ⟨aKP _,rfl,by simp,Cx (by decide) _,by simp[val,aMB,uZ],rfl,rfl,rfl,rfl,rfl,rfl⟩ ?_
 rintro⟨i,outs⟩ ρ H ⟨hi,rfl,iA,nI,hv,g0,g1,g5,g17,g18,g19⟩
 simp only at hi iA nI hv g19
 by_cases bX:(i:Int)<(xs.length:Int)
 ·obtain⟨x,hx⟩:∃x,xs[i]? = some x:=⟨_,aKs (by omega)⟩
  have lx:=la x (aLf hx)
  have e1:=aI (f:=uV) (t := .op) (H:=[.row 0 (outs.map uV) 1 true]) (size:=1) (k := .i64) hx rfl
  simp only[wF,g0,g1,g5,g17,g18,g19,bX,e1,VX,Nat.reduceEqDiff,Nat.reduceAdd]
  refine aR (fun(s:Nat×List Nat×Nat) ρ H=>s.1≤ys.length∧H=[.row 0 (s.2.1.map uV) 1 true]∧s.2.1.length=N∧(∀d∈s.2.1,d<4294967296)∧s.2.2<4294967296 ∧
   val 4294967296 (s.2.1.take (i+s.1))+4294967296^(i+s.1)*s.2.2=val 4294967296 (outs.take (i+s.1))+4294967296^i*(x*val 4294967296 (ys.take s.1))∧(∀j,i+s.1≤j→s.2.1[j]? = outs[j]?) ∧
   ρ 0=C6 xs∧ρ 1=C6 ys∧ρ 5 = .ref 0 0 0 N N∧ρ 6=VI i∧ρ 7=uV x∧ρ 8=VK .u64 s.2.2∧ρ 17=C6 xs∧ρ 18=VI xs.length∧ρ 19=VI i∧ρ 24=C6 ys∧ρ 25=VI ys.length∧ρ 26=VI s.1) (fun s=>ys.length-s.1) (0,outs,0) ⟨aKP _,rfl,iA,nI,by simp,by simp[val],fun _ _=>rfl,by (repeat' apply aL1)<;>first | rfl | trivial⟩ ?_
  rintro⟨k,os,c⟩ tG H ⟨hk,rfl,S7,SM,hc,Qp,IK,k0,k1,k5,k6,k7,k8,Iw,WN,k19,k24,k25,k26⟩
  simp only at hk S7 SM hc Qp IK k8 k26
  have wi:IntKind.i64.wrap ((i:Int)+1)=((i+1:Nat):Int):=wrapN (i+1) (by omega) (by omega)
  by_cases TH:(k:Int)<(ys.length:Int)
  ·obtain⟨y,hy⟩:∃y,ys[k]? = some y:=⟨_,aKs (by omega)⟩
   have ly:=lb y (aLf hy)
   obtain⟨o,ho⟩:∃o,os[i+k]? = some o:=⟨_,aKs (by omega)⟩
   have lo:=SM o (aLf ho)
   have ho':outs[i+k]? = some o:=by rw[←IK (i+k) (aKl _)];exact ho
   have f1:=aI (f:=uV) (t := .op) (H:=[.row 0 (os.map uV) 1 true]) (size:=1) (k := .i64) hy rfl
   have w1:IntKind.i64.wrap ((i:Int)+(k:Int))=((i+k:Nat):Int):=wrapN _ (by omega) (by omega)
   have f2:bJ 1 (.ref 0 0 0 N N) (VI ((i+k:Nat):Int)) [.row 0 (os.map uV) 1 true]=some (.ptr 0 0 (i+k) 0):=by rw[bA kV (by omega),aLT]
   have f3:bI false 1 (.ptr 0 0 (i+k) 0) [.row 0 (os.map uV) 1 true]=some (uV o):=kB kV ho
   have f4:∀s:Nat,bK 0 1 (.ptr 0 0 (i+k) 0) (uV s) [.row 0 (os.map uV) 1 true]=some [.row 0 ((os.set (i+k) s).map uV) 1 true]:=fun s=>Ss (by omega)
   have CB:x*y≤4294967295*4294967295:=aMC (by omega) (by omega)
   have w2:IntKind.u64.wrap (x:Int)=(x:Int):=eT _ (by omega)
   have w3:IntKind.u64.wrap (y:Int)=(y:Int):=eT _ (by omega)
   have w4:IntKind.u64.wrap (o:Int)=(o:Int):=eT _ (by omega)
   have w5:IntKind.u64.wrap ((x:Int)*(y:Int))=((x*y:Nat):Int):=by rw[←Int.natCast_mul];exact eT _ (by omega)
   have w6:IntKind.u64.wrap (((x*y:Nat):Int)+(o:Int))=((x*y+o:Nat):Int):=by rw[←aMq];exact eT _ (by omega)
   have w7:IntKind.u64.wrap ((c:Int)+((x*y+o:Nat):Int))=((c+(x*y+o):Nat):Int):=by rw[←aMq];exact eT _ (by omega)
   have wk:IntKind.i64.wrap ((k:Int)+1)=((k+1:Nat):Int):=wrapN (k+1) (by omega) (by omega)
   simp only[vW,k0,k1,k5,k6,k7,k8,Iw,WN,k19,k24,k25,k26,TH,f1,f2,f3,f4,w1,w2,w3,w4,w5,w6,w7,wk,wrap32,qV,VX,Nat.reduceEqDiff,Nat.reduceAdd]
   have hq:(c+(x*y+o)) / 4294967296<4294967296:=aMD (by omega)
   refine⟨(k+1,os.set (i+k) ((c+(x*y+o)) % 4294967296),(c+(x*y+o)) / 4294967296),by simp only;omega,by omega,rfl,by rw[aMk];exact S7,nU SM (aKN _ (by decide)),hq,?_,fun j hj => ?_,by (repeat' apply aL1)<;>first | rfl | trivial⟩
   ·have h1:=aMn (c+(x*y+o)) 4294967296
    rw[←Nat.add_assoc,fB (by omega),bE ho',bE hy,aLM]
    rw[aMt] at Qp ⊢
    exact Wv Qp h1
   ·rw[aKK (by omega)]
    exact IK j (by omega)
  ·have hke:k=ys.length:=by omega
   subst hke
   rw[aLy,vb,hv] at Qp
   have w1:IntKind.i64.wrap ((i:Int)+(ys.length:Int))=((i+ys.length:Nat):Int):=wrapN _ (by omega) (by omega)
   have f2:bJ 1 (.ref 0 0 0 N N) (VI ((i+ys.length:Nat):Int)) [.row 0 (os.map uV) 1 true]=some (.ptr 0 0 (i+ys.length) 0):=by rw[bA kV (by omega),aLT]
   have f4:∀s:Nat,bK 0 1 (.ptr 0 0 (i+ys.length) 0) (uV s) [.row 0 (os.map uV) 1 true]=some [.row 0 ((os.set (i+ys.length) s).map uV) 1 true]:=fun s=>Ss (by omega)
   simp only[vW,k0,k1,k5,k6,k7,k8,Iw,WN,k19,k24,k25,k26,TH,f2,f4,w1,wi,wrap32,VX,Nat.reduceEqDiff,Nat.reduceAdd]
   refine⟨(i+1,os.set (i+ys.length) (c % 4294967296)),by simp only;omega,by omega,rfl,by rw[aMk];exact S7,nU SM (aKN _ (by decide)),?_,by (repeat' apply aL1)<;>first | rfl | trivial⟩
   rw[show i+1+ys.length=i+ys.length+1 by omega,fB (by omega),aLP hc,Qp,bE hx,aKQ,aMx]
 ·have nC:i=xs.length:=by omega
  subst nC
  rw[hN,aLy,va,aLe (by omega)] at hv
  simp only[wF,g0,g1,g5,g17,g18,g19,bX,VX,Nat.reduceEqDiff,Nat.reduceAdd]
  refine vC (m:=a*b) kV (by omega) (aKl _) (by omega) (fun d hd=>nI d (aLi hd)) (by rw[aLe (by omega)];exact hv) fun k hk he => ?_
  simp only[VX,Nat.reduceEqDiff,Nat.reduceAdd]
  exact Tz kV (by omega) hk he
end Go.PM
namespace Go.PM
theorem set_drop {xs:List Nat} {i d:Nat} (h:i<xs.length):(xs.set i d).drop i=d::xs.drop (i+1):=by
 rw[aKq (by rw[aMk];exact h),List.getElem_set_self,Qd h]
theorem Z6 (n k:Nat) (hn:n≤70368744177664) {H:aA}:Bc [.int .u32 0] 4 (VI (n:Int)) (VI (n:Int)) H=some (.ref H.length 0 0 n n,H++[.row 0 ((aLb n 0).map uV) 1 true]):=oG (f:=uV) (x:=0) rfl (by omega) (by omega)
theorem VE {A q t r x d W:Nat} (h1:t+d*q=r*W+x):(q+W*A)*d+t=x+W*(A*d+r):=by grind
theorem Xu {A B P S W c m x q:Nat} (hv:A+P*c=B*S) (h1:m*S+W*q=x*S):A+P*(c+m*S)+P*W*q=(B+P*x)*S:=by
 have h2:P*(m*S+W*q)=P*(x*S):=by rw[h1]
 grind
theorem Ag (a d:Nat) (ES:0<d) (hdW:d<4294967296) (ha:(aD 4294967296 a).length≤17592186044416):TC 197 [bN a,uV d] (.dU [bN (a / d),uV (a % d)]):=by
 refine TC.walk ⟨true,false⟩ EP rfl (aL9 rfl) (by simp[aO,bT,aX,qD]) (by simp[gW,sO,tL,qD]) ?_
 have va:=cI (b:=4294967296) (by decide) a
 have la:=gF (b:=4294967296) (by decide) a
 unfold bN
 generalize aD 4294967296 a=xs at *
 have w0:IntKind.i64.wrap ((xs.length:Int)-1)=(xs.length:Int)-1:=wrap64 (by omega) (by omega)
 have wd:IntKind.u64.wrap (d:Int)=(d:Int):=eT _ (by omega)
 simp only[Aj,xE,w0,Xx xs.length (by omega),VX,Nat.reduceEqDiff,Nat.reduceAdd]
 refine aR (fun(s:Nat×List Nat×Nat) ρ H=>s.1≤xs.length∧H=[.row 0 (s.2.1.map uV) 1 true]∧s.2.1.length=xs.length∧(∀d∈s.2.1,d<4294967296)∧s.2.2<d∧val 4294967296 (s.2.1.drop s.1)*d+s.2.2=val 4294967296 (xs.drop s.1) ∧
  ρ 0=C6 xs∧ρ 1=uV d∧ρ 6 = .ref 0 0 0 xs.length xs.length∧ρ 7=VK .u64 s.2.2∧ρ 8=VI ((s.1:Int)-1)) (fun s=>s.1) (xs.length,aLb xs.length 0,0) ⟨aKl _,rfl,by simp,Cx (by decide) _,ES,by simp[val,aME],rfl,rfl,rfl,rfl,rfl⟩ ?_
 rintro⟨j,outs,r⟩ ρ H ⟨hj,rfl,iA,nI,hr,hv,g0,g1,g6,g7,g8⟩
 simp only at hj iA nI hr hv g7 g8
 by_cases hz:(0:Int)≤(j:Int)-1
 ·obtain⟨i,rfl⟩:∃i,j=i+1:=⟨j-1,by omega⟩
  obtain⟨x,hx⟩:∃x,xs[i]? = some x:=⟨_,aKs (by omega)⟩
  have lx:=la x (aLf hx)
  have DV:((i+1:Nat):Int)-1=(i:Int):=by omega
  rw[DV] at g8 hz
  have e1:=aI (f:=uV) (t := .op) (H:=[.row 0 (outs.map uV) 1 true]) (size:=1) (k := .i64) hx rfl
  have e3:bJ 1 (.ref 0 0 0 xs.length xs.length) (VI i) [.row 0 (outs.map uV) 1 true]=some (.ptr 0 0 i 0):=by rw[bA kV (by omega),aLT]
  have e4:∀s:Nat,bK 0 1 (.ptr 0 0 i 0) (uV s) [.row 0 (outs.map uV) 1 true]=some [.row 0 ((outs.set i s).map uV) 1 true]:=fun s=>Ss (by omega)
  have w2:IntKind.i64.wrap ((i:Int)-1)=(i:Int)-1:=wrap64 (by omega) (by omega)
  have w3:IntKind.u64.wrap (x:Int)=(x:Int):=eT _ (by omega)
  have w4:IntKind.u64.wrap (((r*4294967296:Nat):Int)+(x:Int))=((r*4294967296+x:Nat):Int):=by rw[←aMq];exact eT _ (by omega)
  have w5:=Gz r .u64 (by omega)
  have q1:=YR (r*4294967296+x) d (by omega) ES
  have q2:=SA (r*4294967296+x) d ES
  have hq:(r*4294967296+x) / d<4294967296:=by
   rw[aMF ES]
   have:(r+1)*4294967296≤d*4294967296:=aKM _ hr
   rw[aLN 4294967296 d]
   omega
  simp only[pK,g0,g1,g6,g7,g8,hz,e1,e3,e4,w2,w3,w4,w5,wd,q1,q2,wrap32,aLP hq,VX,Nat.reduceEqDiff,Nat.reduceAdd]
  refine⟨(i,outs.set i ((r*4294967296+x) / d),(r*4294967296+x) % d),by simp only;omega,by omega,rfl,by rw[aMk];exact iA,nU nI hq,aKN _ ES,?_,by (repeat' apply aL1)<;>first | rfl | trivial⟩
  have h1:=aMn (r*4294967296+x) d
  rw[set_drop (by omega),vI,wT hx,←hv]
  exact VE h1
 ·have XU:j=0:=by omega
  subst XU
  rw[aLx,aLx,va] at hv
  have h1:a / d=val 4294967296 outs:=by
   rw[←hv,aLN,Nat.mul_add_div ES,aLS hr,aMA]
  have h2:a % d=r:=by
   rw[←hv,aLN,Nat.mul_add_mod,aLP hr]
  simp only[pK,g0,g1,g6,g7,g8,hz,VX,Nat.reduceEqDiff,Nat.reduceAdd]
  refine vC (m:=a / d) kV (by omega) (aKl _) (by omega) (fun d hd=>nI d (aLi hd)) (by rw[aLe (by omega)];exact h1.symm) fun k hk he => ?_
  simp only[wrap32,aLP (show r<4294967296 by omega),g7,VX,Nat.reduceEqDiff,Nat.reduceAdd]
  rw[h2]
  exact bO (d:=6) (Nn (d:=5) kV (by omega) hk he) (aL rfl)
theorem J6 {n g e:Nat} {es:List VV} {w:Bool}:aG (aLb n fK.dead++[.row g es e w]) n g=some (es,e,w):=by rw[Ny];exact aT
theorem aEz {n:Nat} (xs:List Nat):Ap n (xs.map uV)=true:=by
 rw[zA]
 intro x hx
 obtain⟨y,_,rfl⟩:=List.mem_map.1 hx
 rfl
theorem Bg (a s:Nat) (hs:s≤31) (ha:(aD 4294967296 a).length≤17592186044416):FC 199 [bN a,VI s] fun n r L=>∃outs:List Nat,r = .ref n 0 0 ((aD 4294967296 a).length+1) ((aD 4294967296 a).length+1)∧L=[.row 0 (outs.map uV) 1 true]∧outs.length=(aD 4294967296 a).length+1∧(∀d∈outs,d<4294967296)∧val 4294967296 outs=a*2^s∧(∀d,outs[(aD 4294967296 a).length]? = some d→d<2^s):=by
 refine FC.walk ⟨true,false⟩ F4 (aL9 rfl) fun n => ?_
 have va:=cI (b:=4294967296) (by decide) a
 have la:=gF (b:=4294967296) (by decide) a
 unfold bN
 generalize aD 4294967296 a=xs at *
 have hS:0<2^s:=Nat.pow_pos (by decide)
 have hSW:2^s*2^(32-s)=4294967296:=by rw[←aMt,show s+(32-s)=32 by omega]
 have w0:IntKind.i64.wrap ((xs.length:Int)+1)=((xs.length+1:Nat):Int):=wrapN _ (by omega) (by omega)
 simp only[A2,zE,w0,Z6 (xs.length+1) n (by omega),aMa,VX,Nat.reduceEqDiff,Nat.reduceAdd]
 refine aR (fun(t:Nat×List Nat×Nat) ρ H=>t.1≤xs.length∧H=aLb n .dead++[.row 0 (t.2.1.map uV) 1 true]∧t.2.1.length=xs.length+1∧(∀d∈t.2.1,d<4294967296)∧t.2.1[t.1]? = some t.2.2∧t.2.2<2^s∧val 4294967296 (t.2.1.take t.1)+4294967296^t.1*t.2.2=val 4294967296 (xs.take t.1)*2^s ∧
  ρ 1=VI s∧ρ 5 = .ref n 0 0 (xs.length+1) (xs.length+1)∧ρ 13=C6 xs∧ρ 14=VI xs.length∧ρ 15=VI t.1) (fun t=>xs.length-t.1) (0,aLb (xs.length+1) 0,0) ⟨aKP _,rfl,by simp,Cx (by decide) _,by simp,hS,by simp[val],rfl,rfl,rfl,rfl,rfl⟩ ?_
 rintro⟨i,outs,c⟩ ρ H ⟨hi,rfl,iA,nI,hoc,hc,hv,g1,g5,g13,g14,g15⟩
 simp only at hi iA nI hoc hc hv g15
 by_cases bX:(i:Int)<(xs.length:Int)
 ·obtain⟨x,hx⟩:∃x,xs[i]? = some x:=⟨_,aKs (by omega)⟩
  have lx:=la x (aLf hx)
  have e1:=aI (f:=uV) (t := .op) (H:=aLb n .dead++[.row 0 (outs.map uV) 1 true]) (size:=1) (k := .i64) hx rfl
  have wx:IntKind.u64.wrap (x:Int)=(x:Int):=eT _ (by omega)
  have wi:IntKind.i64.wrap ((i:Int)+1)=((i+1:Nat):Int):=wrapN (i+1) (by omega) (by omega)
  have w5:=awX x s lx hs
  obtain⟨m,hm⟩:∃m,(x*2^s) % 4294967296=m*2^s:=by
   refine⟨x % 2^(32-s),?_⟩
   rw[←hSW,aLN x,Nat.mul_mod_mul_left,aLN]
  have hhi:(x*2^s) / 4294967296<2^s:=by
   rw[aMF (by decide),aLN (2^s)]
   exact Nat.mul_lt_mul_of_pos_right lx hS
  have bF:(x*2^s) % 4294967296<4294967296:=aKN _ (by decide)
  have hmm:m<2^(32-s):=by
   have:m*2^s<2^(32-s)*2^s:=by rw[←hm,aLN (2^(32-s)) (2^s),hSW];exact bF
   exact Nat.lt_of_mul_lt_mul_right this
  have Yt:m*2^s+c<4294967296:=by
   have:(m+1)*2^s≤2^(32-s)*2^s:=aKM _ hmm
   rw[aLN (2^(32-s)),hSW,aKQ] at this
   omega
  have or1:=awQ c m s hc Yt
  have e3:bJ 1 (.ref n 0 0 (xs.length+1) (xs.length+1)) (VI i) (aLb n .dead++[.row 0 (outs.map uV) 1 true])=some (.ptr n 0 i 0):=by rw[bA J6 (by omega),aLT]
  have e4:bI false 1 (.ptr n 0 i 0) (aLb n .dead++[.row 0 (outs.map uV) 1 true])=some (uV c):=kB J6 hoc
  have e5:∀(os:List Nat) (j t:Nat),j<os.length→bK n 1 (.ptr n 0 j 0) (uV t) (aLb n .dead++[.row 0 (os.map uV) 1 true])=some (aLb n .dead++[.row 0 ((os.set j t).map uV) 1 true]):=fun os j t hj=>by
   rw[dN (f:=uV) (e:=1) J6 hj (aKl _) rfl rfl,akS]
   rfl
  have e6:bJ 1 (.ref n 0 0 (xs.length+1) (xs.length+1)) (VI ((i+1:Nat):Int)) (aLb n .dead++[.row 0 ((outs.set i (c+m*2^s)).map uV) 1 true])=some (.ptr n 0 (i+1) 0):=by rw[bA J6 (by omega),aLT]
  have e7:=e5 outs i (c+m*2^s) (by omega)
  have e8:=e5 (outs.set i (c+m*2^s)) (i+1) ((x*2^s) / 4294967296) (by rw[aMk];omega)
  have hq:(x*2^s) / 4294967296 % 4294967296=(x*2^s) / 4294967296:=aLP (by
   have:2^s≤2^31:=aMp (by decide) hs
   omega)
  simp only[qH,g1,g5,g13,g14,g15,bX,e1,e3,e4,e6,e7,e8,wx,wi,w5,wrap32,qV,hm,or1,hq,VX,Nat.reduceEqDiff,Nat.reduceAdd]
  refine⟨(i+1,(outs.set i (c+m*2^s)).set (i+1) ((x*2^s) / 4294967296),(x*2^s) / 4294967296),by simp only;omega,by omega,rfl,by rw[aMk,aMk];exact iA,
   nU (nU nI (by omega)) (by
    have:2^s≤2^31:=aMp (by decide) hs
    omega),by rw[List.getElem?_set_self (by rw[aMk];omega)],hhi,?_,by (repeat' apply aL1)<;>first | rfl | trivial⟩
  rw[List.take_set_of_le (aKl _),fB (by omega),bE hx,aLM]
  have h1:=aMn (x*2^s) 4294967296
  rw[hm] at h1
  exact Xu hv h1
 ·have nC:i=xs.length:=by omega
  subst nC
  rw[aLy,va] at hv
  have EX:val 4294967296 outs=a*2^s:=by
   have h1:=bE (b:=4294967296) hoc
   rw[aLe (by omega)] at h1
   rw[h1]
   exact hv
  simp only[qH,g1,g5,g13,g14,g15,bX,VX,Nat.reduceEqDiff,Nat.reduceAdd]
  exact⟨_,rfl,by simp[jS],by simp[mX,aEz outs],outs,rfl,iA,nI,EX,fun d hd=>by rw[hoc] at hd;injection hd with hd;omega⟩
end Go.PM
namespace Go.PM
theorem Sv (n:Nat) (hn:n≤35184372088832):Bc [.int .i64 0] 8 (VI (n:Int)) (VI (n:Int)) []=some (.ref 0 0 0 n n,[.row 0 ((aLb n 0).map tV) 1 true]):=oG (f:=tV) (x:=0) rfl (by omega) (by omega)
theorem Sa {outs:List Nat} {i d:Nat} (hi:i<outs.length):bK 0 1 (.ptr 0 0 i 0) (VI (d:Int)) [.row 0 (outs.map tV) 1 true]=some [.row 0 ((outs.set i d).map tV) 1 true]:=by
 rw[show VI (d:Int)=tV d from rfl,dN (f:=tV) (e:=1) Nu hi (aKl _) rfl rfl]
 rfl
theorem Pq {b g:Nat} {rows:List Nat} {w:Bool} {H:aA} {j d:Nat} (hr:aG H b g=some (rows.map tV,1,w)) (hj:rows[j]? = some d):bI false 1 (.ptr b g j 0) H=some (VI (d:Int)):=pW hr hj
theorem adT {n i:Nat} {outs:List Nat} (h:i<n):bJ 1 (.ref 0 0 0 n n) (VI (i:Int)) [.row 0 (outs.map tV) 1 true]=some (.ptr 0 0 i 0):=by rw[bA Nu h,aLT]
theorem wr {x:Int} (n:Nat) (h:x=n) (hn:n≤9223372036854775807):IntKind.i64.wrap x=(n:Int):=wrapN n h hn
theorem BW (a b:Nat) (IN:b≤a) (ha:(aD 1000000000 a).length≤17592186044416):TC 156 [bW a,bW b] (bW (a-b)):=by
 refine TC.walk ⟨true,false⟩ Je rfl (aL9 rfl) (by simp[aO,cG]) (pR _) ?_
 have hle:=eU (b:=1000000000) (by decide) IN
 simp only[EG,BP,NO,cL,VX,Nat.reduceEqDiff,Nat.reduceAdd]
 refine aR (fun(s:Nat×List Nat×Nat) ρ H=>s.1=s.2.1.length∧s.1≤(aD 1000000000 a).length∧H=[.row s.2.1.length (s.2.1.map tV) 1 true]∧(∀d∈s.2.1,d<1000000000)∧s.2.2≤1∧val 1000000000 ((aD 1000000000 a).take s.1)+1000000000^s.1*s.2.2=val 1000000000 s.2.1+val 1000000000 ((aD 1000000000 b).take s.1) ∧
  ρ 0=bW a∧ρ 1=bW b∧ρ 5 = .ref 0 s.2.1.length 0 s.2.1.length s.2.1.length∧ρ 6=VI s.2.2∧ρ 11=VI (aD 1000000000 a).length∧ρ 12=VI s.1) (fun s=>(aD 1000000000 a).length-s.1) (0,[],0) ⟨rfl,aKP _,rfl,by simp,by simp,by simp[val],rfl,rfl,rfl,rfl,rfl,rfl⟩ ?_
 rintro⟨i,outs,l⟩ ρ H ⟨hi,uU,rfl,nI,hc,hv,g0,g1,g5,g6,g11,g12⟩
 simp only at hi uU nI hc hv g5 g6 g12
 by_cases bX:(i:Int)<((aD 1000000000 a).length:Int)
 ·have hx:=OZ (b:=1000000000) (by decide) (n:=a) (i:=i) (by omega)
  have e1:bJ 1 (bW a) (VI i) [.row outs.length (outs.map tV) 1 true]=some (.cF (tV (a / 1000000000^i % 1000000000)) 0):=aI (f:=tV) (t := .op) (size:=1) (k := .i64) hx rfl
  have c2:=Fy b i
  have t1:=HE (b:=1000000000) (aD 1000000000 a) i
  have t2:=HE (b:=1000000000) (aD 1000000000 b) i
  rw[KN (by decide)] at t1 t2
  have lx:=aKN (a / 1000000000^i) (show 0<1000000000 by decide)
  have ly:=aKN (b / 1000000000^i) (show 0<1000000000 by decide)
  generalize a / 1000000000^i % 1000000000=x at *
  generalize b / 1000000000^i % 1000000000=y at *
  have wi:IntKind.i64.wrap ((i:Int)+1)=((i+1:Nat):Int):=wrapN (i+1) (by omega) (by omega)
  have w1:IntKind.i64.wrap ((x:Int)-(y:Int))=(x:Int)-(y:Int):=wrap64 (by omega) (by omega)
  have w2:IntKind.i64.wrap ((x:Int)-(y:Int)-(l:Int))=(x:Int)-(y:Int)-(l:Int):=wrap64 (by omega) (by omega)
  have step:∀r l':Nat,r<1000000000→l'≤1→r+y+l=x+1000000000*l'→(∀d∈outs++[r],d<1000000000)∧val 1000000000 ((aD 1000000000 a).take (i+1))+1000000000^(i+1)*l'=val 1000000000 (outs++[r])+val 1000000000 ((aD 1000000000 b).take (i+1)):=by
   intro r l' hr _ hd
   refine⟨fun d h => ?_,?_⟩
   ·rcases List.mem_append.1 h with h | h
    ·exact nI d h
    ·rw[List.mem_singleton.1 h];exact hr
   ·rw[t1,t2,wM,←hi,aLM]
    exact Lz hv hd
  by_cases jV:(x:Int)-(y:Int)-(l:Int)<0
  ·obtain⟨r,hr⟩:∃r:Nat,r+y+l=x+1000000000:=⟨x+1000000000-l-y,by omega⟩
   have w3:IntKind.i64.wrap ((x:Int)-(y:Int)-(l:Int)+1000000000)=(r:Int):=wrapN r (by omega) (by omega)
   obtain⟨s1,s2⟩:=step r 1 (by omega) (aKl _) (by omega)
   have a1:=apD (ds:=outs) (d:=r) (by omega)
   simp only[pG,g0,g1,g5,g6,g11,g12,bX,e1,c2,w1,w2,w3,wi,jV,wL,zR,a1,VX,Nat.reduceEqDiff,Nat.reduceAdd]
   refine⟨(i+1,outs++[r],1),by simp only;omega,by simp;omega,by simp only;omega,by simp,s1,aKl _,s2,?_⟩
   simp only[aKw,aMw]
   try (repeat' apply aL1)<;>first | rfl | trivial
  ·obtain⟨r,hr⟩:∃r:Nat,r+y+l=x:=⟨x-l-y,by omega⟩
   obtain⟨s1,s2⟩:=step r 0 (by omega) (by omega) (by omega)
   have er:(x:Int)-(y:Int)-(l:Int)=(r:Int):=by omega
   have a1:=apD (ds:=outs) (d:=r) (by omega)
   have w3:IntKind.i64.wrap ((x:Int)-(y:Int)-(l:Int))=(r:Int):=wrapN r er (by omega)
   have Kd:¬(r:Int)<0:=by omega
   simp only[pG,g0,g1,g5,g6,g11,g12,bX,e1,c2,w1,w3,wi,Kd,wL,zR,a1,VX,Nat.reduceEqDiff,Nat.reduceAdd]
   refine⟨(i+1,outs++[r],0),by simp only;omega,by simp;omega,by simp only;omega,by simp,s1,aKP _,s2,?_⟩
   simp only[aKw,aMw]
   try (repeat' apply aL1)<;>first | rfl | trivial
 ·have nC:i=(aD 1000000000 a).length:=by omega
  rw[nC,aLy,aLe (l:=aD 1000000000 b) hle,cI (by decide),cI (by decide)] at hv
  have dQ:=rI nI
  rw[←hi,nC] at dQ
  have EX:val 1000000000 outs=a-b:=by
   rcases aKo l 1 with h | h
   ·have:l=0:=by omega
    subst this
    rw[aMz] at hv
    omega
   ·have:l=1:=by omega
    subst this
    rw[Nat.mul_one] at hv
    omega
  simp only[pG,g0,g1,g5,g6,g11,g12,bX,VX,Nat.reduceEqDiff,Nat.reduceAdd]
  refine Ke nI rfl (by omega) EX ?_
  simp only[VX,Nat.reduceEqDiff,Nat.reduceAdd]
  exact Vh _
theorem fE (a b:Nat) (ha:(aD 1000000000 a).length≤17592186044416) (hb:(aD 1000000000 b).length≤17592186044416):TC 152 [bW a,bW b] (bW (a*b)):=by
 refine TC.walk ⟨true,false⟩ KF rfl (aL9 rfl) (by simp[aO,cG]) (pR _) ?_
 have va:=cI (b:=1000000000) (by decide) a
 have vb:=cI (b:=1000000000) (by decide) b
 have la:=gF (b:=1000000000) (by decide) a
 have lb:=gF (b:=1000000000) (by decide) b
 unfold bW
 generalize aD 1000000000 a=xs at *
 generalize aD 1000000000 b=ys at *
 have w0:IntKind.i64.wrap ((xs.length:Int)+(ys.length:Int))=((xs.length+ys.length:Nat):Int):=wrapN _ (by omega) (by omega)
 simp only[E5,Dp,eR,w0,Sv (xs.length+ys.length) (by omega),VX,Nat.reduceEqDiff,Nat.reduceAdd]
 generalize hN:xs.length+ys.length=N at *
 refine aR (fun(s:Nat×List Nat) ρ H=>s.1≤xs.length∧H=[.row 0 (s.2.map tV) 1 true]∧s.2.length=N∧(∀d∈s.2,d<1000000000)∧val 1000000000 (s.2.take (s.1+ys.length))=val 1000000000 (xs.take s.1)*b∧(∀j,s.1+ys.length≤j→j<N→s.2[j]? = some 0) ∧
  ρ 0=jJ xs∧ρ 1=jJ ys∧ρ 5 = .ref 0 0 0 N N∧ρ 17=VI xs.length∧ρ 18=VI s.1) (fun s=>xs.length-s.1) (0,aLb N 0) ⟨aKP _,rfl,by simp,Cx (by decide) _,by simp[val,aMB,uZ],fun j _ h=>by simp[List.getElem?_replicate,h],rfl,rfl,rfl,rfl,rfl⟩ ?_
 rintro⟨i,outs⟩ ρ H ⟨hi,rfl,iA,nI,hv,hzr,g0,g1,g5,g17,g18⟩
 simp only at hi iA nI hv hzr g18
 by_cases bX:(i:Int)<(xs.length:Int)
 ·obtain⟨x,hx⟩:∃x,xs[i]? = some x:=⟨_,aKs (by omega)⟩
  have lx:=la x (aLf hx)
  have e1:∀os:List Nat,bJ 1 (jJ xs) (VI i) [.row 0 (os.map tV) 1 true]=some (.cF (tV x) 0):=fun os=>aI (f:=tV) (t := .op) (size:=1) (k := .i64) hx rfl
  simp only[vU,g0,g1,g5,g17,g18,bX,eR,VX,Nat.reduceEqDiff,Nat.reduceAdd]
  refine aR (fun(s:Nat×List Nat×Nat) ρ H=>s.1≤ys.length∧H=[.row 0 (s.2.1.map tV) 1 true]∧s.2.1.length=N∧(∀d∈s.2.1,d<1000000000)∧s.2.2<1000000000 ∧
   val 1000000000 (s.2.1.take (i+s.1))+1000000000^(i+s.1)*s.2.2=val 1000000000 (outs.take (i+s.1))+1000000000^i*(x*val 1000000000 (ys.take s.1))∧(∀j,i+s.1≤j→s.2.1[j]? = outs[j]?) ∧
   ρ 0=jJ xs∧ρ 1=jJ ys∧ρ 5 = .ref 0 0 0 N N∧ρ 6=VI i∧ρ 7=VI s.2.2∧ρ 17=VI xs.length∧ρ 18=VI i∧ρ 22=VI ys.length∧ρ 23=VI s.1) (fun s=>ys.length-s.1) (0,outs,0) ⟨aKP _,rfl,iA,nI,by simp,by simp[val],fun _ _=>rfl,by (repeat' apply aL1)<;>first | rfl | trivial⟩ ?_
  rintro⟨k,os,c⟩ tG H ⟨hk,rfl,S7,SM,hc,Qp,IK,k0,k1,k5,k6,k7,Iw,WN,k22,k23⟩
  simp only at hk S7 SM hc Qp IK k7 k23
  have wi:IntKind.i64.wrap ((i:Int)+1)=((i+1:Nat):Int):=wrapN (i+1) (by omega) (by omega)
  by_cases TH:(k:Int)<(ys.length:Int)
  ·obtain⟨y,hy⟩:∃y,ys[k]? = some y:=⟨_,aKs (by omega)⟩
   have ly:=lb y (aLf hy)
   obtain⟨o,ho⟩:∃o,os[i+k]? = some o:=⟨_,aKs (by omega)⟩
   have lo:=SM o (aLf ho)
   have ho':outs[i+k]? = some o:=by rw[←IK (i+k) (aKl _)];exact ho
   have f1:bJ 1 (jJ ys) (VI k) [.row 0 (os.map tV) 1 true]=some (.cF (tV y) 0):=aI (f:=tV) (t := .op) (size:=1) (k := .i64) hy rfl
   have w1:IntKind.i64.wrap ((i:Int)+(k:Int))=((i+k:Nat):Int):=wrapN _ (by omega) (by omega)
   have f2:bJ 1 (.ref 0 0 0 N N) (VI ((i+k:Nat):Int)) [.row 0 (os.map tV) 1 true]=some (.ptr 0 0 (i+k) 0):=adT (by omega)
   have f3:bI false 1 (.ptr 0 0 (i+k) 0) [.row 0 (os.map tV) 1 true]=some (VI (o:Int)):=Pq Nu ho
   have f4:∀s:Nat,bK 0 1 (.ptr 0 0 (i+k) 0) (VI (s:Int)) [.row 0 (os.map tV) 1 true]=some [.row 0 ((os.set (i+k) s).map tV) 1 true]:=fun s=>Sa (by omega)
   have CB:x*y≤999999999*999999999:=aMC (by omega) (by omega)
   have w5:IntKind.i64.wrap ((x:Int)*(y:Int))=((x*y:Nat):Int):=wrapN _ (by simp) (by omega)
   have w6:IntKind.i64.wrap ((o:Int)+((x*y:Nat):Int))=((o+x*y:Nat):Int):=wrapN _ (by omega) (by omega)
   have w7:IntKind.i64.wrap (((o+x*y:Nat):Int)+(c:Int))=((o+x*y+c:Nat):Int):=wrapN _ (by omega) (by omega)
   have wk:IntKind.i64.wrap ((k:Int)+1)=((k+1:Nat):Int):=wrapN (k+1) (by omega) (by omega)
   have r1:=RE (o+x*y+c)
   have q1:=RM (o+x*y+c) (by omega)
   simp only[wO,k0,k1,k5,k6,k7,Iw,WN,k22,k23,TH,e1,f1,f2,f3,f4,w1,w5,w6,w7,wk,r1,q1,VX,Nat.reduceEqDiff,Nat.reduceAdd]
   have hq:(o+x*y+c) / 1000000000<1000000000:=aMD (by omega)
   refine⟨(k+1,os.set (i+k) ((o+x*y+c) % 1000000000),(o+x*y+c) / 1000000000),by simp only;omega,by omega,rfl,by rw[aMk];exact S7,nU SM (aKN _ (by decide)),hq,?_,fun j hj => ?_,by (repeat' apply aL1)<;>first | rfl | trivial⟩
   ·have h1:=aMn (o+x*y+c) 1000000000
    rw[show o+x*y+c=c+(x*y+o) by omega] at h1 ⊢
    rw[←Nat.add_assoc,fB (by omega),bE ho',bE hy,aLM]
    rw[aMt] at Qp ⊢
    exact Wv Qp h1
   ·rw[aKK (by omega)]
    exact IK j (by omega)
  ·have hke:k=ys.length:=by omega
   subst hke
   rw[aLy,vb,hv] at Qp
   have w1:IntKind.i64.wrap ((i:Int)+(ys.length:Int))=((i+ys.length:Nat):Int):=wrapN _ (by omega) (by omega)
   have Ch:os[i+ys.length]? = some 0:=by rw[IK _ (aKl _)];exact hzr _ (aKl _) (by omega)
   have f2:bJ 1 (.ref 0 0 0 N N) (VI ((i+ys.length:Nat):Int)) [.row 0 (os.map tV) 1 true]=some (.ptr 0 0 (i+ys.length) 0):=adT (by omega)
   have f3:bI false 1 (.ptr 0 0 (i+ys.length) 0) [.row 0 (os.map tV) 1 true]=some (VI ((0:Nat):Int)):=Pq Nu Ch
   have f4:∀s:Nat,bK 0 1 (.ptr 0 0 (i+ys.length) 0) (VI (s:Int)) [.row 0 (os.map tV) 1 true]=some [.row 0 ((os.set (i+ys.length) s).map tV) 1 true]:=fun s=>Sa (by omega)
   have w2:IntKind.i64.wrap (((0:Nat):Int)+(c:Int))=(c:Int):=wrapN _ (by omega) (by omega)
   simp only[wO,k0,k1,k5,k6,k7,Iw,WN,k22,k23,TH,eR,f2,f3,f4,w1,w2,wi,VX,Nat.reduceEqDiff,Nat.reduceAdd]
   refine⟨(i+1,os.set (i+ys.length) c),by simp only;omega,by omega,rfl,by rw[aMk];exact S7,nU SM hc,?_,fun j hj GU => ?_,by (repeat' apply aL1)<;>first | rfl | trivial⟩
   ·rw[show i+1+ys.length=i+ys.length+1 by omega,fB (by omega),Qp,bE hx,aKQ,aMx]
   ·rw[aKK (by omega),IK j (by omega)]
    exact hzr j (by omega) GU
 ·have nC:i=xs.length:=by omega
  subst nC
  rw[hN,aLy,va,aLe (by omega)] at hv
  simp only[vU,g0,g1,g5,g17,g18,bX,VX,Nat.reduceEqDiff,Nat.reduceAdd]
  refine Ke (m:=a*b) nI iA.symm (by omega) hv ?_
  simp only[VX,Nat.reduceEqDiff,Nat.reduceAdd]
  exact Vh _
theorem ED (a:Nat) (ha:(aD 1000000000 a).length≤17592186044416):TC 201 [bW a] (if (aD 1000000000 a).length≤2 then .dU [VI a,VB true] else .dU [VI 0,VB false]):=by
 refine TC.walk ⟨true,false⟩ MP rfl (aL9 rfl) (by simp[aO,cG]) (by split<;>rfl) ?_
 by_cases h2:(aD 1000000000 a).length≤2
 ·rw[if_pos h2]
  have h3:¬(2:Int)<((aD 1000000000 a).length:Int):=by omega
  have c0:TC 186 [bW a,VI 0] (VI ((a % 1000000000:Nat):Int)):=by have:=Fy a 0;rwa [aMr,Nat.div_one] at this
  have c1:TC 186 [bW a,VI 1] (VI ((a / 1000000000 % 1000000000:Nat):Int)):=by have:=Fy a 1;rwa [Nat.pow_one] at this
  have bF:=iO (b:=1000000000) (by decide) a
  have hp:1000000000^(aD 1000000000 a).length≤1000000000^2:=aMp (by decide) h2
  have hm:a / 1000000000<1000000000:=aMD (by omega)
  rw[aLP hm] at c1
  have hmd:=aMn a 1000000000
  have w1:IntKind.i64.wrap (1000000000*((a / 1000000000:Nat):Int))=((1000000000*(a / 1000000000):Nat):Int):=wrapN _ (by omega) (by omega)
  have w2:IntKind.i64.wrap (((a % 1000000000:Nat):Int)+((1000000000*(a / 1000000000):Nat):Int))=(a:Int):=wrapN _ (by omega) (by omega)
  simp only[Cp,Ac,cL,h3,c0,c1,w1,w2,VX,Nat.reduceEqDiff,Nat.reduceAdd]
  exact aH rfl
 ·rw[if_neg h2]
  have h3:(2:Int)<((aD 1000000000 a).length:Int):=by omega
  simp only[Cp,Ac,cL,h3,VX,Nat.reduceEqDiff,Nat.reduceAdd]
  exact aH rfl
theorem ajU {outs:List Nat} {n cap x:Nat} (hn:n=outs.length) (hc:n<cap):dI 0 1 8 (.ref 0 0 0 n cap) [VI (x:Int)] [.row 0 ((outs++aLb (cap-n) 0).map tV) 1 true]=some (.ref 0 0 0 (n+1) cap,[.row 0 (((outs++[x])++aLb (cap-(n+1)) 0).map tV) 1 true]):=by
 subst hn
 simp only[dI,aT,List.length_map,aKw,aMa,aKv,aLY,aLT]
 rw[if_pos ⟨by decide,by decide⟩,if_pos ⟨trivial,aKl _,by omega⟩,if_pos (by omega),if_neg (by omega),if_pos (by omega)]
 congr 3
 have e:aLb (cap-outs.length) 0=(0:Nat)::aLb (cap-(outs.length+1)) 0:=by
  rw[show cap-outs.length=(cap-(outs.length+1))+1 by omega,List.replicate_succ]
 simp only[dE,List.set_cons_zero,e,aMG,List.map_cons,aKv,aLY,List.map_nil]
 congr 1
 rw[aMH (by simp),←List.drop_drop,List.drop_left' (by simp)]
 simp
theorem A9 (a d:Nat) (ES:0<d) (hd:d<1000000000) (ha:(aD 1000000000 a).length<17592186044416):TC 203 [bW a,VI (d:Int)] (bW (a*d)):=by
 refine TC.walk ⟨true,false⟩ Ic rfl (aL9 rfl) (by simp[aO,cG];rfl) (pR _) ?_
 have w0:IntKind.i64.wrap (((aD 1000000000 a).length:Int)+1)=(((aD 1000000000 a).length+1:Nat):Int):=wrapN _ (by omega) (by omega)
 have mk:Bc [.int .i64 0] 8 (VI 0) (VI (((aD 1000000000 a).length+1:Nat):Int)) []=some (.ref 0 0 0 0 ((aD 1000000000 a).length+1),[.row 0 ((([]:List Nat)++aLb ((aD 1000000000 a).length+1-0) 0).map tV) 1 true]):=by
  simp only[Bc]
  rw[if_pos ⟨by omega,by omega,by omega,by omega⟩]
  simp
  rfl
 simp only[CC,BF,cL,w0,mk,VX,Nat.reduceEqDiff,Nat.reduceAdd]
 refine aR (fun(s:Nat×List Nat×Nat) ρ H=>s.1=s.2.1.length∧s.1≤(aD 1000000000 a).length∧H=[.row 0 ((s.2.1++aLb ((aD 1000000000 a).length+1-s.1) 0).map tV) 1 true]∧s.2.2<d∧aD 1000000000 (a*d)=s.2.1++aD 1000000000 (a / 1000000000^s.1*d+s.2.2) ∧
  ρ 1=VI d∧ρ 5 = .ref 0 0 0 s.1 ((aD 1000000000 a).length+1)∧ρ 6=VI s.2.2∧ρ 14=bW a∧ρ 15=VI (aD 1000000000 a).length∧ρ 16=VI s.1) (fun s=>(aD 1000000000 a).length-s.1) (0,[],0) ⟨rfl,aKP _,rfl,ES,by simp,rfl,rfl,rfl,rfl,rfl,rfl⟩ ?_
 rintro⟨i,outs,c⟩ ρ H ⟨hi,uU,rfl,hc,hv,g1,g5,g6,g14,g15,g16⟩
 simp only at hi uU hc hv g5 g6 g16
 by_cases bX:(i:Int)<((aD 1000000000 a).length:Int)
 ·have hx:=OZ (b:=1000000000) (by decide) (n:=a) (i:=i) (by omega)
  have hA:=(GM (b:=1000000000) (by decide) (n:=a) (i:=i)).1 (by omega)
  have e1:∀H,bJ 1 (bW a) (VI i) H=some (.cF (tV (a / 1000000000^i % 1000000000)) 0):=fun H=>aI (f:=tV) (t := .op) (size:=1) (k := .i64) hx rfl
  have lx:=aKN (a / 1000000000^i) (show 0<1000000000 by decide)
  have gD:a / 1000000000^i*d+c≠0:=by
   have:=Nat.mul_ne_zero hA (show d≠0 by omega)
   omega
  rw[acS (by decide) gD,←wJ] at hv
  generalize a / 1000000000^i % 1000000000=x at *
  have hxd:x*d≤999999999*999999999:=aMC (by omega) (by omega)
  have w1:IntKind.i64.wrap ((x:Int)*(d:Int))=((x*d:Nat):Int):=wrapN _ (by simp) (by omega)
  have w2:IntKind.i64.wrap (((x*d:Nat):Int)+(c:Int))=((x*d+c:Nat):Int):=wrapN _ (by omega) (by omega)
  have wi:IntKind.i64.wrap ((i:Int)+1)=((i+1:Nat):Int):=wrapN (i+1) (by omega) (by omega)
  have r1:=RE (x*d+c)
  have q1:=RM (x*d+c) (by omega)
  have a1:=ajU (outs:=outs) (n:=i) (cap:=(aD 1000000000 a).length+1) (x:=(x*d+c) % 1000000000) hi (by omega)
  have hq:(x*d+c) / 1000000000<d:=by
   rw[aMF (by decide)]
   have h1:x*d≤999999999*d:=aKM _ (by omega)
   omega
  simp only[nN,g1,g5,g6,g14,g15,g16,bX,e1,w1,w2,wi,r1,q1,wL,zR,a1,VX,Nat.reduceEqDiff,Nat.reduceAdd]
  refine⟨(i+1,outs++[(x*d+c) % 1000000000],(x*d+c) / 1000000000),by simp only;omega,by simp;omega,by simp only;omega,rfl,hq,by rw[hv,aL7];rfl,?_⟩
  try (repeat' apply aL1)<;>first | rfl | trivial
 ·have nC:i=(aD 1000000000 a).length:=by omega
  have hz:a / 1000000000^i=0:=by
   have:=mt (GM (b:=1000000000) (by decide) (n:=a) (i:=i)).2
   omega
  rw[hz,Nat.zero_mul,aLT] at hv
  by_cases hcp:(0:Int)<(c:Int)
  ·rw[F7 (b:=1000000000) (by decide) (show c≠0 by omega) (show c<1000000000 by omega)] at hv
   have a1:=ajU (outs:=outs) (n:=i) (cap:=(aD 1000000000 a).length+1) (x:=c) hi (by omega)
   simp only[nN,g1,g5,g6,g14,g15,g16,bX,hcp,wL,zR,a1,VX,Nat.reduceEqDiff,Nat.reduceAdd]
   rw[bW,hv]
   rw[ZX aT (by simp;omega) (by omega) (fM fun _=>rfl)]
   rw[aMG,aMH (by simp;omega)]
  ·have hc0:c=0:=by omega
   rw[hc0,cD,aLt] at hv
   simp only[nN,g1,g5,g6,g14,g15,g16,bX,hcp,VX,Nat.reduceEqDiff,Nat.reduceAdd]
   rw[bW,hv]
   rw[ZX aT (by simp;omega) (by omega) (fM fun _=>rfl)]
   rw[aMG,aMH (by simp;omega)]
theorem No (a b:Nat) (ha:a≤9223372036854775807) (hb:0<b):dK .quo (.int .i64 (a:Int)) (.int .i64 (b:Int))=some (.int .i64 ((a / b:Nat):Int)):=by
 have h1:¬((b:Int)=0):=by omega
 have h2:(a:Int).tdiv (b:Int)=((a / b:Nat):Int):=by rw[aMv (by omega)];simp
 have h3:a / b≤a:=Nat.div_le_self _ _
 simp only[dK,if_true,h1,if_false,h2]
 generalize a / b=q at *
 rw[wrap64 (by omega) (by omega)]
theorem NL (a b:Nat) (hb:0<b):dK .rem (.int .i64 (a:Int)) (.int .i64 (b:Int))=some (.int .i64 ((a % b:Nat):Int)):=by
 have h1:¬((b:Int)=0):=by omega
 have h2:(a:Int).tmod (b:Int)=((a % b:Nat):Int):=by rw[aMu (by omega)];simp
 simp only[dK,if_true,h1,if_false,h2]
theorem akD {r d x:Nat} (hr:r<d) (hd:d<1000000000) (hx:x<1000000000):r*1000000000+x≤9223372036854775807:=by omega
theorem azF {r d x:Nat} (ES:0<d) (hr:r<d) (hx:x<1000000000):(r*1000000000+x) / d<1000000000:=by
 rw[aMF ES]
 omega
theorem BH (a d:Nat) (ES:0<d) (hdT:d<1000000000) (ha:(aD 1000000000 a).length≤17592186044416):TC 202 [bW a,VI (d:Int)] (.dU [bW (a / d),VI ((a % d:Nat):Int)]):=by
 refine TC.walk ⟨true,false⟩ IA rfl (aL9 rfl) (by simp[aO,cG];rfl) (by simp[gW,sO,pR,qD]) ?_
 have va:=cI (b:=1000000000) (by decide) a
 have la:=gF (b:=1000000000) (by decide) a
 unfold bW
 generalize aD 1000000000 a=xs at *
 have w0:IntKind.i64.wrap ((xs.length:Int)-1)=(xs.length:Int)-1:=wrap64 (by omega) (by omega)
 simp only[Di,Bh,eR,w0,Sv xs.length (by omega),VX,Nat.reduceEqDiff,Nat.reduceAdd]
 refine aR (fun(s:Nat×List Nat×Nat) ρ H=>s.1≤xs.length∧H=[.row 0 (s.2.1.map tV) 1 true]∧s.2.1.length=xs.length∧(∀d∈s.2.1,d<1000000000)∧s.2.2<d∧val 1000000000 (s.2.1.drop s.1)*d+s.2.2=val 1000000000 (xs.drop s.1) ∧
  ρ 0=jJ xs∧ρ 1=VI d∧ρ 6 = .ref 0 0 0 xs.length xs.length∧ρ 7=VI s.2.2∧ρ 8=VI ((s.1:Int)-1)) (fun s=>s.1) (xs.length,aLb xs.length 0,0) ⟨aKl _,rfl,by simp,Cx (by decide) _,ES,by simp[val,aME],rfl,rfl,rfl,rfl,rfl⟩ ?_
 rintro⟨j,outs,r⟩ ρ H ⟨hj,rfl,iA,nI,hr,hv,g0,g1,g6,g7,g8⟩
 simp only at hj iA nI hr hv g7 g8
 by_cases hz:(0:Int)≤(j:Int)-1
 ·obtain⟨i,rfl⟩:∃i,j=i+1:=⟨j-1,by omega⟩
  obtain⟨x,hx⟩:∃x,xs[i]? = some x:=⟨_,aKs (by omega)⟩
  have lx:=la x (aLf hx)
  have DV:((i+1:Nat):Int)-1=(i:Int):=by omega
  rw[DV] at g8 hz
  have e1:=aI (f:=tV) (t := .op) (H:=[.row 0 (outs.map tV) 1 true]) (size:=1) (k := .i64) hx rfl
  have e3:bJ 1 (.ref 0 0 0 xs.length xs.length) (VI i) [.row 0 (outs.map tV) 1 true]=some (.ptr 0 0 i 0):=adT (by omega)
  have e4:∀s:Nat,bK 0 1 (.ptr 0 0 i 0) (VI (s:Int)) [.row 0 (outs.map tV) 1 true]=some [.row 0 ((outs.set i s).map tV) 1 true]:=fun s=>Sa (by omega)
  have w2:IntKind.i64.wrap ((i:Int)-1)=(i:Int)-1:=wrap64 (by omega) (by omega)
  have w4:IntKind.i64.wrap ((r:Int)*1000000000)=((r*1000000000:Nat):Int):=wrapN _ (by omega) (by omega)
  have w5:IntKind.i64.wrap (((r*1000000000:Nat):Int)+(x:Int))=((r*1000000000+x:Nat):Int):=wrapN _ (by omega) (by omega)
  have EU:r*1000000000+x≤9223372036854775807:=akD hr hdT lx
  have q1:=No (r*1000000000+x) d EU ES
  have q2:=NL (r*1000000000+x) d ES
  have hq:(r*1000000000+x) / d<1000000000:=azF ES hr lx
  simp only[tD,g0,g1,g6,g7,g8,hz,e1,e3,e4,w2,w4,w5,q1,q2,VX,Nat.reduceEqDiff,Nat.reduceAdd]
  refine⟨(i,outs.set i ((r*1000000000+x) / d),(r*1000000000+x) % d),by simp only;omega,by omega,rfl,by rw[aMk];exact iA,nU nI hq,aKN _ ES,?_,by (repeat' apply aL1)<;>first | rfl | trivial⟩
  have h1:=aMn (r*1000000000+x) d
  rw[set_drop (by omega),vI,wT hx,←hv]
  exact VE h1
 ·have XU:j=0:=by omega
  subst XU
  rw[aLx,aLx,va] at hv
  have h1:a / d=val 1000000000 outs:=by
   rw[←hv,aLN,Nat.mul_add_div ES,aLS hr,aMA]
  have h2:a % d=r:=by
   rw[←hv,aLN,Nat.mul_add_mod,aLP hr]
  simp only[tD,g0,g1,g6,g7,g8,hz,VX,Nat.reduceEqDiff,Nat.reduceAdd]
  refine Ke (m:=a / d) nI iA.symm (by omega) h1.symm ?_
  simp only[g7,VX,Nat.reduceEqDiff,Nat.reduceAdd]
  rw[h2]
  exact aH (by simp[aX,aO,AT,bW,qD])
end Go.PM