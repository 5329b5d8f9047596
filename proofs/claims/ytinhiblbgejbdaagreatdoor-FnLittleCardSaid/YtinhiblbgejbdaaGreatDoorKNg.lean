/- Texts of a claim, in one: part 7. -/
import Derived.Test.YtinhiblbgejbdaaGreatDoorKNf
set_option linter.unusedSimpArgs false
set_option linter.unusedVariables false
namespace Go.PM
theorem BO (n:Nat) (h:n<4294967296):TC 117 [VK .u64 1,VK .u64 (n:Int)] (.eX [VK .u64 0,VK .u64 (n:Int)]):=by
 refine TC.walk ⟨true,false⟩ D1 rfl (Nat.le_of_ble_eq_true rfl) rfl rfl ?_
 have a1:cY .and (.int .u64 1) (.int .u64 4294967295)=some (.int .u64 1):=KV 1 (by decide)
 have a2:cY .and (.int .u64 (n:Int)) (.int .u64 4294967295)=some (.int .u64 (n:Int)):=by rw[KV n (by omega),Nat.mod_eq_of_lt h]
 have a0:cY .and (.int .u64 0) (.int .u64 4294967295)=some (.int .u64 0):=KV 0 (by decide)
 have s1:cY .shr (.int .u64 1) (.int .u64 32)=some (.int .u64 0):=oN 1 .u64
 have s0:cY .shr (.int .u64 0) (.int .u64 32)=some (.int .u64 0):=oN 0 .u64
 have s2:cY .shr (.int .u64 (n:Int)) (.int .u64 32)=some (.int .u64 0):=by rw[oN n .u64,Nat.div_eq_of_lt h];rfl
 have w0:IntKind.u64.wrap 0=0:=fF 0 (by decide)
 have wn:IntKind.u64.wrap (n:Int)=n:=fF n (by omega)
 simp only[zE,uW,a0,a1,a2,s0,s1,s2,w0,wn,Int.one_mul,Int.zero_mul,Int.mul_zero,Int.add_zero,VX,Nat.reduceEqDiff,Nat.reduceAdd]
 exact aI rfl
theorem DD (n:Nat) (h:n<4294967296):TC 103 [VK .u64 1,VK .u64 (n:Int)] (.eX [VK .u64 0,VK .u64 (n:Int)]):=by
 refine TC.walk ⟨true,false⟩ Gb rfl (Nat.le_of_ble_eq_true rfl) rfl rfl ?_
 simp only[Cq,zZ,BO n h,VX,Nat.reduceEqDiff,Nat.reduceAdd]
 exact aI rfl
def Ce (aA:Int) (cs:List aJ) (ws:List Nat) (b k:Nat):Nat:=if uA aA cs (ws.getD k 0) (ws.getD b 0) then k else b
theorem VD {aA:Int} {cs:List aJ} {ws:List Nat} (cI:0<ws.length):∀n,n≤ws.length→(List.range n).foldl (Ce aA cs ws) 0<ws.length:=by
 intro n
 induction n with
 | zero=>intro _;exact cI
 |
  succ n ih =>
  intro hn
  rw[List.range_succ,List.foldl_append,List.foldl_cons,List.foldl_nil]
  have:=ih (by omega)
  unfold Ce
  split
  ·omega
  ·exact this
set_option maxHeartbeats 1000000 in
theorem Az (r:Int) (cs:List aJ) (ws:List Nat) (hr:r=2∨r=3) (Xn:∀i∈ws,i<cs.length) (cI:0<ws.length) (hn:ws.length≤1000000) (ρ:cN) (g0:ρ 0=VI r) (g1:ρ 1=Su ws) (g2:ρ 2=fR cs) (g7:ρ 7=VI 0) (g21:ρ 21=Su ws) (g22:ρ 22=VI ws.length) (g23:ρ 23=VI 0) :
  VW ⟨true,false⟩ 0 (.block 1 (.loop jZ)) (fun e aP H=>e = .normal∧aP 7=VI ((List.range ws.length).foldl (Ce r cs ws) 0:Nat)∧H=[]) ρ []:=by
 rw[tX]
 refine Aw (fun(i:Nat) ρ H=>i≤ws.length∧H=[]∧ρ 0=VI r∧ρ 1=Su ws∧ρ 2=fR cs∧ρ 7=VI ((List.range i).foldl (Ce r cs ws) 0:Nat)∧ρ 21=Su ws∧ρ 22=VI ws.length∧ρ 23=VI i) (fun i=>ws.length-i) 0 ⟨Nat.zero_le _,rfl,g0,g1,g2,g7,g21,g22,g23⟩ ?_
 clear g0 g1 g2 g7 g21 g22 g23 ρ
 rintro i ρ H ⟨hi,rfl,h0,h1,h2,h7,Zj,YJ,h23⟩
 by_cases cX:(i:Int)<(ws.length:Int)
 ·have Gk:i<ws.length:=by omega
  have oY:=VD (aA:=r) (cs:=cs) cI i hi
  have mZ:(List.range (i+1)).foldl (Ce r cs ws) 0=Ce r cs ws ((List.range i).foldl (Ce r cs ws) 0) i:=by rw[List.range_succ,List.foldl_append,List.foldl_cons,List.foldl_nil]
  generalize (List.range i).foldl (Ce r cs ws) 0=b at *
  obtain⟨u,hu⟩:∃u,ws[i]? = some u:=⟨_,List.getElem?_eq_getElem Gk⟩
  obtain⟨v,hv⟩:∃v,ws[b]? = some v:=⟨_,List.getElem?_eq_getElem oY⟩
  obtain⟨x,hx⟩:∃x,cs[u]? = some x:=⟨_,List.getElem?_eq_getElem (Xn u (List.mem_of_getElem? hu))⟩
  obtain⟨y,hy⟩:∃y,cs[v]? = some y:=⟨_,List.getElem?_eq_getElem (Xn v (List.mem_of_getElem? hv))⟩
  have e1:=fun H=>aL (f:=kV) (t := .op) (H:=H) (size:=1) (k := .i64) hu rfl
  have e2:=fun H=>aL (f:=kV) (t := .op) (H:=H) (size:=1) (k := .i64) hv rfl
  have e3:=fun H=>aL (f:=cV) (t := .op) (H:=H) (size:=3) (k := .i64) hx rfl
  have e4:=fun H=>aL (f:=cV) (t := .op) (H:=H) (size:=3) (k := .i64) hy rfl
  have wi:IntKind.i64.wrap ((i:Int)+1)=((i+1:Nat):Int):=wrapN (i+1) (by omega) (by omega)
  have hF:Ce r cs ws b i=if uA r cs u v then i else b:=by simp only[Ce,List.getD_eq_getElem?_getD,hu,hv,Option.getD_some]
  rcases hr with rfl | rfl
  ·have El:uA 2 cs u v=decide (x.w<y.w):=by simp only[uA,Ew hx,Ew hy];rfl
   by_cases q:x.w<y.w
   ·rw[hF,El,decide_eq_true q,if_pos rfl] at mZ
    simp only[jZ,h0,h1,h2,h7,Zj,YJ,h23,cX,e1,e2,e3,e4,mY,wi,q,Int.reduceEq,eq_self,cV,kV,VX,Nat.reduceEqDiff,Nat.reduceAdd,kC,Nat.reduceLeDiff,Nat.reduceLT,Nat.reduceSub,yX,gK,iS,nH,tA,uE,bne_iff_ne,ne_eq,not_false_eq_true,not_true_eq_false]
    refine⟨i+1,by omega,rfl,by omega,?_⟩
    simp only[bE,h0,h1,h2,Zj,YJ,mZ,cC (aT _),cC (xA _),VX,Nat.reduceEqDiff,Nat.reduceAdd,List.take_zero,cR,List.all_nil,List.length_nil,bE,mR,cC]
   ·rw[hF,El,decide_eq_false q,if_neg (by decide)] at mZ
    simp only[jZ,h0,h1,h2,h7,Zj,YJ,h23,cX,e1,e2,e3,e4,mY,wi,q,Int.reduceEq,eq_self,cV,kV,VX,Nat.reduceEqDiff,Nat.reduceAdd,kC,Nat.reduceLeDiff,Nat.reduceLT,Nat.reduceSub,yX,gK,iS,nH,tA,uE,bne_iff_ne,ne_eq,not_false_eq_true,not_true_eq_false]
    refine⟨i+1,by omega,rfl,by omega,?_⟩
    simp only[bE,h0,h1,h2,h7,Zj,YJ,mZ,cC (aT _),cC (xA _),VX,Nat.reduceEqDiff,Nat.reduceAdd,List.take_zero,cR,List.all_nil,List.length_nil,bE,mR,cC]
  ·have El:uA 3 cs u v=decide (x.k<y.k):=by simp only[uA,Vr hx,Vr hy];rfl
   by_cases q:x.k<y.k
   ·rw[hF,El,decide_eq_true q,if_pos rfl] at mZ
    simp only[jZ,h0,h1,h2,h7,Zj,YJ,h23,cX,e1,e2,e3,e4,mY,wi,q,Int.reduceEq,eq_self,cV,kV,VX,Nat.reduceEqDiff,Nat.reduceAdd,kC,Nat.reduceLeDiff,Nat.reduceLT,Nat.reduceSub,yX,gK,iS,nH,tA,uE,bne_iff_ne,ne_eq,not_false_eq_true,not_true_eq_false]
    refine⟨i+1,by omega,rfl,by omega,?_⟩
    simp only[bE,h0,h1,h2,Zj,YJ,mZ,cC (aT _),cC (xA _),VX,Nat.reduceEqDiff,Nat.reduceAdd,List.take_zero,cR,List.all_nil,List.length_nil,bE,mR,cC]
   ·rw[hF,El,decide_eq_false q,if_neg (by decide)] at mZ
    simp only[jZ,h0,h1,h2,h7,Zj,YJ,h23,cX,e1,e2,e3,e4,mY,wi,q,Int.reduceEq,eq_self,cV,kV,VX,Nat.reduceEqDiff,Nat.reduceAdd,kC,Nat.reduceLeDiff,Nat.reduceLT,Nat.reduceSub,yX,gK,iS,nH,tA,uE,bne_iff_ne,ne_eq,not_false_eq_true,not_true_eq_false]
    refine⟨i+1,by omega,rfl,by omega,?_⟩
    simp only[bE,h0,h1,h2,h7,Zj,YJ,mZ,cC (aT _),cC (xA _),VX,Nat.reduceEqDiff,Nat.reduceAdd,List.take_zero,cR,List.all_nil,List.length_nil,bE,mR,cC]
 ·have zK:i=ws.length:=by omega
  subst zK
  simp only[jZ,h7,YJ,h23,cX,VX,Nat.reduceEqDiff,Nat.reduceAdd]
theorem Og (aA:Int) (cs:List aJ) (ws:List Nat) (hr:0≤aA∧aA≤3) (Xn:∀i∈ws,i<cs.length) (cI:0<ws.length) (hn:ws.length≤1000000):TC 75 [VI aA,Su ws,fR cs] (VI (nA aA cs ws)):=by
 refine TC.walk ⟨true,false⟩ Mf rfl (Nat.le_of_ble_eq_true rfl) (by simp only[aO,aT,xA];rfl) rfl ?_
 have hq:aA=0∨aA=1∨aA=2∨aA=3:=by omega
 rcases hq with rfl | rfl | rfl | rfl
 ·simp only[xS,qS,Int.reduceEq,eq_self,VX,Nat.reduceEqDiff,Nat.reduceAdd]
  exact aI rfl
 ·have w1:IntKind.i64.wrap ((ws.length:Int)-1)=((ws.length-1:Nat):Int):=wrapN _ (by omega) (by omega)
  simp only[xS,qS,w1,Int.reduceEq,eq_self,VX,Nat.reduceEqDiff,Nat.reduceAdd]
  exact aI rfl
 ·simp only[xS,qS,Int.reduceEq,eq_self,VX,Nat.reduceEqDiff,Nat.reduceAdd]
  refine H0 (Az 2 cs ws (.inl rfl) Xn cI hn _ ?_ ?_ ?_ ?_ ?_ ?_ ?_) ?_
  any_goals simp only[VX,Nat.reduceEqDiff,Nat.reduceAdd]
  rintro aP H' ⟨h7,rfl⟩
  simp only[h7,VX,Nat.reduceEqDiff,Nat.reduceAdd]
  exact aI rfl
 ·simp only[xS,qS,Int.reduceEq,eq_self,VX,Nat.reduceEqDiff,Nat.reduceAdd]
  refine H0 (Az 3 cs ws (.inr rfl) Xn cI hn _ ?_ ?_ ?_ ?_ ?_ ?_ ?_) ?_
  any_goals simp only[VX,Nat.reduceEqDiff,Nat.reduceAdd]
  rintro aP H' ⟨h7,rfl⟩
  simp only[h7,VX,Nat.reduceEqDiff,Nat.reduceAdd]
  exact aI rfl
end Go.PM
namespace Go.PM
section
variable {α:Type} {f:α→VV} {H:aC} {b g e lo:Nat} {X Y:List α}
theorem H8 {es:List VV} {w:Bool} (h:aM H b g=some (es,e,w)):H.set b (.row g es e w)=H:=by
 obtain⟨aR,vZ⟩:=List.getElem?_eq_some_iff.1 (bF.1 h)
 rw[←vZ,List.set_getElem_self]
theorem AD {o:Nat}:bW (X.map f) o (Y.map f)=(X.take o++Y++X.drop (o+Y.length)).map f:=by
 simp[bW]
theorem HR {zero:List Value} {z:α} {o n cc:Nat} (h:aM H b g=some (X.map f,zero.length,true)) (hz:elemOf (zero.map gL)=f z) (hs:(zero.map gL).all cB=true) (dP:lo≤b) (ho:o+n≤X.length) :
  EV lo zero (.ref b g o n cc) H=some (H.set b (.row g ((X.take o++List.replicate n z++X.drop (o+n)).map f) zero.length true)):=by
 simp only[EV,h]
 by_cases hn:n=0
 ·subst hn
  rw[if_pos rfl]
  have:X.take o++List.replicate 0 z++X.drop (o+0)=X:=by simp
  rw[this,H8 h]
 ·rw[if_neg hn,if_pos ⟨trivial,dP,by simpa using ho,hs⟩,hz]
  have:=AD (f:=f) (X:=X) (Y:=List.replicate n z) (o:=o)
  rw[List.map_replicate,List.length_replicate] at this
  rw[this]
theorem Pe {i c bytes:Nat} (h:aM H b g=some (X.map f,e,true)) (hc:X.length=c) (dP:lo≤b) (he:1≤e) (hb:1≤bytes) (hi:i+Y.length≤c) :
  dW lo e bytes (.ref b g 0 i c) (Y.map f) H=some (.ref b g 0 (i+Y.length) c,H.set b (.row g ((X.take i++Y++X.drop (i+Y.length)).map f) e true)):=by
 simp only[dW,h,List.length_map]
 rw[if_pos ⟨hb,he⟩,if_pos ⟨trivial,dP,by omega⟩,if_pos hi]
 by_cases hn:Y.length=0
 ·rw[if_pos hn]
  have hY:Y=[]:=List.eq_nil_of_length_eq_zero hn
  subst hY
  have:X.take i++[]++X.drop (i+([]:List α).length)=X:=by simp
  rw[this,H8 h]
  rfl
 ·rw[if_neg hn,if_pos (by omega),Nat.zero_add,AD]
theorem JF {o d cc:Nat} {y:VV} (h:aM H b g=some (X.map f,e,true)) (hy:cM e y H=some (Y.map f)) (dP:lo≤b) (ho:o+(Y.take d).length≤X.length) :
  Fz lo e (.ref b g o d cc) y H=some (VI (Y.take d).length,H.set b (.row g ((X.take o++Y.take d++X.drop (o+(Y.take d).length)).map f) e true)):=by
 simp only[Fz,hy,h]
 rw[←List.map_take,AD,if_pos ⟨trivial,dP,by simpa using ho⟩,List.length_map]
theorem Fq {o n cc:Nat} (h:aM H b g=some (X.map f,e,true)) (hs:∀x,(aB (f x)).all cB=true) (ho:o+n≤X.length):cM e (.ref b g o n cc) H=some (((X.drop o).take n).map f):=by
 have iN:(((X.map f).drop o).take n).all (fun x=>(aB x).all cB)=true:=by
  rw[List.all_eq_true]
  intro x hx
  have h1:=List.mem_of_mem_drop (List.mem_of_mem_take hx)
  obtain⟨y,_,rfl⟩:=List.mem_map.1 h1
  exact hs y
 simp only[cM,h]
 rw[if_pos ⟨trivial,by simpa using ho,iN⟩,List.map_take,List.map_drop]
theorem SU {o n c l h m:Nat} {es:List VV} {w:Bool} (hr:aM H b g=some (es,e,w)) (hl:l≤h) (hh:h≤m) (hm:m≤c) (cI:m≠l) {k1 k2 k3:IntKind} :
  AA e (.ref b g o n c) (some (VK k1 l)) (some (VK k2 h)) (some (VK k3 m)) H=some (.ref b g (o+l) (h-l) (m-l)):=by
 have e0:(0:Int)≤m∧(m:Int)≤(c:Int):=by omega
 have e1:(0:Int)≤h∧(h:Int)≤(m:Int):=by omega
 have e2:(0:Int)≤l∧(l:Int)≤(h:Int):=by omega
 simp only[AA,Dq,hr,if_true,dK,e0,e1,e2,Int.toNat_natCast,Option.isSome_some,true_and]
 simp[hl,cI]
end
set_option maxHeartbeats 1000000 in
theorem BM {lo b g c k i:Nat} {H:aC} {all:List Nat} (hb:aM H b g=some (all.map kV,1,true)) (dP:lo≤b) (hi:i<k) (hk:k≤c) (hc:all.length=c) :
  kH 76 [.ref b g 0 k c,VI i,VI ((i+1:Nat):Int)] lo H fun r H'=>∃Gp:List Nat,r = .ref b g 0 (k-1) c∧H'=H.set b (.row g (Gp.map kV) 1 true)∧Gp.length=c∧Gp.take (k-1)=(all.take k).eraseIdx i:=by
 refine kH.walk ⟨true,false⟩ sY (Nat.le_of_ble_eq_true rfl) ?_
 have oY:b<H.length:=(List.getElem?_eq_some_iff.1 (bF.1 hb)).1
 have hR:∀X:List Nat,aM (H.set b (.row g (X.map kV) 1 true)) b g=some (X.map kV,1,true):=fun X=>bF.2 (List.getElem?_set_self oY)
 have el:=dI (o:=0) (n:=k) (c:=c) hb
 have cI:¬(i:Int)=((i+1:Nat):Int):=by omega
 have s1:=SU (o:=0) (n:=k) (c:=c) (l:=i) (h:=i+1) (m:=k) (k1 := .i64) (k2 := .i64) (k3 := .i64) hb (by omega) (by omega) hk (by omega)
 have s2:=uM (o:=0) (n:=k) (c:=c) (h:=i) (k2 := .i64) hb (by omega)
 have s3:=vL (o:=0) (n:=k) (c:=c) (l:=i+1) (k1 := .i64) hb (by omega) hk
 have s4:=Fq (f:=kV) (o:=i+1) (n:=k-(i+1)) (cc:=c-(i+1)) hb (fun _=>rfl) (by omega)
 have hYl:((all.drop (i+1)).take (k-(i+1))).length=k-(i+1):=by simp;omega
 have s5:=Pe (f:=kV) (lo:=lo) (bytes:=8) (i:=i) (Y:=(all.drop (i+1)).take (k-(i+1))) hb hc dP (by decide) (by decide) (by rw[hYl];omega)
 rw[hYl,show i+(k-(i+1))=k-1 by omega] at s5
 have hXl:(all.take i++(all.drop (i+1)).take (k-(i+1))++all.drop (k-1)).length=c:=by simp;omega
 have hXt:(all.take i++(all.drop (i+1)).take (k-(i+1))++all.drop (k-1)).take (k-1)=(all.take k).eraseIdx i:=by
  rw[List.eraseIdx_eq_take_drop_succ,List.take_append_of_le_length (by simp;omega),List.take_of_length_le (by simp;omega),List.take_take,Nat.min_eq_left (by omega),List.drop_take]
 generalize all.take i++(all.drop (i+1)).take (k-(i+1))++all.drop (k-1)=X at *
 have el2:=dI (o:=0) (n:=k-1) (c:=c) (hR X)
 have s6:=M7 (o:=0) (n:=k-1) (c:=c) (l:=k-1) (h:=k) (k1 := .i64) (k2 := .i64) (hR X) (by omega) hk
 have s7:=HR (f:=kV) (zero:=[.int .i64 0]) (z:=0) (lo:=lo) (o:=k-1) (n:=k-(k-1)) (cc:=c-(k-1)) (hR X) rfl rfl dP (by omega)
 simp only[nB,lM,el,el2,cI,s1,s2,s3,s4,s5,s6,s7,List.set_set,VX,Nat.reduceEqDiff,Nat.reduceAdd]
 refine⟨_,rfl,?_,?_⟩
 ·simp;omega
 ·rw[←hXt,List.append_assoc,List.take_append_of_le_length (by simp;omega),List.take_take,Nat.min_self]
set_option maxHeartbeats 1000000 in
theorem BZ (v:Int) (N:Nat) (hN:N≤1000000):FC 72 [lE [v],VI N] fun n r L=>r = .ref n 0 0 N N∧L=[.row 0 ((List.replicate N v).map nV) 1 true]:=by
 refine FC.walk ⟨true,false⟩ pS (Nat.le_of_ble_eq_true rfl) fun n => ?_
 have eM:=DD N (by omega)
 have c1:IntKind.u64.wrap ((1:Nat):Int)=1:=fF 1 (by decide)
 have c2:IntKind.u64.wrap (N:Int)=(N:Int):=fF N (by omega)
 have c3:IntKind.i64.wrap (N:Int)=(N:Int):=wrap64 (by omega) (by omega)
 have g1:¬(N:Int)<0:=by omega
 have g2:¬(0:Int)<0:=by decide
 have g3:¬(9223372036854775807:Int)<(N:Int):=by omega
 have em:=fun H=>wZ (H:=H) (f:=nV) (x:=0) (z:=[.int .i64 0]) (bytes:=8) (n:=N) rfl (by omega) (by omega)
 have s1:=hC (size:=1) (v:=nV v) (t := .op) (H:=List.replicate n cZ.dead++[.row 0 ((List.replicate N (0:Int)).map nV) 1 true]) rfl rfl
 have r1:aM (List.replicate n cZ.dead++[.row 0 ((List.replicate N (0:Int)).map nV) 1 true]) n 0=some ((List.replicate N (0:Int)).map nV,1,true):=by rw[eH,bK]
 have s2:=JF (f:=nV) (Y:=[v]) (lo:=n) (o:=0) (d:=N) (cc:=N) (y:=lE [v]) r1 s1 (Nat.le_refl _) (by simp;omega)
 rw[gT] at s2
 simp only[kE,jI,eM,c1,c2,c3,g1,g2,g3,em,s2,VX,Nat.reduceEqDiff,Nat.reduceAdd,eH,dV,gT,iG,oV,List.append_assoc,Nat.le_add_right,gB,gS,List.length_replicate]
 refine bJ (fun(i:Nat) ρ H=>i≤N∧(i=0→N=0)∧H=List.replicate n cZ.dead++[.row 0 ((List.replicate i v++List.replicate (N-i) 0).map nV) 1 true]∧ρ 7 = .ref n 0 0 N N∧ρ 8=VI i) (fun i=>N-i) (min 1 N) ?_ ?_
 refine⟨by omega,by omega,?_,rfl,?_⟩
 ·congr 2
  cases N with
  | zero=>rfl
  |
   succ N =>
   have:min 1 (N+1)=1:=by omega
   rw[this]
   simp[List.replicate_succ]
 ·cases N with
  | zero=>rfl
  |
   succ N =>
   have:min 1 (N+1)=1:=by omega
   simp only[this,VX,Nat.reduceEqDiff,Nat.reduceAdd]
   simp
 rintro i ρ H ⟨hi,h0,rfl,h7,h8⟩
 have hr:aM (List.replicate n cZ.dead++[.row 0 ((List.replicate i v++List.replicate (N-i) 0).map nV) 1 true]) n 0=some ((List.replicate i v++List.replicate (N-i) 0).map nV,1,true):=by rw[eH,bK]
 have el:=dI (o:=0) (n:=N) (c:=N) hr
 by_cases cX:(i:Int)<(N:Int)
 ·have hXl:(List.replicate i v++List.replicate (N-i) (0:Int)).length=N:=by simp;omega
  have q1:=vL (o:=0) (n:=N) (c:=N) (l:=i) (k1 := .i64) hr hi (Nat.le_refl _)
  have q2:=uM (o:=0) (n:=N) (c:=N) (h:=i) (k2 := .i64) hr hi
  have q3:=Fq (f:=nV) (o:=0) (n:=i) (cc:=N) hr (fun _=>rfl) (by omega)
  have hY:((List.replicate i v++List.replicate (N-i) (0:Int)).drop 0).take i=List.replicate i v:=by
   rw[List.drop_zero,List.take_append_of_le_length (by simp),List.take_of_length_le (by simp)]
  rw[hY] at q3
  have hYd:(List.replicate i v).take (N-i)=List.replicate (min (N-i) i) v:=List.take_replicate
  have q4:=JF (f:=nV) (lo:=n) (o:=i) (d:=N-i) (cc:=N-i) hr q3 (Nat.le_refl _) (by rw[hYd,hXl];simp;omega)
  rw[gT,hYd,List.length_replicate,List.take_append_of_le_length (by simp),List.take_of_length_le (by simp)] at q4
  have hX':List.replicate i v++List.replicate (min (N-i) i) v++(List.replicate i v++List.replicate (N-i) (0:Int)).drop (i+min (N-i) i)=List.replicate (i+min (N-i) i) v++List.replicate (N-(i+min (N-i) i)) 0:=by
   rw[List.replicate_append_replicate,List.drop_append,List.drop_of_length_le (by simp),List.nil_append,List.length_replicate,List.drop_replicate]
   congr 2
   omega
  rw[hX'] at q4
  have wi:IntKind.i64.wrap ((i:Int)+((min (N-i) i:Nat):Int))=((i+min (N-i) i:Nat):Int):=wrapN _ (by omega) (by omega)
  simp only[fI,h7,h8,el,cX,q1,q2,q3,q4,wi,VX,Nat.reduceEqDiff,Nat.reduceAdd]
  exact⟨i+min (N-i) i,by omega,by omega,by omega,rfl,rfl⟩
 ·have zK:i=N:=by omega
  subst zK
  simp only[fI,h7,h8,el,cX,VX,Nat.reduceEqDiff,Nat.reduceAdd]
  refine⟨_,rfl,by simp[yE],?_,?_⟩
  ·simp only[kW,List.all_cons,List.all_nil,Bool.and_true]
   exact xB (f:=nV) (fun _=>rfl) _
  ·rw[Nat.sub_self,List.replicate_zero,List.append_nil]
theorem Ge (x now:Int):TC 74 [VI x,.cD (VI now) 0] (.sc (.bool (decide (x≤now)))):=by
 refine TC.walk ⟨true,false⟩ F9 rfl (Nat.le_of_ble_eq_true rfl) rfl rfl ?_
 by_cases h:x≤now<;>simp only[Cp,zL,h,VX,Nat.reduceEqDiff,Nat.reduceAdd]<;>exact aI rfl
theorem An (xs:List Int) (g:Nat) (cap:VV) (p:Int→Bool) (Aq:aX cap=true) (hg:∀x,TC g [VI x,cap] (.sc (.bool (p x)))) (hn:xs.length≤1000000000) :
  TC 104 [lE xs,.nJ g [cap]] (VI (match xs.findIdx? p with | some i=>i | none => -1)):=by
 refine TC.walk ⟨true,false⟩ iP rfl (Nat.le_of_ble_eq_true rfl) (by rw[show aO [lE xs,.nJ g [cap]]=(aX (lE xs)&&((aX cap&&true)&&true)) from rfl,gG,Aq];rfl) rfl ?_
 simp only[fJ,eK,VX,Nat.reduceEqDiff,Nat.reduceAdd]
 refine bJ (fun(i:Nat) ρ H=>i≤xs.length∧H=[]∧(∀j x,j<i→xs[j]? = some x→p x=false)∧ρ 0=lE xs∧ρ 1 = .nJ g [cap]∧ρ 7=VI xs.length∧ρ 8=VI i) (fun i=>xs.length-i) 0 ⟨Nat.zero_le _,rfl,fun j x h=>by omega,rfl,rfl,rfl,rfl⟩ ?_
 rintro i ρ H ⟨hi,rfl,iN,h0,h1,h7,h8⟩
 by_cases cX:(i:Int)<(xs.length:Int)
 ·obtain⟨x,hx⟩:∃x,xs[i]? = some x:=⟨_,List.getElem?_eq_getElem (by omega)⟩
  have e1:=aL (f:=nV) (t := .op) (H:=[]) (size:=1) (k := .i64) hx rfl
  have wi:IntKind.i64.wrap ((i:Int)+1)=((i+1:Nat):Int):=wrapN (i+1) (by omega) (by omega)
  have e2:=hg x
  cases hp:p x with
  |
   false =>
   rw[hp] at e2
   simp only[aW,h0,h1,h7,h8,cX,e1,e2,wi,List.cons_append,List.nil_append,VX,Nat.reduceEqDiff,Nat.reduceAdd]
   refine⟨i+1,by omega,by omega,fun j y hj hy => ?_,by (repeat' apply And.intro)<;>first | rfl | trivial⟩
   rcases Nat.lt_or_ge j i with GH | GH
   ·exact iN j y GH hy
   ·have:j=i:=by omega
    subst this
    rw[hx] at hy
    injection hy with hy
    exact hy▸hp
  |
   true =>
   rw[hp] at e2
   simp only[aW,h0,h1,h7,h8,cX,e1,e2,wi,List.cons_append,List.nil_append,VX,Nat.reduceEqDiff,Nat.reduceAdd]
   have:xs.findIdx? p=some i:=by
    rw[List.findIdx?_eq_some_iff_getElem]
    obtain⟨aR,vZ⟩:=List.getElem?_eq_some_iff.1 hx
    exact⟨aR,by rw[vZ];exact hp,fun j hj=>by
     have:=iN j _ hj (List.getElem?_eq_getElem (by omega))
     simp[this]⟩
   rw[this]
   exact aI rfl
 ·simp only[aW,h0,h1,h7,h8,cX,VX,Nat.reduceEqDiff,Nat.reduceAdd]
  have:xs.findIdx? p=none:=by
   rw[List.findIdx?_eq_none_iff]
   intro x hx
   obtain⟨j,hj⟩:=List.getElem?_of_mem hx
   exact iN j x (by have:=(List.getElem?_eq_some_iff.1 hj).1;omega) hj
  rw[this]
  exact aI rfl
theorem acH {H:aC} {bx:Nat} {v:VV} {w:Bool} (h:aM H bx 0=some ([v],1,w)) (hp:aX v=true):fz depth H (.ptr bx 0 0 0)=some (.cD v 0):=by
 have h1:aX (.ptr bx 0 0 0)=false:=rfl
 show fz (7+1) H _=_
 unfold fz
 simp only[h1,h,Bool.false_eq_true,if_false,List.getElem?_cons_zero]
 show (fz (6+1) H v).map _=_
 unfold fz
 rw[if_pos hp]
 rfl
theorem Yr {H:aC} {bx f:Nat} {v:VV} {w:Bool} (h:aM H bx 0=some ([v],1,w)) (hp:aX v=true):fz depth H (.nJ f [.ptr bx 0 0 0])=some (.nJ f [.cD v 0]):=by
 have h1:aX (.nJ f [.ptr bx 0 0 0])=false:=rfl
 have h2:aX (.ptr bx 0 0 0)=false:=rfl
 have h3:fz 7 H (.ptr bx 0 0 0)=some (.cD v 0):=by
  show fz (6+1) H _=_
  unfold fz
  simp only[h2,h,Bool.false_eq_true,if_false,List.getElem?_cons_zero]
  show (fz (5+1) H v).map _=_
  unfold fz
  rw[if_pos hp]
  rfl
 show fz (7+1) H _=_
 unfold fz
 simp only[h1,Bool.false_eq_true,if_false,List.mapM_cons,List.mapM_nil,h3]
 rfl
set_option maxHeartbeats 1000000 in
theorem xJ {lo b g c k bx fc:Nat} {H:aC} {all:List Int} {now:Int} {p:Int→Bool} (hb:aM H b g=some (all.map nV,1,true)) (hx:aM H bx 0=some ([VI now],1,true)) (hbx:b≠bx) (dP:lo≤b) (hk:k≤c) (hc:all.length=c) (hn:k≤1000000)
  (hp:∀x,TC fc [VI x,.cD (VI now) 0] (.sc (.bool (p x)))) (vO:BI.contains fc=false) :
  kH 73 [.ref b g 0 k c,.nJ fc [.ptr bx 0 0 0]] lo H fun r H'=>∃Gp:List Int,r = .ref b g 0 ((all.take k).filter fun x => !p x).length c∧H'=H.set b (.row g (Gp.map nV) 1 true)∧Gp.length=c∧Gp.take ((all.take k).filter fun x => !p x).length=(all.take k).filter fun x => !p x:=by
 refine kH.walk ⟨true,false⟩ nI (Nat.le_of_ble_eq_true rfl) ?_
 have oY:b<H.length:=(List.getElem?_eq_some_iff.1 (bF.1 hb)).1
 have hR:∀X:List Int,aM (H.set b (.row g (X.map nV) 1 true)) b g=some (X.map nV,1,true):=fun X=>bF.2 (List.getElem?_set_self oY)
 have hX:∀X:List Int,aM (H.set b (.row g (X.map nV) 1 true)) bx 0=some ([VI now],1,true):=fun X=>A2 hbx hx
 have h00:=H8 hb
 have e0:fz depth H (.ref b g 0 k c)=some (lE (all.take k)):=by
  rw[GR hb (by rw[List.length_map];omega) hk (C1 _),←List.map_take]
 have eI:∀lo K,cS 104 [.ref b g 0 k c,.nJ fc [.ptr bx 0 0 0]] lo H K=K (VI (match (all.take k).findIdx? p with | some i=>i | none => -1)) H:=fun lo K =>
  TC.flat (An (all.take k) fc (.cD (VI now) 0) p rfl hp (by simp;omega)) rfl (by rw[show aO [lE (all.take k),.nJ fc [.cD (VI now) 0]]=(aX (lE (all.take k))&&true) from rfl,gG];rfl) (XL e0 (Yr hx rfl)) rfl lo K
 have eP:∀(X:List Int) (x:Int) lo K,cS fc [VI x,.ptr bx 0 0 0] lo (H.set b (.row g (X.map nV) 1 true)) K=K (.sc (.bool (p x))) (H.set b (.row g (X.map nV) 1 true)):=fun X x lo K =>
  TC.flat (hp x) vO rfl (XL (aI rfl) (acH (hX X) rfl)) rfl lo K
 cases hi:(all.take k).findIdx? p with
 |
  none =>
  rw[hi] at eI
  have hf:((all.take k).filter fun x => !p x)=all.take k:=by
   rw[List.filter_eq_self]
   intro x hx
   rw[List.findIdx?_eq_none_iff] at hi
   rw[hi x hx]
   rfl
  simp only[fB,dY,eI,eq_self,VX,Nat.reduceEqDiff,Nat.reduceAdd]
  rw[hf]
  refine⟨all,?_,h00.symm,hc,?_⟩
  ·rw[List.length_take,Nat.min_eq_left (by omega)]
  ·rw[List.length_take,Nat.min_eq_left (by omega)]
 |
  some i =>
  rw[hi] at eI
  obtain⟨Gk,OG,iN⟩:=List.findIdx?_eq_some_iff_getElem.1 hi
  simp only[List.length_take] at Gk
  have cI:¬(i:Int) = -1:=by omega
  have wi:IntKind.i64.wrap ((i:Int)+1)=((i+1:Nat):Int):=wrapN (i+1) (by omega) (by omega)
  have hfi:(all.take i).filter (fun x => !p x)=all.take i:=by
   rw[List.filter_eq_self]
   intro x hx
   obtain⟨j,hj⟩:=List.getElem?_of_mem hx
   obtain⟨hj1,Io⟩:=List.getElem?_eq_some_iff.1 hj
   have GH:j<i:=by simp at hj1;omega
   have:=iN j GH
   rw[List.getElem_take] at this
   rw[List.getElem_take] at Io
   rw[Io] at this
   simpa using this
  have YB:p all[i]=true:=by rw[List.getElem_take] at OG;exact OG
  simp only[fB,dY,eI,cI,wi,VX,Nat.reduceEqDiff,Nat.reduceAdd]
  refine bJ (fun(s:Nat×Nat×List Int) ρ H1=>s.2.1≤k∧s.1≤s.2.1∧s.2.2.length=c∧s.2.2.take s.1=(all.take s.2.1).filter (fun x => !p x)∧s.2.2.drop s.2.1=all.drop s.2.1∧H1=H.set b (.row g (s.2.2.map nV) 1 true)∧ρ 0 = .ref b g 0 k c∧ρ 1 = .nJ fc [.ptr bx 0 0 0]∧ρ 5=VI s.1∧ρ 6=VI s.2.1) (fun s=>k-s.2.1) (i,i+1,all) ?_ ?_
  ·refine⟨by simp only;omega,by simp only;omega,hc,?_,rfl,h00.symm,rfl,rfl,rfl,rfl⟩
   simp only
   rw[List.take_add_one,List.filter_append,hfi,List.getElem?_eq_getElem (by omega)]
   simp[YB]
  rintro⟨j,m,X⟩ ρ H1 ⟨hm,hjm,hXl,hXt,hXd,rfl,h0,h1,h5,h6⟩
  simp only at hm hjm hXl hXt hXd h5 h6
  have el:=dI (o:=0) (n:=k) (c:=c) (hR X)
  by_cases cX:(m:Int)<(k:Int)
  ·obtain⟨x,hx1⟩:∃x,X[m]? = some x:=⟨_,List.getElem?_eq_getElem (by omega)⟩
   have Zl:all[m]? = some x:=by
    have:=congrArg (fun l=>l[0]?) hXd
    simp only[List.getElem?_drop,Nat.add_zero] at this
    rw[←this,hx1]
   have a1:=bD (o:=0) (n:=k) (c:=c) (i:=m) (k := .i64) (hR X) (by omega)
   have a2:=bD (o:=0) (n:=k) (c:=c) (i:=j) (k := .i64) (hR X) (by omega)
   have a3:eZ false 1 (.ptr b g (0+m) 0) (H.set b (.row g (X.map nV) 1 true))=some (VI x):=by rw[Nat.zero_add,nZ (hR X) hx1];rfl
   have a4:=iE (f:=nV) (x:=x) (lo:=lo) (j:=0+j) (hR X) (by omega) dP rfl rfl
   rw[Nat.zero_add] at a1 a2 a3 a4
   have wm:IntKind.i64.wrap ((m:Int)+1)=((m+1:Nat):Int):=wrapN (m+1) (by omega) (by omega)
   have wj:IntKind.i64.wrap ((j:Int)+1)=((j+1:Nat):Int):=wrapN (j+1) (by omega) (by omega)
   have Zq:X.drop (m+1)=all.drop (m+1):=by
    have:=congrArg (List.drop 1) hXd
    simpa[List.drop_drop] using this
   cases KZ:p x with
   |
    true =>
    have eP:=fun lo K=>eP X x lo K
    rw[KZ] at eP
    simp only[cG,h0,h1,h5,h6,el,cX,a1,a3,eP,wm,List.cons_append,List.nil_append,VX,Nat.reduceEqDiff,Nat.reduceAdd]
    refine⟨(j,m+1,X),by simp only;omega,by simp only;omega,by simp only;omega,hXl,?_,Zq,rfl,rfl,rfl⟩
    simp only
    rw[hXt,List.take_add_one,Zl,List.filter_append]
    simp[KZ]
   |
    false =>
    have eP:=fun lo K=>eP X x lo K
    rw[KZ] at eP
    simp only[cG,h0,h1,h5,h6,el,cX,a1,a2,a3,a4,eP,wm,wj,List.set_set,List.cons_append,List.nil_append,VX,Nat.reduceEqDiff,Nat.reduceAdd]
    refine⟨(j+1,m+1,X.set j x),by simp only;omega,by simp only;omega,by simp only;omega,by simp[hXl],?_,?_,rfl,rfl,rfl⟩
    ·simp only
     rw[List.take_add_one,List.take_set_of_le (Nat.le_refl _),List.getElem?_set_self (by omega),hXt,List.take_add_one,Zl,List.filter_append]
     simp[KZ]
    ·simp only
     rw[List.drop_set_of_lt (by omega)]
     exact Zq
  ·have hme:m=k:=by omega
   subst hme
   have q1:=vL (o:=0) (n:=m) (c:=c) (l:=j) (k1 := .i64) (hR X) hjm hk
   have q2:=HR (f:=nV) (zero:=[.int .i64 0]) (z:=0) (lo:=lo) (o:=0+j) (n:=m-j) (cc:=c-j) (hR X) rfl rfl dP (by omega)
   rw[Nat.zero_add] at q1 q2
   have q3:=fun Y=>uM (o:=0) (n:=m) (c:=c) (h:=j) (k2 := .i64) (hR Y) (by omega)
   have hfl:((all.take m).filter fun x => !p x).length=j:=by
    rw[←hXt,List.length_take,Nat.min_eq_left (by omega)]
   simp only[cG,h0,h1,h5,h6,el,cX,q1,q2,q3,List.set_set,VX,Nat.reduceEqDiff,Nat.reduceAdd]
   rw[hfl]
   refine⟨_,rfl,rfl,?_,?_⟩
   ·simp;omega
   ·rw[←hXt,List.append_assoc,List.take_append_of_le_length (by simp;omega),List.take_take,Nat.min_self]
end Go.PM
namespace Go.PM
def Sw (N:Nat) (hi:Int) (st:List (Nat×Int)):Prop:=∀p∈st,p.1<N∧1≤p.2∧p.2≤hi
theorem Sw.cons {N:Nat} {hi:Int} {p:Nat×Int} {st:List (Nat×Int)} (h:Sw N hi (p::st)):(p.1<N∧1≤p.2∧p.2≤hi)∧Sw N hi st:=⟨h p List.mem_cons_self,fun q hq=>h q (List.mem_cons_of_mem _ hq)⟩
theorem Sw.of {N:Nat} {hi:Int} {p:Nat×Int} {st:List (Nat×Int)} (hp:p.1<N∧1≤p.2∧p.2≤hi) (h:Sw N hi st):Sw N hi (p::st):=fun q hq=>by
 rcases List.mem_cons.1 hq with rfl | hq
 ·exact hp
 ·exact h q hq
theorem De {α:Type} {f:α→VV} {all:List α} {x:α} {lo b g k e bytes:Nat} {H:aC} (h:aM H b g=some (all.map f,e,true)) (hk:k≤all.length) (dP:lo≤b) (he:1≤e) (hb:1≤bytes) (Aa:(k+1)*bytes≤140737488355328) :
  ∃(g':Nat) (Gp:List α),dW lo e bytes (.ref b g 0 k all.length) [f x] H=some (.ref b g' 0 (k+1) Gp.length,H.set b (.row g' (Gp.map f) e true))∧k+1≤Gp.length∧Gp.take (k+1)=all.take k++[x]:=by
 simp only[dW,h,List.length_cons,List.length_nil,Nat.zero_add]
 rw[if_pos ⟨hb,he⟩,if_pos ⟨trivial,dP,by simpa using hk⟩]
 by_cases hc:k+1≤all.length
 ·rw[if_pos hc,if_neg (by decide),if_pos (by simpa using hc)]
  refine⟨g,all.set k x,?_,by simpa using hc,?_⟩
  ·have:bW (all.map f) k [f x]=(all.set k x).map f:=by
    rw[List.map_set,List.set_eq_take_append_cons_drop,if_pos (by simp;omega)]
    simp[bW]
   rw[this,List.length_set]
  ·rw[List.take_add_one,List.take_set_of_le (Nat.le_refl _),List.getElem?_set_self (by omega)]
   rfl
 ·rw[if_neg hc,if_pos Aa]
  have hke:k=all.length:=by omega
  subst hke
  refine⟨g+1,all++[x],?_,by simp,by rw[List.take_of_length_le (by simp),List.take_of_length_le (Nat.le_refl _)]⟩
  rw[List.drop_zero,List.take_of_length_le (by simp)]
  simp
end Go.PM
namespace Go.PM
structure B7 (aA aE room:Int) (cs:List aJ) where
 I:Nat→Nat→List Nat→List Int→List Int→Prop
 A:Nat→Int→Nat→List Nat→List Int→List Int→Prop
 S:Nat→Int→Nat→List Nat→List Int→List Int→Prop
 bI:∀ {m aD ws ends st},I m aD ws ends st→aD≤cs.length∧st.length=cs.length∧ws.length≤24∧ends.length≤24
 bA:∀ {m now aD ws ends st},A m now aD ws ends st→aD≤cs.length∧st.length=cs.length∧ws.length≤24∧ends.length≤24
 bS:∀ {m now aD ws ends st},S m now aD ws ends st→aD≤cs.length∧st.length=cs.length∧ws.length≤24∧ends.length≤24∧(∀i∈ws,i<cs.length)∧(0≤now∧now≤100000)
 start:∃m,I m 0 [] [] (List.replicate cs.length (-1))
 toA:∀ {m aD ws ends st},I m aD ws ends st→aD<cs.length∨0<ws.length→A m (pX cs aD ws ends) aD ws (ends.filter (Aj (pX cs aD ws ends))) st
 Uv:∀ {m now aD ws ends st},A m now aD ws ends st→aD<cs.length→lQ cs aD=now→A m now (aD+1) (if (ws.length:Int)+(ends.length:Int)<room then ws++[aD] else ws) ends st
 toS:∀ {m now aD ws ends st},A m now aD ws ends st→¬(aD<cs.length∧lQ cs aD=now)→S m now aD ws ends st
 Vj:∀ {m now aD ws ends st},S m now aD ws ends st→(ends.length:Int)<aE→0<ws.length→∃k,ws[nA aA cs ws]? = some k∧S m now aD (ws.eraseIdx (nA aA cs ws)) (ends++[now+rQ cs k]) (st.set k now)
 toI:∀ {m now aD ws ends st},S m now aD ws ends st→¬((ends.length:Int)<aE∧0<ws.length)→∃m',m'<m∧I m' aD ws ends st
def wC (st:List Int) (g1:Nat) (wall:List Nat) (g2:Nat) (eJ:List Int):aC :=
 [.row 0 (st.map nV) 1 true,.row g1 (wall.map kV) 1 true,.row g2 (eJ.map nV) 1 true]
structure My (aA aE room:Int) (cs:List aJ) (n g1 k1 c1 g2 k2 c2 aD:Nat) (ρ:cN):Prop where
 r0:ρ 0=VI aA
 r1:ρ 1=VI aE
 r2:ρ 2=VI room
 r3:ρ 3=fR cs
 r9:ρ 9 = .ref n 0 0 cs.length cs.length
 r10:ρ 10 = .ref (n+1) g1 0 k1 c1
 r11:ρ 11 = .ref (n+2) g2 0 k2 c2
 ZI:ρ 12=VI aD
structure Part {α:Type} (all xs:List α):Prop where
 le:xs.length≤all.length
 tk:all.take xs.length=xs
theorem Part.get {α:Type} {all xs:List α} (h:Part all xs) {i:Nat} {x:α} (hx:xs[i]? = some x):all[i]? = some x:=by
 rw[←h.tk,List.getElem?_take] at hx
 split at hx
 ·exact hx
 ·cases hx
theorem Part.fz {α:Type} {f:α→VV} {e b g:Nat} {all xs:List α} {w:Bool} {H:aC} (h:Part all xs) (hp:∀x,aX (f x)=true) (hr:aM H b g=some (all.map f,e,w)):fz depth H (.ref b g 0 xs.length all.length)=some (eU f xs):=by
 rw[GR hr (by rw[List.length_map];exact h.le) h.le (gO hp),←List.map_take,h.tk]
set_option maxHeartbeats 1000000 in
theorem EO {aA aE room:Int} {cs:List aJ} {n lo g1 g2 aD:Nat} {ws wall:List Nat} {ends eJ st:List Int} {b:Int} {ρ:cN} (dP:lo≤n) (hE:My aA aE room cs n g1 ws.length wall.length g2 ends.length eJ.length aD ρ) (zC:ρ 13 = .ptr (n+3) 0 0 0)
  (h42:ρ 42 = .ref (n+2) g2 0 ends.length eJ.length) (ZP:ρ 43=VI ends.length) (Y5:ρ 44=VI 0) (he:Part eJ ends) (hn:ends.length≤24) :
  VW ⟨true,false⟩ lo (.block 2 (.loop gA)) (fun e aP H=>e = .normal∧(My aA aE room cs n g1 ws.length wall.length g2 ends.length eJ.length aD aP∧aP 13 = .ptr (n+3) 0 0 0) ∧
   H=List.replicate n .dead++(wC st g1 wall g2 eJ++[cZ.row 0 [VI (ends.foldl (C5 (decide (0<ws.length))) b)] 1 true])) ρ (List.replicate n .dead++(wC st g1 wall g2 eJ++[cZ.row 0 [VI b] 1 true])):=by
 rw[tX]
 refine bJ (fun(i:Nat) aP H=>i≤ends.length∧My aA aE room cs n g1 ws.length wall.length g2 ends.length eJ.length aD aP∧aP 13 = .ptr (n+3) 0 0 0∧aP 42 = .ref (n+2) g2 0 ends.length eJ.length∧aP 43=VI ends.length∧aP 44=VI i ∧
  H=List.replicate n .dead++(wC st g1 wall g2 eJ++[cZ.row 0 [VI ((ends.take i).foldl (C5 (decide (0<ws.length))) b)] 1 true])) (fun i=>ends.length-i) 0 ⟨Nat.zero_le _,hE,zC,h42,ZP,Y5,by rw[List.take_zero];rfl⟩ ?_
 clear hE zC h42 ZP Y5 ρ
 rintro i ρ H ⟨hi,⟨h0,h1,h2,h3,h9,tZ,sM,tD⟩,zC,h42,ZP,Y5,rfl⟩
 by_cases cX:(i:Int)<(ends.length:Int)
 ·obtain⟨x,hx⟩:∃x,ends[i]? = some x:=⟨_,List.getElem?_eq_getElem (by omega)⟩
  have hxa:(eJ.map nV)[i]? = some (VI x):=by rw[List.getElem?_map,he.get hx];rfl
  have vZ:(0:Int)≤(i:Int):=by omega
  have wi:IntKind.i64.wrap ((i:Int)+1)=((i+1:Nat):Int):=wrapN (i+1) (by omega) (by omega)
  have mZ:(ends.take (i+1)).foldl (C5 (decide (0<ws.length))) b=C5 (decide (0<ws.length)) ((ends.take i).foldl (C5 (decide (0<ws.length))) b) x:=by
   rw[List.take_add_one,hx,List.foldl_append]
   rfl
  generalize (ends.take i).foldl (C5 (decide (0<ws.length))) b=y at *
  have Sm:∀v:Int,bU false 1 (VI v) 0=some (VI v):=fun _=>rfl
  have PW:lo≤n+3:=by omega
  have hm:C5 (decide (0<ws.length)) y x=if y<0∨(decide (0<ws.length)=true∧x<y) then x else y:=rfl
  rw[hm] at mZ
  by_cases q1:y<0
  ·rw[if_pos (.inl q1)] at mZ
   simp only[gA,wC,h0,h1,h2,h3,h9,tZ,sM,tD,zC,h42,ZP,Y5,cX,vZ,hxa,Sm,wi,q1,PW,List.cons_append,List.nil_append,List.getElem?_cons_zero,VX,Nat.reduceEqDiff,Nat.reduceAdd,kC,Nat.reduceLeDiff,Nat.reduceLT,Nat.reduceSub,eH,dV,gT,iG,oV,List.append_assoc,Nat.le_add_right,gB,gS,List.length_replicate]
   refine⟨i+1,by omega,by omega,⟨?_,?_,?_,?_,?_,?_,?_,?_⟩,?_⟩
   all_goals first | (simp only[h0,h1,h2,h3,h9,tZ,sM,tD,VX,Nat.reduceEqDiff,Nat.reduceAdd];done) | skip
   rw[mZ]
   (repeat' apply And.intro)<;>first | rfl | trivial
  ·by_cases q2:(0:Int)<(ws.length:Int)
   ·by_cases q3:x<y
    ·rw[if_pos (.inr ⟨decide_eq_true (by omega),q3⟩)] at mZ
     simp only[gA,wC,h0,h1,h2,h3,h9,tZ,sM,tD,zC,h42,ZP,Y5,cX,vZ,hxa,Sm,wi,q1,q2,q3,PW,List.cons_append,List.nil_append,List.getElem?_cons_zero,VX,Nat.reduceEqDiff,Nat.reduceAdd,kC,Nat.reduceLeDiff,Nat.reduceLT,Nat.reduceSub,eH,dV,gT,iG,oV,List.append_assoc,Nat.le_add_right,gB,gS,List.length_replicate]
     refine⟨i+1,by omega,by omega,⟨?_,?_,?_,?_,?_,?_,?_,?_⟩,?_⟩
     all_goals first | (simp only[h0,h1,h2,h3,h9,tZ,sM,tD,VX,Nat.reduceEqDiff,Nat.reduceAdd];done) | skip
     rw[mZ]
     (repeat' apply And.intro)<;>first | rfl | trivial
    ·rw[if_neg (by omega)] at mZ
     simp only[gA,wC,h0,h1,h2,h3,h9,tZ,sM,tD,zC,h42,ZP,Y5,cX,vZ,hxa,Sm,wi,q1,q2,q3,PW,List.cons_append,List.nil_append,List.getElem?_cons_zero,VX,Nat.reduceEqDiff,Nat.reduceAdd,kC,Nat.reduceLeDiff,Nat.reduceLT,Nat.reduceSub,eH,dV,gT,iG,oV,List.append_assoc,Nat.le_add_right,gB,gS,List.length_replicate]
     refine⟨i+1,by omega,by omega,⟨?_,?_,?_,?_,?_,?_,?_,?_⟩,?_⟩
     all_goals first | (simp only[h0,h1,h2,h3,h9,tZ,sM,tD,VX,Nat.reduceEqDiff,Nat.reduceAdd];done) | skip
     rw[mZ]
     (repeat' apply And.intro)<;>first | rfl | trivial
   ·rw[if_neg (by rw[decide_eq_false (by omega:¬0<ws.length)];simp;omega)] at mZ
    simp only[gA,wC,h0,h1,h2,h3,h9,tZ,sM,tD,zC,h42,ZP,Y5,cX,vZ,hxa,Sm,wi,q1,q2,PW,List.cons_append,List.nil_append,List.getElem?_cons_zero,VX,Nat.reduceEqDiff,Nat.reduceAdd,kC,Nat.reduceLeDiff,Nat.reduceLT,Nat.reduceSub,eH,dV,gT,iG,oV,List.append_assoc,Nat.le_add_right,gB,gS,List.length_replicate]
    refine⟨i+1,by omega,by omega,⟨?_,?_,?_,?_,?_,?_,?_,?_⟩,?_⟩
    all_goals first | (simp only[h0,h1,h2,h3,h9,tZ,sM,tD,VX,Nat.reduceEqDiff,Nat.reduceAdd];done) | skip
    rw[mZ]
    (repeat' apply And.intro)<;>first | rfl | trivial
 ·have zK:i=ends.length:=by omega
  subst zK
  simp only[gA,ZP,Y5,cX,VX,Nat.reduceEqDiff,Nat.reduceAdd]
  rw[List.take_of_length_le (Nat.le_refl _)]
  exact⟨⟨⟨by simp only[h0,VX,Nat.reduceEqDiff,Nat.reduceAdd],by simp only[h1,VX,Nat.reduceEqDiff,Nat.reduceAdd],by simp only[h2,VX,Nat.reduceEqDiff,Nat.reduceAdd],by simp only[h3,VX,Nat.reduceEqDiff,Nat.reduceAdd],by simp only[h9,VX,Nat.reduceEqDiff,Nat.reduceAdd],by simp only[tZ,VX,Nat.reduceEqDiff,Nat.reduceAdd],by simp only[sM,VX,Nat.reduceEqDiff,Nat.reduceAdd],by simp only[tD,VX,Nat.reduceEqDiff,Nat.reduceAdd]⟩,by simp only[zC,VX,Nat.reduceEqDiff,Nat.reduceAdd]⟩,rfl⟩
set_option maxHeartbeats 1000000 in
theorem Eu {aA aE room:Int} {cs:List aJ} (Y:B7 aA aE room cs) (hc:aN cs) {n lo m g1 g2 aD:Nat} {ws wall:List Nat} {ends eJ st:List Int} {now:Int} {ρ:cN} (dP:lo≤n) (hA:Y.A m now aD ws ends st) (hE:My aA aE room cs n g1 ws.length wall.length g2 ends.length eJ.length aD ρ) (zC:ρ 13 = .ptr (n+3) 0 0 0) (hw:Part wall ws) :
  VW ⟨true,false⟩ lo (.block 4 (.loop iH)) (fun e aP H=>e = .normal∧∃Cf Ng TV wQ,Y.S m now Cf Ng ends st∧Part wQ Ng∧My aA aE room cs n TV Ng.length wQ.length g2 ends.length eJ.length Cf aP∧aP 13 = .ptr (n+3) 0 0 0 ∧
   H=List.replicate n .dead++(wC st TV wQ g2 eJ++[cZ.row 0 [VI now] 1 true])) ρ (List.replicate n .dead++(wC st g1 wall g2 eJ++[cZ.row 0 [VI now] 1 true])):=by
 rw[tX]
 refine bJ (fun(s:Nat×List Nat×Nat×List Nat) aP H=>Y.A m now s.1 s.2.1 ends st∧Part s.2.2.2 s.2.1∧My aA aE room cs n s.2.2.1 s.2.1.length s.2.2.2.length g2 ends.length eJ.length s.1 aP∧aP 13 = .ptr (n+3) 0 0 0 ∧
  H=List.replicate n .dead++(wC st s.2.2.1 s.2.2.2 g2 eJ++[cZ.row 0 [VI now] 1 true])) (fun s=>cs.length-s.1) (aD,ws,g1,wall) ⟨hA,hw,hE,zC,rfl⟩ ?_
 clear hA hw hE zC ρ
 rintro⟨aD,ws,g1,wall⟩ ρ H ⟨hA,hw,⟨h0,h1,h2,h3,h9,tZ,sM,tD⟩,zC,rfl⟩
 simp only at hA hw tZ tD
 obtain⟨jM,I0,Rt,ZD⟩:=Y.bA hA
 have hlen:=hc.2
 by_cases cX:(aD:Int)<(cs.length:Int)
 ·have Tl:aD<cs.length:=by omega
  obtain⟨x,hx⟩:∃x,cs[aD]? = some x:=⟨_,List.getElem?_eq_getElem Tl⟩
  have e1:=fun H=>aL (f:=cV) (t := .op) (H:=H) (size:=3) (k := .i64) hx rfl
  have Sm:∀v:Int,bU false 1 (VI v) 0=some (VI v):=fun _=>rfl
  by_cases Xp:x.t=now
  ·have Xo:=Y.Uv hA Tl (by rw[pU hx];exact Xp)
   have w1:IntKind.i64.wrap ((ws.length:Int)+(ends.length:Int))=(ws.length:Int)+(ends.length:Int):=wrap64 (by omega) (by omega)
   have wi:IntKind.i64.wrap ((aD:Int)+1)=((aD+1:Nat):Int):=wrapN (aD+1) (by omega) (by omega)
   by_cases hr:(ws.length:Int)+(ends.length:Int)<room
   ·rw[if_pos hr] at Xo
    obtain⟨TV,wQ,eQ,U2,acE⟩:=De (f:=kV) (all:=wall) (x:=aD) (lo:=lo) (b:=n+1) (g:=g1) (k:=ws.length) (e:=1) (bytes:=8) (H:=List.replicate n .dead++(wC st g1 wall g2 eJ++[cZ.row 0 [VI now] 1 true]))
     (by rw[dV];simp only[wC,List.cons_append,nY,bK]) hw.le (by omega) (by decide) (by decide) (by omega)
    simp only[wC,List.cons_append,List.nil_append,iG,List.set_cons_succ,List.set_cons_zero] at eQ
    have eL:∀H,oU false [.int .i64 0] 1 [(0,VI aD)] H=some (.tree [VI aD] (.cl 1),H):=fun H=>lH rfl rfl rfl
    have eS:∀H,cM 1 (.tree [VI aD] (.cl 1)) H=some [VI aD]:=fun H=>hC rfl rfl
    simp only[iH,wC,h0,h1,h2,h3,h9,tZ,sM,tD,zC,cX,e1,mY,Sm,Xp,eq_self,w1,wi,hr,eL,eS,eQ,cV,List.cons_append,List.nil_append,List.getElem?_cons_zero,VX,Nat.reduceEqDiff,Nat.reduceAdd,kC,Nat.reduceLeDiff,Nat.reduceLT,Nat.reduceSub,eH,dV,gT,iG,oV,List.append_assoc,Nat.le_add_right,gB,gS,List.length_replicate]
    refine⟨(aD+1,ws++[aD],TV,wQ),by simp only;omega,Xo,⟨by simp;omega,by simp only[List.length_append,List.length_cons,List.length_nil,Nat.zero_add];rw[acE,hw.tk]⟩,⟨?_,?_,?_,?_,?_,?_,?_,?_⟩,?_⟩
    all_goals first | (simp only[h0,h1,h2,h3,h9,tZ,sM,tD,List.length_append,List.length_cons,List.length_nil,Nat.zero_add,VX,Nat.reduceEqDiff,Nat.reduceAdd];done) | skip
   ·rw[if_neg hr] at Xo
    simp only[iH,wC,h0,h1,h2,h3,h9,tZ,sM,tD,zC,cX,e1,mY,Sm,Xp,eq_self,w1,wi,hr,cV,List.cons_append,List.nil_append,List.getElem?_cons_zero,VX,Nat.reduceEqDiff,Nat.reduceAdd,kC,Nat.reduceLeDiff,Nat.reduceLT,Nat.reduceSub,eH,dV,gT,iG,oV,List.append_assoc,Nat.le_add_right,gB,gS,List.length_replicate]
    refine⟨(aD+1,ws,g1,wall),by simp only;omega,Xo,hw,⟨?_,?_,?_,?_,?_,?_,?_,?_⟩,?_⟩
    all_goals first | (simp only[h0,h1,h2,h3,h9,tZ,sM,tD,VX,Nat.reduceEqDiff,Nat.reduceAdd];done) | skip
  ·have hS:=Y.toS hA fun h=>Xp (by rw[←pU hx];exact h.2)
   simp only[iH,wC,h0,h1,h2,h3,h9,tZ,sM,tD,zC,cX,e1,mY,Sm,Xp,cV,List.cons_append,List.nil_append,List.getElem?_cons_zero,VX,Nat.reduceEqDiff,Nat.reduceAdd,kC,Nat.reduceLeDiff,Nat.reduceLT,Nat.reduceSub,eH,dV,gT,iG,oV,List.append_assoc,Nat.le_add_right,gB,gS,List.length_replicate]
   refine⟨aD,ws,g1,wall,hS,hw,⟨?_,?_,?_,?_,?_,?_,?_,?_⟩,?_⟩
   all_goals first | (simp only[h0,h1,h2,h3,h9,tZ,sM,tD,VX,Nat.reduceEqDiff,Nat.reduceAdd];done) | skip
 ·have hS:=Y.toS hA fun h=>by omega
  simp only[iH,wC,h0,h1,h2,h3,h9,tZ,sM,tD,zC,cX,List.cons_append,List.nil_append,VX,Nat.reduceEqDiff,Nat.reduceAdd,kC,Nat.reduceLeDiff,Nat.reduceLT,Nat.reduceSub,eH,dV,gT,iG,oV,List.append_assoc,Nat.le_add_right,gB,gS,List.length_replicate]
  refine⟨aD,ws,g1,wall,hS,hw,⟨?_,?_,?_,?_,?_,?_,?_,?_⟩,?_⟩
  all_goals first | (simp only[h0,h1,h2,h3,h9,tZ,sM,tD,VX,Nat.reduceEqDiff,Nat.reduceAdd];done) | skip
set_option maxHeartbeats 2000000 in
theorem EK {aA aE room:Int} {cs:List aJ} (Y:B7 aA aE room cs) (hc:aN cs) (hr:0≤aA∧aA≤3) {n lo m g1 g2 aD:Nat} {ws wall:List Nat} {ends eJ st:List Int} {now:Int} {ρ:cN} (dP:lo≤n) (hS:Y.S m now aD ws ends st) (hE:My aA aE room cs n g1 ws.length wall.length g2 ends.length eJ.length aD ρ) (zC:ρ 13 = .ptr (n+3) 0 0 0) (hw:Part wall ws) (he:Part eJ ends) (XX:aE≤8) :
  VW ⟨true,false⟩ lo (.block 6 (.loop jD)) (fun e aP H=>e = .normal∧∃Ng AM Xt TV wQ Zi D2 m',m'<m∧Y.I m' aD Ng AM Xt∧Part wQ Ng∧Part D2 AM∧My aA aE room cs n TV Ng.length wQ.length Zi AM.length D2.length aD aP∧aP 13 = .ptr (n+3) 0 0 0 ∧
   H=List.replicate n .dead++(wC Xt TV wQ Zi D2++[.row 0 [VI now] 1 true])) ρ (List.replicate n .dead++(wC st g1 wall g2 eJ++[cZ.row 0 [VI now] 1 true])):=by
 rw[tX]
 refine bJ (fun(s:List Nat×List Int×List Int×Nat×List Nat×Nat×List Int) aP H=>Y.S m now aD s.1 s.2.1 s.2.2.1∧Part s.2.2.2.2.1 s.1∧Part s.2.2.2.2.2.2 s.2.1∧My aA aE room cs n s.2.2.2.1 s.1.length s.2.2.2.2.1.length s.2.2.2.2.2.1 s.2.1.length s.2.2.2.2.2.2.length aD aP∧aP 13 = .ptr (n+3) 0 0 0 ∧
  H=List.replicate n .dead++(wC s.2.2.1 s.2.2.2.1 s.2.2.2.2.1 s.2.2.2.2.2.1 s.2.2.2.2.2.2++[.row 0 [VI now] 1 true])) (fun s=>s.1.length) (ws,ends,st,g1,wall,g2,eJ) ⟨hS,hw,he,hE,zC,rfl⟩ ?_
 clear hS hw he hE zC ρ
 rintro⟨ws,ends,st,g1,wall,g2,eJ⟩ ρ H ⟨hS,hw,he,⟨h0,h1,h2,h3,h9,tZ,sM,tD⟩,zC,rfl⟩
 simp only at hS hw he tZ sM
 obtain⟨jM,I0,Rt,ZD,hwi,HG⟩:=Y.bS hS
 have hlen:=hc.2
 by_cases q1:(ends.length:Int)<aE
 ·by_cases q2:(0:Int)<(ws.length:Int)
  ·obtain⟨k,hk,hS'⟩:=Y.Vj hS q1 (by omega)
   have KW:=(List.getElem?_eq_some_iff.1 hk).1
   have hkN:=hwi k (List.mem_of_getElem? hk)
   obtain⟨x,hx⟩:∃x,cs[k]? = some x:=⟨_,List.getElem?_eq_getElem hkN⟩
   have hb:=hc.at hx
   rw[Ew hx] at hS'
   have e1:=fun H=>aL (f:=cV) (t := .op) (H:=H) (size:=3) (k := .i64) hx rfl
   have Sm:∀v:Int,bU false 1 (VI v) 0=some (VI v):=fun _=>rfl
   have r1:aM (List.replicate n .dead++[.row 0 (st.map nV) 1 true,.row g1 (wall.map kV) 1 true,.row g2 (eJ.map nV) 1 true,.row 0 [VI now] 1 true]) (n+1) g1=some (wall.map kV,1,true):=by rw[dV];simp only[nY,bK]
   have eN:∀lo K,cS 75 [VI aA,.ref (n+1) g1 0 ws.length wall.length,fR cs] lo (List.replicate n .dead++[.row 0 (st.map nV) 1 true,.row g1 (wall.map kV) 1 true,.row g2 (eJ.map nV) 1 true,.row 0 [VI now] 1 true]) K=K (VI (nA aA cs ws)) (List.replicate n .dead++[.row 0 (st.map nV) 1 true,.row g1 (wall.map kV) 1 true,.row g2 (eJ.map nV) 1 true,.row 0 [VI now] 1 true]):=fun lo K =>
    TC.flat (Og aA cs ws hr hwi (by omega) (by omega)) rfl (by simp only[aO,aT,xA];rfl) (Uz (aI rfl) (hw.fz (fun _=>rfl) r1) (aI (aT _))) rfl lo K
   have qE:(wall.map kV)[nA aA cs ws]? = some (VI k):=by rw[List.getElem?_map,hw.get hk];rfl
   have vZ:(0:Int)≤(nA aA cs ws:Int):=by omega
   have alQ:(nA aA cs ws:Int)<(ws.length:Int):=by omega
   have wp:IntKind.i64.wrap ((nA aA cs ws:Int)+1)=((nA aA cs ws+1:Nat):Int):=wrapN _ (by omega) (by omega)
   simp only[jD,wC,h0,h1,h2,h3,h9,tZ,sM,tD,zC,q1,q2,eN,qE,vZ,alQ,Sm,wp,List.cons_append,List.nil_append,List.getElem?_cons_zero,VX,Nat.reduceEqDiff,Nat.reduceAdd,kC,Nat.reduceLeDiff,Nat.reduceLT,Nat.reduceSub,eH,dV,gT,iG,oV,List.append_assoc,Nat.le_add_right,gB,gS,List.length_replicate]
   refine cW rfl ((BM (lo:=lo) r1 (by omega) KW hw.le rfl).mono ?_)
   rintro r H' ⟨ZF,rfl,rfl,CL,ht1⟩
   have hk0:(0:Int)≤(k:Int):=by omega
   have akD:(k:Int)<(cs.length:Int):=by omega
   have wn:IntKind.i64.wrap (now+x.w)=now+x.w:=wrap64 (by omega) (by omega)
   have eO:∀(B:aC) (v:Int),dE lo 1 (.ptr n 0 k 0) (VI v) (List.replicate n .dead++(.row 0 (st.map nV) 1 true::B))=some (List.replicate n .dead++(.row 0 ((st.set k v).map nV) 1 true::B)):=fun B v=>by
    have:=iE (f:=nV) (xs:=st) (x:=v) (e:=1) (g:=0) (j:=k) (b:=n) (lo:=lo) (H:=List.replicate n .dead++(.row 0 (st.map nV) 1 true::B)) (by rw[eH,bK]) (by omega) dP rfl rfl
    rw[gT] at this
    exact this
   obtain⟨Zi,D2,eQ,U2,acE⟩:=De (f:=nV) (all:=eJ) (x:=now+x.w) (lo:=lo) (b:=n+2) (g:=g2) (k:=ends.length) (e:=1) (bytes:=8) (H:=List.replicate n .dead++[.row 0 ((st.set k now).map nV) 1 true,.row g1 (ZF.map kV) 1 true,.row g2 (eJ.map nV) 1 true,.row 0 [VI now] 1 true])
    (by rw[dV];simp only[nY,bK]) he.le (by omega) (by decide) (by decide) (by omega)
   simp only[iG,List.set_cons_succ,List.set_cons_zero] at eQ
   have eL:∀(v:Int) H,oU false [.int .i64 0] 1 [(0,VI v)] H=some (.tree [VI v] (.cl 1),H):=fun v H=>lH rfl rfl rfl
   have eS:∀(v:Int) H,cM 1 (.tree [VI v] (.cl 1)) H=some [VI v]:=fun v H=>hC rfl rfl
   have adZ:=hw.le
   have awZ:=he.le
   have hdl:(ws.eraseIdx (nA aA cs ws)).length=ws.length-1:=List.length_eraseIdx_of_lt KW
   simp only[iG,List.set_cons_succ,List.set_cons_zero,h0,h1,h2,h3,h9,tZ,sM,tD,zC,hk0,akD,e1,mY,Sm,wn,eO,eL,eS,eQ,cV,List.getElem?_cons_zero,VX,Nat.reduceEqDiff,Nat.reduceAdd,kC,Nat.reduceLeDiff,Nat.reduceLT,Nat.reduceSub,eH,dV,gT,iG,oV,List.append_assoc,Nat.le_add_right,gB,gS,List.length_replicate]
   refine⟨(ws.eraseIdx (nA aA cs ws),ends++[now+x.w],st.set k now,g1,ZF,Zi,D2),by simp only;omega,hS',⟨by simp only;omega,by simp only;rw[hdl,ht1,hw.tk]⟩,⟨by simp;omega,by simp only[List.length_append,List.length_cons,List.length_nil,Nat.zero_add];rw[acE,he.tk]⟩,⟨?_,?_,?_,?_,?_,?_,?_,?_⟩,?_⟩
   all_goals first | (simp only[h0,h1,h2,h3,h9,tZ,sM,tD,hdl,CL,List.length_append,List.length_cons,List.length_nil,Nat.zero_add,VX,Nat.reduceEqDiff,Nat.reduceAdd];done) | skip
  ·obtain⟨m',hm,hI⟩:=Y.toI hS fun h=>by omega
   simp only[jD,wC,h0,h1,h2,h3,h9,tZ,sM,tD,zC,q1,q2,List.cons_append,List.nil_append,VX,Nat.reduceEqDiff,Nat.reduceAdd,kC,Nat.reduceLeDiff,Nat.reduceLT,Nat.reduceSub,eH,dV,gT,iG,oV,List.append_assoc,Nat.le_add_right,gB,gS,List.length_replicate]
   refine⟨ws,ends,st,g1,wall,g2,eJ,m',hm,hI,hw,he,⟨?_,?_,?_,?_,?_,?_,?_,?_⟩,?_⟩
   all_goals first | (simp only[h0,h1,h2,h3,h9,tZ,sM,tD,VX,Nat.reduceEqDiff,Nat.reduceAdd];done) | skip
 ·obtain⟨m',hm,hI⟩:=Y.toI hS fun h=>q1 h.1
  simp only[jD,wC,h0,h1,h2,h3,h9,tZ,sM,tD,zC,q1,List.cons_append,List.nil_append,VX,Nat.reduceEqDiff,Nat.reduceAdd,kC,Nat.reduceLeDiff,Nat.reduceLT,Nat.reduceSub,eH,dV,gT,iG,oV,List.append_assoc,Nat.le_add_right,gB,gS,List.length_replicate]
  refine⟨ws,ends,st,g1,wall,g2,eJ,m',hm,hI,hw,he,⟨?_,?_,?_,?_,?_,?_,?_,?_⟩,?_⟩
  all_goals first | (simp only[h0,h1,h2,h3,h9,tZ,sM,tD,VX,Nat.reduceEqDiff,Nat.reduceAdd];done) | skip
def mG:aH:=(.seq (.seq (.fG [⟨(some 42),(.mv (.tmp 11)),none,false,[]⟩,⟨(some 43),(.len (.tmp 42)),none,false,[]⟩,⟨(some 44),(.mv (.const (.int .i64 0))),none,false,[]⟩]) (.block 2 (.loop gA))) (.seq (.fG [⟨(some 62),(.mv (.tmp 11)),none,false,[]⟩,⟨(some 63),(.mkfn 74 [(.tmp 13)]),none,false,[]⟩,⟨(some 64),(.call 73 [(.tmp 62),(.tmp 63)]),none,false,[]⟩,⟨(some 11),(.mv (.tmp 64)),none,false,[]⟩]) (.seq (.block 4 (.loop iH)) (.block 6 (.loop jD)))))
theorem oJ:AZ=(.seq (.seq (.fG [⟨(some 24),(.mv (.tmp 12)),none,false,[]⟩,⟨(some 25),(.mv (.tmp 3)),none,false,[]⟩,⟨(some 26),(.len (.tmp 25)),none,false,[]⟩,⟨(some 27),(.bin .lss (.tmp 24) (.tmp 26)),none,false,[]⟩,⟨(some 28),(.mv (.tmp 27)),none,false,[]⟩,⟨(some 29),(.mv (.tmp 10)),(some (28,false)),false,[]⟩,⟨(some 30),(.len (.tmp 29)),(some (28,false)),false,[]⟩,⟨(some 31),(.bin .gtr (.tmp 30) (.const (.int .i64 0))),(some (28,false)),false,[]⟩,⟨(some 32),(.pick (.tmp 28) (.const (.bool true)) (.tmp 31)),none,false,[]⟩]) (.cond (.tmp 32) .skip (.exit 0))) (.block 1 (.seq (.fG [⟨(some 13),(.new [(.int .i64 0)]),none,false,[]⟩,⟨none,(.store 1 (.tmp 13) (.const (.int .i64 (-1)))),none,false,[]⟩]) (.seq (.seq (.fG [⟨(some 33),(.mv (.tmp 12)),none,false,[]⟩,⟨(some 34),(.mv (.tmp 3)),none,false,[]⟩,⟨(some 35),(.len (.tmp 34)),none,false,[]⟩,⟨(some 36),(.bin .lss (.tmp 33) (.tmp 35)),none,false,[]⟩]) (.cond (.tmp 36) (.fG [⟨(some 37),(.mv (.tmp 3)),none,false,[]⟩,⟨(some 38),(.mv (.tmp 12)),none,false,[]⟩,⟨(some 39),(.iaddr 3 (.tmp 37) (.tmp 38)),none,false,[]⟩,⟨(some 40),(.faddr 0 (.tmp 39)),none,false,[]⟩,⟨(some 41),(.load false 1 (.tmp 40)),none,false,[]⟩,⟨none,(.store 1 (.tmp 13) (.tmp 41)),none,false,[]⟩]) .skip)) mG)))):=rfl
theorem Ds {n g1 g2:Nat} {st eJ:List Int} {wall:List Nat} {b:cZ}:(List.replicate n cZ.dead++(wC st g1 wall g2 eJ++[b])).take (n+3)=List.replicate n cZ.dead++wC st g1 wall g2 eJ:=by
 rw[gB]
 rfl
theorem KH {n g1 g2:Nat} {st eJ:List Int} {wall:List Nat}:cR (n+3) (List.replicate n cZ.dead++wC st g1 wall g2 eJ)=true:=by
 rw[XC]
 unfold wC
 rw[xO (jO _ (C1 _)),xO (jO _ (gO (f:=kV) fun _=>rfl)),xO (jO _ (C1 _)),SC]
theorem My.AL {aA aE room:Int} {cs:List aJ} {n g1 k1 c1 g2 k2 c2 aD:Nat} {ρ:cN} (h:My aA aE room cs n g1 k1 c1 g2 k2 c2 aD ρ):My aA aE room cs n g1 k1 c1 g2 k2 c2 aD (C2 (n+3) ρ):=by
 obtain⟨h0,h1,h2,h3,h9,tZ,sM,tD⟩:=h
 refine⟨?_,?_,?_,?_,?_,?_,?_,?_⟩
 ·rw[bE,h0];rfl
 ·rw[bE,h1];rfl
 ·rw[bE,h2];rfl
 ·rw[bE,h3,cC (aT _)]
 ·rw[bE,h9,EL (by omega)]
 ·rw[bE,tZ,EL (by omega)]
 ·rw[bE,sM,EL (by omega)]
 ·rw[bE,tD];rfl
set_option maxHeartbeats 2000000 in
theorem I1 {aA aE room:Int} {cs:List aJ} (Y:B7 aA aE room cs) (hc:aN cs) (hr:0≤aA∧aA≤3) (XX:aE≤8) :
  FC 31 [VI aA,VI aE,VI room,fR cs] fun n r L=>∃m aD ws ends st,Y.I m aD ws ends st∧¬aD<cs.length∧¬0<ws.length∧r = .ref n 0 0 cs.length cs.length∧L[0]? = some (.row 0 (st.map nV) 1 true):=by
 refine FC.walk ⟨true,false⟩ Jn (Nat.le_of_ble_eq_true rfl) fun n => ?_
 have hlen:=hc.2
 have eL:∀H,oU false [.int .i64 0] 1 [(0,VI (-1))] H=some (.tree [VI (-1)] (.cl 1),H):=fun H=>lH rfl rfl rfl
 have e0:=fun H=>mW (H:=H) (lr:=false) (z:=[.int .i64 0]) rfl
 simp only[Fw,B5,eL,VX,Nat.reduceEqDiff,Nat.reduceAdd,eH,dV,gT,iG,oV,List.append_assoc,Nat.le_add_right,gB,gS,List.length_replicate]
 refine FC.call (BZ (-1) cs.length (by omega)) rfl (XL (WQ rfl) (aI rfl)) ?_
 rintro r L ⟨rfl,rfl⟩
 rw[List.length_replicate]
 simp only[e0,List.cons_append,List.nil_append,List.length_cons,List.length_nil,VX,Nat.reduceEqDiff,Nat.reduceAdd,eH,dV,gT,iG,oV,List.append_assoc,Nat.le_add_right,gB,gS,List.length_replicate]
 obtain⟨m0,hI0⟩:=Y.start
 refine Aw (fun(m:Nat) ρ H=>∃aD ws ends st g1 wall g2 eJ,Y.I m aD ws ends st∧Part wall ws∧Part eJ ends∧My aA aE room cs n g1 ws.length wall.length g2 ends.length eJ.length aD ρ∧H=List.replicate n cZ.dead++wC st g1 wall g2 eJ) (fun m=>m) m0 ?_ ?_
 ·refine⟨0,[],[],List.replicate cs.length (-1),0,[],0,[],hI0,⟨Nat.le_refl _,rfl⟩,⟨Nat.le_refl _,rfl⟩,⟨?_,?_,?_,?_,?_,?_,?_,?_⟩,rfl⟩
  all_goals simp only[VX,Nat.reduceEqDiff,Nat.reduceAdd]
  all_goals rfl
 rintro m ρ H ⟨aD,ws,ends,st,g1,wall,g2,eJ,hI,hw,he,⟨h0,h1,h2,h3,h9,tZ,sM,tD⟩,rfl⟩
 obtain⟨jM,I0,Rt,ZD⟩:=Y.bI hI
 have r2:∀b,aM (List.replicate n .dead++(wC st g1 wall g2 eJ++[cZ.row 0 [VI b] 1 true])) (n+2) g2=some (eJ.map nV,1,true):=fun b=>by rw[dV];simp only[wC,List.cons_append,nY,bK]
 have r3:∀b,aM (List.replicate n .dead++(wC st g1 wall g2 eJ++[cZ.row 0 [VI b] 1 true])) (n+3) 0=some ([VI b],1,true):=fun b=>by rw[dV];simp only[wC,List.cons_append,List.nil_append,nY,bK]
 have rest:∀aP,My aA aE room cs n g1 ws.length wall.length g2 ends.length eJ.length aD aP→aP 13 = .ptr (n+3) 0 0 0→(aD<cs.length∨0<ws.length) →
   VW ⟨true,false⟩ n mG
    (fun e aP H=>e = .normal∧∃m',m'<m∧∃aD ws ends st g1 wall g2 eJ now,Y.I m' aD ws ends st∧Part wall ws∧Part eJ ends∧My aA aE room cs n g1 ws.length wall.length g2 ends.length eJ.length aD aP∧H=List.replicate n cZ.dead++(wC st g1 wall g2 eJ++[cZ.row 0 [VI now] 1 true])) aP (List.replicate n .dead++(wC st g1 wall g2 eJ++[cZ.row 0 [VI (qA cs aD)] 1 true])):=by
  clear h0 h1 h2 h3 h9 tZ sM tD
  intro aP hE zC hg
  have hA:=Y.toA hI hg
  obtain⟨h0,h1,h2,h3,h9,tZ,sM,tD⟩:=hE
  have el:=dI (o:=0) (n:=ends.length) (c:=eJ.length) (r2 (qA cs aD))
  simp only[mG,sM,el,VX,Nat.reduceEqDiff,Nat.reduceAdd]
  refine H0 (EO (ws:=ws) (wall:=wall) (st:=st) (aA:=aA) (aE:=aE) (room:=room) (cs:=cs) (aD:=aD) (Nat.le_refl n) ⟨?_,?_,?_,?_,?_,?_,?_,?_⟩ ?_ ?_ ?_ ?_ he ZD) ?_
  all_goals first | (simp only[h0,h1,h2,h3,h9,tZ,sM,tD,zC,VX,Nat.reduceEqDiff,Nat.reduceAdd];done) | skip
  clear h0 h1 h2 h3 h9 tZ sM tD zC
  rintro yA H1 ⟨⟨⟨h0,h1,h2,h3,h9,tZ,sM,tD⟩,zC⟩,rfl⟩
  change Y.A m (ends.foldl (C5 (decide (0<ws.length))) (qA cs aD)) aD ws (ends.filter (Aj (ends.foldl (C5 (decide (0<ws.length))) (qA cs aD)))) st at hA
  generalize ends.foldl (C5 (decide (0<ws.length))) (qA cs aD)=now at *
  simp only[sM,zC,VX,Nat.reduceEqDiff,Nat.reduceAdd]
  refine cW rfl ((xJ (p:=fun x=>decide (x≤now)) (r2 now) (r3 now) (by omega) (by omega) he.le rfl (by omega) (fun x=>Ge x now) rfl).mono ?_)
  rintro r H' ⟨Rf,rfl,rfl,CL,ht1⟩
  have hfe:(ends.filter fun x => !decide (x≤now))=ends.filter (Aj now):=by
   refine List.filter_congr fun x _ => ?_
   rw[Bool.eq_iff_iff]
   simp[Aj]
  rw[he.tk,hfe] at ht1
  rw[he.tk,hfe]
  have he1:Part Rf (ends.filter (Aj now)):=⟨by
   have:=List.length_filter_le (Aj now) ends
   have:=he.le
   omega,ht1⟩
  have hH:(List.replicate n cZ.dead++(wC st g1 wall g2 eJ++[cZ.row 0 [VI now] 1 true])).set (n+2) (.row g2 (Rf.map nV) 1 true)=List.replicate n cZ.dead++(wC st g1 wall g2 Rf++[.row 0 [VI now] 1 true]):=by
   rw[iG]
   rfl
  rw[hH]
  simp only[VX,Nat.reduceEqDiff,Nat.reduceAdd]
  refine H0 (Eu Y hc (g1:=g1) (wall:=wall) (eJ:=Rf) (Nat.le_refl n) hA ⟨?_,?_,?_,?_,?_,?_,?_,?_⟩ ?_ hw) ?_
  all_goals first | (simp only[h0,h1,h2,h3,h9,tZ,sM,tD,zC,CL,VX,Nat.reduceEqDiff,Nat.reduceAdd];done) | skip
  clear h0 h1 h2 h3 h9 tZ sM tD zC
  rintro Km H2 ⟨Cr,ws2,g12,aqH,hS,hw2,hE2,zC,rfl⟩
  simp only[VX,Nat.reduceEqDiff,Nat.reduceAdd]
  refine H0 (EK Y hc hr (Nat.le_refl n) hS hE2 zC hw2 he1 XX) ?_
  rintro OI H3 ⟨ws3,agQ,st3,g13,ahO,g23,ahV,m',hm,hI3,hw3,he3,hE3,_,rfl⟩
  exact⟨rfl,m',hm,Cr,ws3,agQ,st3,g13,ahO,g23,ahV,now,hI3,hw3,he3,hE3,rfl⟩
 have fin:∀aP,My aA aE room cs n g1 ws.length wall.length g2 ends.length eJ.length aD aP→aP 13 = .ptr (n+3) 0 0 0→(aD<cs.length∨0<ws.length)→∀(Q:VQ),(∀aP H,(∃m',m'<m∧∃aD ws ends st g1 wall g2 eJ now,Y.I m' aD ws ends st∧Part wall ws∧Part eJ ends∧My aA aE room cs n g1 ws.length wall.length g2 ends.length eJ.length aD aP∧H=List.replicate n cZ.dead++(wC st g1 wall g2 eJ++[cZ.row 0 [VI now] 1 true]))→Q .normal aP H) →
   VW ⟨true,false⟩ n mG Q aP (List.replicate n .dead++(wC st g1 wall g2 eJ++[cZ.row 0 [VI (qA cs aD)] 1 true])):=fun aP hE zC hg Q hQ =>
  oW (fun x ρ H h=>by obtain⟨rfl,h⟩:=h;exact hQ ρ H h) (rest aP hE zC hg)
 have PW:n≤n+3:=by omega
 by_cases cX:(aD:Int)<(cs.length:Int)
 ·have Tl:aD<cs.length:=by omega
  obtain⟨x,hx⟩:∃x,cs[aD]? = some x:=⟨_,List.getElem?_eq_getElem Tl⟩
  have e1:=fun H=>aL (f:=cV) (t := .op) (H:=H) (size:=3) (k := .i64) hx rfl
  have Gd:qA cs aD=x.t:=by unfold qA;rw[if_pos Tl,pU hx]
  simp only[oJ,wC,h0,h1,h2,h3,h9,tZ,sM,tD,cX,e1,mY,cV,PW,List.cons_append,List.nil_append,List.length_cons,List.length_nil,List.getElem?_cons_zero,VX,Nat.reduceEqDiff,Nat.reduceAdd,kC,Nat.reduceLeDiff,Nat.reduceLT,Nat.reduceSub,eH,dV,gT,iG,oV,List.append_assoc,Nat.le_add_right,gB,gS,List.length_replicate]
  have TS:=fin
  rw[Gd] at TS
  refine TS _ ⟨?_,?_,?_,?_,?_,?_,?_,?_⟩ ?_ (.inl Tl) _ ?_
  all_goals first | (simp only[h0,h1,h2,h3,h9,tZ,sM,tD,VX,Nat.reduceEqDiff,Nat.reduceAdd];done) | skip
  rintro aP H ⟨m',hm,Cf,Ng,AM,Xt,TV,wQ,Zi,D2,amT,hI',Zv,he',hE',rfl⟩
  simp only[VX,Nat.reduceEqDiff,Nat.reduceAdd]
  exact⟨m',hm,by rw[Ds];exact KH,Cf,Ng,AM,Xt,TV,wQ,Zi,D2,hI',Zv,he',hE'.AL,Ds⟩
 ·by_cases Xn:(0:Int)<(ws.length:Int)
  ·have Gd:qA cs aD = -1:=by unfold qA;rw[if_neg (by omega)]
   simp only[oJ,wC,h0,h1,h2,h3,h9,tZ,sM,tD,cX,Xn,PW,List.cons_append,List.nil_append,List.length_cons,List.length_nil,List.getElem?_cons_zero,VX,Nat.reduceEqDiff,Nat.reduceAdd,kC,Nat.reduceLeDiff,Nat.reduceLT,Nat.reduceSub,eH,dV,gT,iG,oV,List.append_assoc,Nat.le_add_right,gB,gS,List.length_replicate]
   have TS:=fin
   rw[Gd] at TS
   refine TS _ ⟨?_,?_,?_,?_,?_,?_,?_,?_⟩ ?_ (.inr (by omega)) _ ?_
   all_goals first | (simp only[h0,h1,h2,h3,h9,tZ,sM,tD,VX,Nat.reduceEqDiff,Nat.reduceAdd];done) | skip
   rintro aP H ⟨m',hm,Cf,Ng,AM,Xt,TV,wQ,Zi,D2,amT,hI',Zv,he',hE',rfl⟩
   simp only[VX,Nat.reduceEqDiff,Nat.reduceAdd]
   exact⟨m',hm,by rw[Ds];exact KH,Cf,Ng,AM,Xt,TV,wQ,Zi,D2,hI',Zv,he',hE'.AL,Ds⟩
  ·simp only[oJ,wC,h0,h1,h2,h3,h9,tZ,sM,tD,cX,Xn,List.cons_append,List.nil_append,VX,Nat.reduceEqDiff,Nat.reduceAdd,kC,Nat.reduceLeDiff,Nat.reduceLT,Nat.reduceSub,eH,dV,gT,iG,oV,List.append_assoc,Nat.le_add_right,gB,gS,List.length_replicate]
   refine⟨_,rfl,by simp[yE],?_,m,aD,ws,ends,st,hI,by omega,by omega,rfl⟩
   simp only[kW,List.all_cons,List.all_nil,Bool.and_true,Bool.and_eq_true]
   exact⟨xB (f:=nV) (fun _=>rfl) _,xB (f:=kV) (fun _=>rfl) _,xB (f:=nV) (fun _=>rfl) _⟩
end Go.PM
namespace Go.PM
theorem fz4 {H:aC} {v v' u u' w w' z z':VV} (h:fz depth H v=some v') (hu:fz depth H u=some u') (hw:fz depth H w=some w') (hz:fz depth H z=some z'):[v,u,w,z].mapM (fz depth H)=some [v',u',w',z']:=by rw[List.mapM_cons,h,Uz hu hw hz];rfl
theorem VF {p:Nat→Bool} {a b:Nat} (h:a≤b):((List.range b).filter p).length≤((List.range a).filter p).length+(b-a):=by
 obtain⟨d,rfl⟩:∃d,b=a+d:=⟨b-a,by omega⟩
 rw[List.range_add,List.filter_append,List.length_append]
 have:=List.length_filter_le p ((List.range d).map fun x=>a+x)
 simp only[List.length_map,List.length_range] at this
 omega
structure StA (aA aE:Int) (cs:List aJ) (m:Nat) (now:Int) (aD:Nat) (ws:List Nat) (ends st:List Int) (t:Int) (rT:Nat) (QZ:List Nat) (oR:List Int):Prop where
 imp:wO aA aE cs st t rT QZ oR
 gd:rT<cs.length∨0<QZ.length
 ms:m=2*(cs.length-rT)+QZ.length
 nw:now=pX cs rT QZ oR
 c0:rT≤aD
 c1:aD≤cs.length
 eq:∀i,rT≤i→i<aD→lQ cs i=now
 vW:ws=(List.range aD).filter (nL st)
 enq:ends=oR.filter (Aj now)
theorem StA.G0 {aA aE:Int} {cs:List aJ} {m:Nat} {now:Int} {aD:Nat} {ws:List Nat} {ends st:List Int} {t:Int} {rT:Nat} {QZ:List Nat} {oR:List Int} (h:StA aA aE cs m now aD ws ends st t rT QZ oR):ws.length+ends.length≤aD∧ws.length≤QZ.length+(aD-rT)∧ends.length≤oR.length:=by
 have h1:=VF (p:=nL st) h.c0
 have h2:=mF (st:=st) h.imp.DA h.imp.past fun i h3 h4=>(h.imp.Gl i h3 h4).1
 rw[←h2,←h.imp.vW,←h.vW] at h1
 have h3:=List.length_filter_le (Aj now) oR
 rw[←h.enq] at h3
 have h4:=h.imp.room
 have h5:=h.c0
 omega
structure StS (aA aE:Int) (cs:List aJ) (m:Nat) (now:Int) (aD:Nat) (ws:List Nat) (ends st:List Int) (OB:List Int) (w2 e2:Nat):Prop where
 ph:Yl aA aE cs OB now aD (w2+e2) st ws ends
 c1:aD≤cs.length
 tc:w2+e2≤aD
 run:runT aA aE cs now (100000-now).toNat OB=gR aA aE cs
 wle:ws.length≤w2
 ms:2*(cs.length-aD)+w2<m∨(2*(cs.length-aD)+w2=m∧0<w2∧(e2:Int)<aE)
def ZO {aA aE room:Int} {cs:List aJ} (hc:aN cs) (hr:0≤aA∧aA≤3) (hs:1≤aE) (wU:24≤room):B7 aA aE room cs where
 I m aD ws ends st:=m=2*(cs.length-aD)+ws.length∧∃t,wO aA aE cs st t aD ws ends
 A m now aD ws ends st:=∃t rT QZ oR,StA aA aE cs m now aD ws ends st t rT QZ oR
 S m now aD ws ends st:=∃OB w2 e2,StS aA aE cs m now aD ws ends st OB w2 e2
 bI:=by
  rintro m aD ws ends st ⟨_,t,h⟩
  have:=hc.2
  have:=h.room
  have:=h.DA
  exact⟨h.DA,h.len,by omega,by omega⟩
 bA:=by
  rintro m now aD ws ends st ⟨t,rT,QZ,oR,h⟩
  have:=hc.2
  have:=h.G0
  have:=h.c1
  exact⟨h.c1,h.imp.len,by omega,by omega⟩
 bS:=by
  rintro m now aD ws ends st ⟨OB,w2,e2,h⟩
  have:=hc.2
  have:=h.tc
  have:=h.c1
  have:=h.ph.Td
  have h1:=h.ph.C7.le hc
  have h2:=h.ph.C7.tm
  refine⟨h.c1,h.ph.C7.len,by omega,by omega,fun i hi => ?_,h2.1,by omega⟩
  rw[h.ph.vW] at hi
  exact(kN.1 hi).1
 start:=⟨_,rfl,-1,wO.start hc hs⟩
 toA:=by
  rintro m aD ws ends st ⟨hm,t,h⟩ hg
  refine⟨t,aD,ws,ends,h,hg,hm,rfl,Nat.le_refl _,h.DA,fun i h1 h2=>by omega,?_,rfl⟩
  rw[←mF (st:=st) h.DA h.past fun i h3 h4=>(h.Gl i h3 h4).1]
  exact h.vW
 Uv:=by
  rintro m now aD ws ends st ⟨t,rT,QZ,oR,h⟩ aR Xp
  have h24:=hc.2
  have hb:=h.G0
  rw[if_pos (by omega)]
  refine⟨t,rT,QZ,oR,h.imp,h.gd,h.ms,h.nw,by have:=h.c0;omega,by omega,fun i h1 h2 => ?_,?_,h.enq⟩
  ·rcases Nat.lt_or_ge i aD with h3 | h3
   ·exact h.eq i h1 h3
   ·have:i=aD:=by omega
    subst this
    exact Xp
  ·rw[List.range_succ,List.filter_append,←h.vW]
   have:=(h.imp.Gl aD h.c0 aR).2
   simp[nL,this]
 toS:=by
  rintro m now aD ws ends st ⟨t,rT,QZ,oR,h⟩ W3
  have hb:=h.G0
  obtain⟨⟨t1,t2⟩,t3,t4,t5⟩:=h.imp.time hc hs h.gd
  rw[←h.nw] at t1 t2 t3 t4 t5
  have later:∀i,aD≤i→i<cs.length→now<lQ cs i:=fun i h1 h2=>by
   have h3:=hc.sorted h1 h2
   have h4:=t3 aD h.c0 (by omega)
   have h5:lQ cs aD≠now:=fun he=>W3 ⟨by omega,he⟩
   omega
  have hp:=h.imp.ph4 hc t1 t2 h.c0 h.c1 h.eq later
  rw[←h.vW,←h.enq] at hp
  refine⟨st,ws.length,ends.length,hp,h.c1,hb.1,t5,Nat.le_refl _,?_⟩
  have hms:=h.ms
  have hc0:=h.c0
  have Zp:=h.c1
  by_cases he:rT=aD
  ·subst he
   rcases t4 with⟨h1,h2⟩ | ⟨h1,h2⟩
   ·exact absurd ⟨h1,h2⟩ W3
   ·right
    have hw:ws=QZ:=by
     rw[h.vW,h.imp.vW,mF (st:=st) h.imp.DA h.imp.past fun i h3 h4=>(h.imp.Gl i h3 h4).1]
    have aR:(oR.filter (Aj now)).length<oR.length:=by
     rcases Nat.lt_or_ge (oR.filter (Aj now)).length oR.length with h3 | h3
     ·exact h3
     ·have h4:=List.length_filter_le (Aj now) oR
      have h5:=(List.length_filter_eq_length_iff (p:=Aj now) (l:=oR)).1 (by omega) now h2
      simp[Aj] at h5
    have:=h.imp.es
    rw[hw,h.enq]
    exact⟨by omega,h1,by omega⟩
  ·left
   omega
 Vj:=by
  rintro m now aD ws ends st ⟨OB,w2,e2,h⟩ hb cI
  obtain⟨k,h1,_,h2,_,h3⟩:=h.ph.step hc hr hb cI
  refine⟨k,h1,OB,w2,e2,h3,h.c1,h.tc,h.run,?_,h.ms⟩
  rw[List.length_eraseIdx_of_lt h2]
  have:=h.wle
  omega
 toI:=by
  rintro m now aD ws ends st ⟨OB,w2,e2,h⟩ W3
  have anV:=h.ph.Td
  have adZ:=h.wle
  refine⟨2*(cs.length-aD)+ws.length,?_,rfl,now,h.ph.done hc h.c1 h.tc ?_ h.run⟩
  ·rcases h.ms with h1 | ⟨h1,h2,h3⟩
   ·omega
   ·by_cases hw:0<ws.length
    ·have:¬(ends.length:Int)<aE:=fun he=>W3 ⟨he,hw⟩
     omega
    ·omega
  ·by_cases hw:0<ws.length
   ·exact .inl (by have:¬(ends.length:Int)<aE:=fun he=>W3 ⟨he,hw⟩;omega)
   ·exact .inr (List.eq_nil_of_length_eq_zero (by omega))
theorem nD {aA aE:Int} {cs:List aJ}:(gR aA aE cs).length=cs.length:=by
 have h1:∀(n:Nat) (t:Int) (st:List Int),(fill aA aE cs t n st).length=st.length:=by
  intro n
  induction n with
  | zero=>intro t st;rfl
  |
   succ n ih =>
   intro t st
   rw[fill]
   split
   ·split
    ·rfl
    ·rw[ih,List.length_set]
   ·rfl
 have h2:∀(n:Nat) (t:Int) (st:List Int),(runT aA aE cs t n st).length=st.length:=by
  intro n
  induction n with
  | zero=>intro t st;rfl
  | succ n ih=>intro t st;rw[runT,ih,h1]
 unfold gR
 rw[h2,List.length_replicate]
def stR (bN:List Int) (n:Nat) (r:VV) (L:aC):Prop:=r = .ref n 0 0 bN.length bN.length∧L[0]? = some (.row 0 (bN.map nV) 1 true)
def afE (bN:List Int) (n:Nat) (r:VV) (L:aC):Prop:=r = .ref n 0 0 bN.length bN.length∧L=[.row 0 (bN.map nV) 1 true]
theorem afE.to {bN:List Int} {n:Nat} {r:VV} {L:aC} (h:afE bN n r L):stR bN n r L:=⟨h.1,by rw[h.2];rfl⟩
end Go.PM
namespace Go.PM
def AK (aA aE:Int) (cs:List aJ):Prop:=(0≤aA∧aA≤3)∧(1≤aE∧aE≤8)∧aN cs
noncomputable instance (aA aE:Int) (cs:List aJ):Decidable (AK aA aE cs):=Classical.propDecidable _
theorem BF {aA aE:Int} {cs:List aJ}:∀s∈gR aA aE cs,-1≤s∧s≤100000:=by
 have h1:∀(n:Nat) (t:Int) (st:List Int),0≤t∧t≤100000→(∀s∈st,-1≤s∧s≤100000)→∀s∈fill aA aE cs t n st,-1≤s∧s≤100000:=by
  intro n
  induction n with
  | zero=>intro t st _ h;exact h
  |
   succ n ih =>
   intro t st ht h
   rw[fill]
   split
   ·split
    ·exact h
    ·refine ih t _ ht fun s hs => ?_
     rcases List.mem_or_eq_of_mem_set hs with hs | rfl
     ·exact h s hs
     ·omega
   ·exact h
 have h2:∀(n:Nat) (t:Int) (st:List Int),0≤t→t+n≤100000→(∀s∈st,-1≤s∧s≤100000)→∀s∈runT aA aE cs t n st,-1≤s∧s≤100000:=by
  intro n
  induction n with
  | zero=>intro t st _ _ h;exact h
  |
   succ n ih =>
   intro t st ht hn h
   rw[runT]
   exact ih (t+1) _ (by omega) (by omega) (h1 _ t st ⟨ht,by omega⟩ h)
 exact h2 _ _ _ (Int.le_refl _) (by simp) fun s hs=>by
  have:=List.eq_of_mem_replicate hs
  omega
theorem IY (aA aE:Int) (cs:List aJ) (hn:cs.length≤1000000000):TC 30 [VI aA,VI aE,fR cs] (.sc (.bool (decide (AK aA aE cs)))):=by
 refine TC.walk ⟨true,false⟩ I5 rfl (Nat.le_of_ble_eq_true rfl) (by simp only[aO,aT];rfl) rfl ?_
 have eA:=rL cs hn
 unfold AK
 by_cases h1:0≤aA∧aA≤3
 ·by_cases h2:1≤aE∧aE≤8
  ·by_cases h3:aN cs<;>simp only[uI,qD,jJ,eA,h1,h2,h3,VX,Nat.reduceEqDiff,Nat.reduceAdd]<;>exact aI rfl
  ·simp only[uI,qD,jJ,h1,h2,VX,Nat.reduceEqDiff,Nat.reduceAdd]
   exact aI rfl
 ·simp only[uI,qD,jJ,h1,VX,Nat.reduceEqDiff,Nat.reduceAdd]
  exact aI rfl
theorem aN.mem {cs:List aJ} (h:aN cs) {c:aJ} (hc:c∈cs):(0≤c.t∧c.t≤10000)∧(1≤c.w∧c.w≤1000)∧(0≤c.k∧c.k≤9):=by
 obtain⟨i,hi⟩:=List.getElem?_of_mem hc
 exact h.at hi
theorem FC.mono {f:Nat} {args:List VV} {R R':Nat→VV→aC→Prop} (h:FC f args R) (hR:∀n r L,R n r L→R' n r L):FC f args R':=fun n=>(h n).mono fun _ _ ⟨L,h1,h2,h3,h4⟩=>⟨L,h1,h2,h3,hR _ _ _ h4⟩
theorem wO.all {aA aE:Int} {cs:List aJ} {st:List Int} {t:Int} {aD:Nat} {ws:List Nat} {ends:List Int} (h:wO aA aE cs st t aD ws ends) (MZ:¬aD<cs.length) (hw:¬0<ws.length):∀i,i<cs.length→0≤dL st i:=by
 intro i hi
 have jM:=h.DA
 rcases Int.lt_or_le (dL st i) 0 with h1 | h1
 ·have h2:i∈wt cs st t:=kN.2 ⟨hi,h1,h.past i (by omega)⟩
  rw[←h.vW,List.eq_nil_of_length_eq_zero (by omega:ws.length=0)] at h2
  cases h2
 ·exact h1
def mvI (g:aJ→Int):List aJ→List Int→List Int
 | c::cs,s::st=>(if 0≤s then s+g c else s)::mvI g cs st
 | _,_=>[]
theorem Qe {g:aJ→Int}:∀ {cs:List aJ} {st:List Int},st.length=cs.length→(mvI g cs st).length=cs.length
 | [],[],_=>rfl
 |
  c::cs,s::st,h=>by
  have h':st.length=cs.length:=by simpa using h
  rw[mvI,List.length_cons,Qe h',List.length_cons]
theorem Rb {g:aJ→Int}:∀ {cs:List aJ} {st:List Int} {i:Nat} {c:aJ} {s:Int},cs[i]? = some c→st[i]? = some s→(mvI g cs st)[i]? = some (if 0≤s then s+g c else s)
 | [],_,_,_,_,h,_=>by simp at h
 | _::_,[],_,_,_,_,h=>by simp at h
 |
  c::cs,s::st,0,_,_,h1,h2=>by
  injection h1 with h1
  injection h2 with h2
  subst h1;subst h2
  rfl
 |
  c::cs,s::st,i+1,_,_,h1,h2=>by
  rw[List.getElem?_cons_succ] at h1 h2
  rw[mvI,List.getElem?_cons_succ]
  exact Rb h1 h2
end Go.PM
namespace Go.PM
section
variable {aA aE room:Int} {cs:List aJ}
theorem B7.agJ (Y:B7 aA aE room cs):∀(d:Nat) {m:Nat} {now:Int} {aD:Nat} {ws:List Nat} {ends st:List Int},cs.length-aD≤d→Y.A m now aD ws ends st→∃Cf Ng,Y.S m now Cf Ng ends st:=by
 intro d
 induction d with
 |
  zero =>
  intro m now aD ws ends st hd hA
  exact⟨aD,ws,Y.toS hA fun h=>by omega⟩
 |
  succ d ih =>
  intro m now aD ws ends st hd hA
  by_cases h:aD<cs.length∧lQ cs aD=now
  ·exact ih (by omega) (Y.Uv hA h.1 h.2)
  ·exact⟨aD,ws,Y.toS hA h⟩
theorem B7.aiE (Y:B7 aA aE room cs):∀(d:Nat) {m:Nat} {now:Int} {aD:Nat} {ws:List Nat} {ends st:List Int},ws.length≤d→Y.S m now aD ws ends st→∃m' Ng AM Xt,m'<m∧Y.I m' aD Ng AM Xt:=by
 intro d
 induction d with
 |
  zero =>
  intro m now aD ws ends st hd hS
  obtain⟨m',h1,h2⟩:=Y.toI hS fun h=>by omega
  exact⟨m',ws,ends,st,h1,h2⟩
 |
  succ d ih =>
  intro m now aD ws ends st hd hS
  by_cases h:(ends.length:Int)<aE∧0<ws.length
  ·obtain⟨k,h1,h2⟩:=Y.Vj hS h.1 h.2
   refine ih ?_ h2
   rw[List.length_eraseIdx_of_lt (List.getElem?_eq_some_iff.1 h1).1]
   omega
  ·obtain⟨m',h1,h2⟩:=Y.toI hS h
   exact⟨m',ws,ends,st,h1,h2⟩
theorem B7.reach (Y:B7 aA aE room cs):∃m aD ws ends st,Y.I m aD ws ends st∧¬aD<cs.length∧¬0<ws.length:=by
 obtain⟨m0,h0⟩:=Y.start
 have key:∀(d:Nat) {m aD ws ends st},m≤d→Y.I m aD ws ends st→∃m aD ws ends st,Y.I m aD ws ends st∧¬aD<cs.length∧¬0<ws.length:=by
  intro d
  induction d with
  |
   zero =>
   intro m aD ws ends st hd hI
   by_cases hg:aD<cs.length∨0<ws.length
   ·obtain⟨Cf,Ng,hS⟩:=Y.agJ _ (Nat.le_refl _) (Y.toA hI hg)
    obtain⟨m',anE,AM,Xt,h1,h2⟩:=Y.aiE _ (Nat.le_refl _) hS
    omega
   ·exact⟨m,aD,ws,ends,st,hI,fun h=>hg (.inl h),fun h=>hg (.inr h)⟩
  |
   succ d ih =>
   intro m aD ws ends st hd hI
   by_cases hg:aD<cs.length∨0<ws.length
   ·obtain⟨Cf,Ng,hS⟩:=Y.agJ _ (Nat.le_refl _) (Y.toA hI hg)
    obtain⟨m',anE,AM,Xt,h1,h2⟩:=Y.aiE _ (Nat.le_refl _) hS
    exact ih (by omega) h2
   ·exact⟨m,aD,ws,ends,st,hI,fun h=>hg (.inl h),fun h=>hg (.inr h)⟩
 exact key m0 (Nat.le_refl _) h0
theorem Bn (hc:aN cs) (hr:0≤aA∧aA≤3) (hs:1≤aE):∀i,i<cs.length→0≤dL (gR aA aE cs) i:=by
 obtain⟨m,aD,ws,ends,st,⟨_,t,hI⟩,h1,h2⟩:=(ZO hc hr hs (Int.le_refl 24)).reach
 rw[←hI.done h1 h2]
 exact hI.all h1 h2
theorem qY (a:Nat):∀(t:Int) (b:Nat) (st:List Int),runT aA aE cs t (a+b) st=runT aA aE cs (t+a) b (runT aA aE cs t a st):=by
 induction a with
 | zero=>intro t b st;simp[runT]
 |
  succ a ih =>
  intro t b st
  rw[show a+1+b=(a+b)+1 by omega,runT,runT,ih]
  congr 1
  omega
theorem pT {t:Int} (h0:0≤t):∀(n:Nat) (st:List Int),st.length=cs.length→(fill aA aE cs t n st).length=cs.length∧∀i,i<cs.length→(0≤dL st i→dL (fill aA aE cs t n st) i=dL st i)∧(dL st i<0→dL (fill aA aE cs t n st) i=dL st i∨t≤dL (fill aA aE cs t n st) i):=by
 intro n
 induction n with
 | zero=>intro st hl;exact⟨hl,fun i _=>⟨fun _=>rfl,fun _ => .inl rfl⟩⟩
 |
  succ n ih =>
  intro st hl
  rw[fill]
  split
  ·split
   ·exact⟨hl,fun i _=>⟨fun _=>rfl,fun _ => .inl rfl⟩⟩
   ·rename_i k hk
    obtain⟨h2,h3,_⟩:=kN.1 (oP hk)
    obtain⟨g1,g2⟩:=ih (st.set k t) (by simp[hl])
    refine⟨g1,fun i hi => ?_⟩
    obtain⟨g3,g4⟩:=g2 i hi
    rw[lS (by omega)] at g3 g4
    by_cases Zz:i=k
    ·rw[if_pos Zz] at g3 g4
     subst Zz
     exact⟨fun h=>by omega,fun _ => .inr (by have:=g3 h0;omega)⟩
    ·rw[if_neg Zz] at g3 g4
     exact⟨g3,g4⟩
  ·exact⟨hl,fun i _=>⟨fun _=>rfl,fun _ => .inl rfl⟩⟩
theorem Bk:∀(n:Nat) (t:Int) (st:List Int),0≤t→st.length=cs.length→(runT aA aE cs t n st).length=cs.length∧∀i,i<cs.length→(0≤dL st i→dL (runT aA aE cs t n st) i=dL st i)∧(dL st i<0→dL (runT aA aE cs t n st) i<0∨t≤dL (runT aA aE cs t n st) i):=by
 intro n
 induction n with
 | zero=>intro t st _ hl;exact⟨hl,fun i _=>⟨fun _=>rfl,fun h => .inl h⟩⟩
 |
  succ n ih =>
  intro t st h0 hl
  rw[runT]
  obtain⟨f1,f2⟩:=pT (aA:=aA) (aE:=aE) h0 cs.length st hl
  obtain⟨g1,g2⟩:=ih (t+1) _ (by omega) f1
  refine⟨g1,fun i hi => ?_⟩
  obtain⟨g3,g4⟩:=g2 i hi
  obtain⟨f3,f4⟩:=f2 i hi
  refine⟨fun h=>by rw[g3 (by rw[f3 h];exact h),f3 h],fun h => ?_⟩
  rcases f4 h with f5 | f5
  ·rw[f5] at g4
   rcases g4 h with g5 | g5
   ·exact .inl g5
   ·exact .inr (by omega)
  ·exact .inr (by rw[g3 (by omega)];exact f5)
theorem Q4 {x:aJ} {i:Nat} (h:i<cs.length):lQ (cs++[x]) i=lQ cs i:=by unfold lQ;rw[List.getElem?_append_left h]
theorem K3 {x:aJ} {i:Nat} (h:i<cs.length):rQ (cs++[x]) i=rQ cs i:=by unfold rQ;rw[List.getElem?_append_left h]
theorem Q7 {x:aJ} {i:Nat} (h:i<cs.length):klC (cs++[x]) i=klC cs i:=by unfold klC;rw[List.getElem?_append_left h]
theorem GN {st:List Int} {y:Int} {i:Nat} (h:i<st.length):dL (st++[y]) i=dL st i:=by unfold dL;rw[List.getElem?_append_left h]
theorem IS {st:List Int} {y:Int}:dL (st++[y]) st.length=y:=pQ (by simp)
theorem Om {x:aJ}:lQ (cs++[x]) cs.length=x.t:=pU (by simp)
theorem UE {x:aJ} {st:List Int} {t:Int} (hl:st.length=cs.length):bz (cs++[x]) (st++[-1]) t=bz cs st t:=by
 unfold bz
 rw[List.length_append,List.length_cons,List.length_nil,List.range_succ,List.countP_append,List.countP_singleton]
 have h1:CC (cs++[x]) (st++[-1]) t cs.length=false:=by
  unfold CC
  rw[←hl,IS]
  rfl
 rw[h1]
 simp only[Bool.false_eq_true,if_false,Nat.add_zero]
 refine List.countP_congr fun i hi => ?_
 rw[List.mem_range] at hi
 unfold CC
 rw[GN (by omega),K3 hi]
theorem abS {x:aJ} {st:List Int} {t:Int} (hl:st.length=cs.length) (ht:t<x.t):wt (cs++[x]) (st++[-1]) t=wt cs st t:=by
 unfold wt
 rw[List.length_append,List.length_cons,List.length_nil,List.range_succ,List.filter_append]
 have h1:Xq (cs++[x]) (st++[-1]) t cs.length=false:=by
  unfold Xq
  rw[Om,decide_eq_false (by omega:¬x.t≤t),Bool.and_false]
 rw[List.filter_cons_of_neg (by rw[h1];decide),List.filter_nil,List.append_nil]
 refine List.filter_congr fun i hi => ?_
 rw[List.mem_range] at hi
 unfold Xq
 rw[GN (by omega),Q4 hi]
theorem Ww {x:aJ} {b:Option Nat} {i:Nat} (hi:i<cs.length) (hb:∀k,b=some k→k<cs.length):kS aA (cs++[x]) b i=kS aA cs b i:=by
 unfold kS
 cases b with
 | none=>rfl
 |
  some k =>
  have:=hb k rfl
  have El:uA aA (cs++[x]) i k=uA aA cs i k:=by unfold uA;rw[K3 hi,K3 this,Q7 hi,Q7 this]
  simp only[El]
theorem XW {x:aJ} {st:List Int} {t:Int} (hl:st.length=cs.length) (ht:t<x.t):OE aA (cs++[x]) (st++[-1]) t=OE aA cs st t:=by
 unfold OE
 rw[abS hl ht]
 have:∀(ws:List Nat),(∀i∈ws,i<cs.length)→∀b:Option Nat,(∀k,b=some k→k<cs.length)→ws.foldl (kS aA (cs++[x])) b=ws.foldl (kS aA cs) b:=by
  intro ws
  induction ws with
  | nil=>intro _ b _;rfl
  |
   cons i ws ih =>
   intro hw b hb
   have hi:=hw i List.mem_cons_self
   rw[List.foldl_cons,List.foldl_cons,Ww hi hb]
   refine ih (fun j hj=>hw j (List.mem_cons_of_mem _ hj)) _ fun k hk => ?_
   unfold kS at hk
   cases b with
   | none=>injection hk with hk;omega
   |
    some q =>
    simp only at hk
    have:=hb q rfl
    split at hk<;>(injection hk with hk;omega)
 exact this _ (fun i hi=>(kN.1 hi).1) none fun k hk=>by cases hk
theorem WO {x:aJ} {t:Int} (ht:t<x.t):∀(n:Nat) (st:List Int),st.length=cs.length→fill aA aE (cs++[x]) t n (st++[-1])=fill aA aE cs t n st++[-1]:=by
 intro n
 induction n with
 | zero=>intro st _;rfl
 |
  succ n ih =>
  intro st hl
  rw[fill,fill,UE hl,XW hl ht]
  split
  ·split
   ·rfl
   ·rename_i k hk
    obtain⟨h2,_,_⟩:=kN.1 (oP hk)
    rw[List.set_append_left _ _ (by omega),ih _ (by simp[hl])]
  ·rfl
theorem WG {x:aJ}:∀(n:Nat) (t:Int) (st:List Int),0≤t→t+n≤x.t→st.length=cs.length→runT aA aE (cs++[x]) t n (st++[-1])=runT aA aE cs t n st++[-1]:=by
 intro n
 induction n with
 | zero=>intro t st _ _ _;rfl
 |
  succ n ih =>
  intro t st h0 ht hl
  have h1:=pT (aA:=aA) (aE:=aE) h0 cs.length st hl
  have Kp:=uG (st:=st++[-1])
  have e1:fill aA aE (cs++[x]) t (cs++[x]).length (st++[-1])=fill aA aE cs t cs.length st++[-1]:=by
   rw[WO (by omega) _ _ hl]
   congr 1
   exact Ky hl h0 _ _ (by have:=uG (st:=st);rw[List.length_append];omega) (by have:=uG (st:=st);omega)
  rw[runT,runT,e1]
  exact ih _ _ (by omega) (by omega) h1.1
end
end Go.PM
namespace Go.PM
def jY (cs:List aJ) (κ:List Nat):List aJ:=κ.map fun i=>(cs[i]?).getD ⟨0,0,0⟩
def ML (aE:Int) (K:List aJ) (t:Int):Nat:=(List.range K.length).countP fun j=>decide (t<dL (gR 0 aE K) j+rQ K j)
def tY (aE room:Int) (cs:List aJ):Nat→List Nat
 | 0=>[]
 | i+1=>if room≤(ML aE (jY cs (tY aE room cs i)) (lQ cs i):Int) then tY aE room cs i else tY aE room cs i++[i]
section
variable {aE room:Int} {cs:List aJ} {κ:List Nat}
theorem Bb:(jY cs κ).length=κ.length:=by simp[jY]
theorem IB {j k:Nat} (hj:κ[j]? = some k) (hk:k<cs.length):(jY cs κ)[j]? = cs[k]? := by
 unfold jY
 rw[List.getElem?_map,hj,Option.map_some,List.getElem?_eq_getElem hk,Option.getD_some]
theorem XK {j k:Nat} (hj:κ[j]? = some k) (hk:k<cs.length):rQ (jY cs κ) j=rQ cs k:=by unfold rQ;rw[IB hj hk]
theorem W5 {i:Nat}:jY cs (κ++[i])=jY cs κ++[(cs[i]?).getD ⟨0,0,0⟩]:=by simp[jY]
theorem GY:∀ {n i:Nat},i∈tY aE room cs n→i<n:=by
 intro n
 induction n with
 | zero=>intro i h;cases h
 |
  succ n ih =>
  intro i h
  rw[tY] at h
  split at h
  ·exact Nat.lt_succ_of_lt (ih h)
  ·rcases List.mem_append.1 h with h | h
   ·exact Nat.lt_succ_of_lt (ih h)
   ·rw[List.mem_singleton] at h
    omega
theorem Lw:∀n:Nat,(tY aE room cs n).Pairwise (· < ·):=by
 intro n
 induction n with
 | zero=>exact List.Pairwise.nil
 |
  succ n ih =>
  rw[tY]
  split
  ·exact ih
  ·rw[List.pairwise_append]
   refine⟨ih,List.pairwise_singleton _ _,fun a ha b hb => ?_⟩
   rw[List.mem_singleton] at hb
   rw[hb]
   exact GY ha
theorem Rv:∀n:Nat,(tY aE room cs n).length≤n:=by
 intro n
 induction n with
 | zero=>exact Nat.le_refl _
 |
  succ n ih =>
  rw[tY]
  split
  ·omega
  ·rw[List.length_append,List.length_cons,List.length_nil];omega
theorem Vv (hc:aN cs) (akT:κ.Pairwise (· < ·)) (hm:∀i∈κ,i<cs.length) (hl:κ.length≤24):aN (jY cs κ):=by
 refine⟨fun j x hx => ?_,by rw[Bb];exact hl⟩
 have QE:j<κ.length:=by have:=(List.getElem?_eq_some_iff.1 hx).1;rw[Bb] at this;exact this
 have hk:κ[j]? = some κ[j]:=List.getElem?_eq_getElem QE
 have hkn:=hm _ (List.getElem_mem QE)
 rw[IB hk hkn] at hx
 refine⟨(hc.1 _ x hx).1,fun b Qh hb => ?_⟩
 have So:κ[j-1]? = some κ[j-1]:=List.getElem?_eq_getElem (by omega)
 have ajJ:=hm _ (List.getElem_mem (by omega:j-1<κ.length))
 rw[IB So ajJ] at hb
 have aR:κ[j-1]<κ[j]:=List.pairwise_iff_getElem.1 akT (j-1) j (by omega) QE (by omega)
 have:=hc.sorted (Nat.le_of_lt aR) hkn
 rw[pU hx,pU hb] at this
 exact this
structure RA (aE:Int) (K:List aJ) (sK:List Int) (now:Int) (pJ:List Nat) (ends:List Int):Prop where
 C7:Way K sK now
 arr:∀i,i<K.length→lQ K i≤now
 vW:pJ=(List.range K.length).filter (nL sK)
 Qp:∀u,now≤u→ends.countP (Aj u)=bz K sK u
 ef:∀e∈ends,now<e
 eb:∀e∈ends,e+1000*(tE sK:Int)≤11000+1000*(K.length:Int)
 fwd:runT 0 aE K 0 now.toNat (List.replicate K.length (-1))=sK
 es:(ends.length:Int)≤aE
variable {K:List aJ} {sK:List Int} {now t:Int} {pJ:List Nat} {ends:List Int}
theorem RA.run (h:RA aE K sK now pJ ends) (hK:aN K):runT 0 aE K now (100000-now).toNat sK=gR 0 aE K:=by
 have Jm:=h.C7.tm
 have hle:=(h.C7.le hK).1
 have e:(100000:Nat)=now.toNat+(100000-now).toNat:=by omega
 unfold gR
 rw[e,qY,h.fwd]
 congr 1
 omega
theorem RA.wt (h:RA aE K sK now pJ ends):pJ=wt K sK now:=by
 rw[h.vW,mF (Nat.le_refl _) h.arr fun i h1 h2=>by omega]
theorem RA.busy (h:RA aE K sK now pJ ends):ends.length=bz K sK now:=by
 rw[←h.Qp now (Int.le_refl _),(List.countP_eq_length (p:=Aj now)).2 fun e he=>decide_eq_true (h.ef e he)]
theorem Lg {p q r:Nat→Bool}:∀n,(∀i,i<n→(p i=true↔q i=true∨r i=true)∧¬(q i=true∧r i=true))→(List.range n).countP p=(List.range n).countP q+(List.range n).countP r:=by
 intro n
 induction n with
 | zero=>intro _;rfl
 |
  succ n ih =>
  intro h
  rw[List.range_succ,List.countP_append,List.countP_append,List.countP_append,ih fun i hi=>h i (by omega)]
  obtain⟨h1,h2⟩:=h n (by omega)
  simp only[List.countP_singleton]
  cases hp:p n<;>cases hq:q n<;>cases hr:r n<;>simp[hp,hq,hr] at h1 h2 ⊢ <;> omega
theorem RA.count (h:RA aE K sK now pJ ends) (hK:aN K) (hs:1≤aE):ML aE K now=pJ.length+ends.length:=by
 have kF:=h.run hK
 have Jm:=h.C7.tm
 have fL:=Bn (aA:=0) (aE:=aE) hK ⟨by decide,by decide⟩ hs
 have yT:=(Bk (aA:=0) (aE:=aE) (cs:=K) (100000-now).toNat now sK Jm.1 h.C7.len).2
 rw[kF] at yT
 unfold ML
 rw[Lg (q:=CC K sK now) (r:=nL sK)]
 ·rw[h.busy,h.vW,List.countP_eq_length_filter (p:=nL sK)]
  unfold bz
  omega
 ·intro i hi
  obtain⟨k1,k2⟩:=yT i hi
  have hw:=(hK.G0 hi).2
  have hp:=fL i hi
  have hh:=h.C7.high i hi
  simp only[CC,nL,Bool.and_eq_true,decide_eq_true_eq]
  by_cases h0:0≤dL sK i
  ·have:=k1 h0
   constructor
   ·constructor
    ·intro h3
     exact .inl ⟨⟨h0,hh⟩,by omega⟩
    ·rintro(⟨_,h3⟩ | h3)<;>omega
   ·omega
  ·have:=k2 (by omega)
   constructor
   ·constructor
    ·intro _;exact .inr (by omega)
    ·intro _;omega
   ·omega
theorem RA.aD {x:aJ} (h:RA aE K sK now pJ ends) (hx:x.t=now):RA aE (K++[x]) (sK++[-1]) now (pJ++[K.length]) ends:=by
 have hl:=h.C7.len
 have Jm:=h.C7.tm
 have hu:tE (sK++[-1])=tE sK+1:=by
  unfold tE
  rw[List.countP_append]
  rfl
 have hlen:(K++[x]).length=K.length+1:=by simp
 have Cs:∀i,i<K.length+1→dL (sK++[-1]) i=if i<K.length then dL sK i else -1:=by
  intro i hi
  split
  ·exact GN (by omega)
  ·have:i=sK.length:=by omega
   rw[this]
   exact IS
 refine⟨⟨by simp[hl],?_,?_,?_,Jm.1,?_⟩,?_,?_,?_,h.ef,?_,?_,h.es⟩
 ·intro i hi
  rw[Cs i (by omega)]
  split
  ·exact h.C7.low i (by assumption)
  ·omega
 ·intro i hi
  rw[Cs i (by omega)]
  split
  ·exact h.C7.high i (by assumption)
  ·omega
 ·intro i hi
  rw[Cs i (by omega),hu,hlen]
  split
  ·rename_i h1
   have:=h.C7.bd i h1
   omega
  ·have:=uG (st:=sK)
   omega
 ·rw[hu,hlen]
  omega
 ·intro i hi
  rcases Nat.lt_or_ge i K.length with h1 | h1
  ·rw[Q4 h1]
   exact h.arr i h1
  ·have:i=K.length:=by omega
   rw[this,Om]
   omega
 ·rw[hlen,List.range_succ,List.filter_append,h.vW]
  congr 1
  ·refine List.filter_congr fun i hi => ?_
   rw[List.mem_range] at hi
   unfold nL
   rw[GN (by omega)]
  ·have:nL (sK++[-1]) K.length=true:=by
    unfold nL
    rw[←hl,IS]
    rfl
   rw[List.filter_cons_of_pos this]
   rfl
 ·intro u hu
  rw[UE hl]
  exact h.Qp u hu
 ·intro e he
  have:=h.eb e he
  rw[hu,hlen]
  omega
 ·rw[hlen,List.replicate_succ']
  have:=WG (aA:=0) (aE:=aE) (cs:=K) (x:=x) now.toNat 0 (List.replicate K.length (-1)) (Int.le_refl _) (by omega) (by simp)
  rw[this,h.fwd]
theorem RA.of (h:wO 0 aE K sK t K.length pJ ends) (hf:runT 0 aE K 0 (t+1).toNat (List.replicate K.length (-1))=sK) (ht:t<now) (hn:now+1000*(tE sK:Int)≤11000+1000*(K.length:Int)) (hq:∀u,t<u→u<now→full 0 aE K sK u) :
  RA aE K sK now pJ (ends.filter (Aj now)):=by
 have Jm:=h.tm
 refine⟨⟨h.len,h.low,fun i hi=>by have:=h.high i hi;omega,h.bd,by omega,hn⟩,fun i hi=>by have:=h.past i hi;omega,?_,?_,?_,?_,?_,?_⟩
 ·rw[←mF (st:=sK) h.DA h.past fun i h3 h4=>by omega]
  exact h.vW
 ·intro u hu
  rw[List.countP_filter,←h.Qp u (by omega)]
  refine List.countP_congr fun e he => ?_
  simp only[Aj,Bool.and_eq_true,decide_eq_true_eq]
  omega
 ·intro e he
  have:=(List.mem_filter.1 he).2
  simpa[Aj] using this
 ·intro e he
  exact h.eb e (List.mem_filter.1 he).1
 ·rw[show now.toNat=(t+1).toNat+(now-(t+1)).toNat by omega,qY,hf]
  have:=ET (aA:=0) (aE:=aE) (cs:=K) (st:=sK) (now-(t+1)).toNat (0+((t+1).toNat:Int)) (now-(t+1)).toNat (fun u h1 h2=>hq u (by omega) (by omega)) (Nat.le_refl _)
  rw[this,Nat.sub_self]
  rfl
 ·have:=List.length_filter_le (Aj now) ends
  have:=h.es
  omega
theorem RA.ph (h:RA aE K sK now pJ ends):Yl 0 aE K sK now K.length (pJ.length+ends.length) sK pJ ends :=
 ⟨h.C7,h.wt,h.Qp,h.ef,h.eb,rfl,h.arr,fun i h1 h2=>by omega,rfl,h.es⟩
theorem wO.quiet (h:wO 0 aE K sK t K.length pJ ends) (hn:0<pJ.length→∀e∈ends,now≤e):∀u,t<u→u<now→full 0 aE K sK u:=by
 intro u h1 h2
 by_cases hw:0<pJ.length
 ·left
  have ZM:aE≤(bz K sK t:Int):=by
   rcases h.fl with hf | hf
   ·exact hf
   ·rw[lL,←h.vW] at hf
    rw[hf] at hw
    simp at hw
  rw[←h.Qp u (by omega),(List.countP_eq_length (p:=Aj u)).2 fun e he=>decide_eq_true (by have:=hn hw e he;omega),h.LU]
  exact ZM
 ·right
  rw[lL,mF (Nat.le_refl _) (fun i hi=>by have:=h.past i hi;omega) fun i h3 h4=>by omega]
  have e1:=mF (st:=sK) h.DA h.past fun i h3 h4=>(h.Gl i h3 h4).1
  rw[←e1,←h.vW]
  exact List.eq_nil_of_length_eq_zero (by omega)
end
end Go.PM
namespace Go.PM
section
variable {aE room:Int} {cs:List aJ} {κ:List Nat}
abbrev kAt (κ:List Nat) (j:Nat):Nat:=(κ[j]?).getD 0
abbrev OZ (κ:List Nat) (st:List Int):List Int:=κ.map (dL st)
theorem Yw {st:List Int} {j k:Nat} (hj:κ[j]? = some k):dL (OZ κ st) j=dL st k:=pQ (by rw[List.getElem?_map,hj];rfl)
theorem YQ {st:List Int} {j k:Nat} {v:Int} (hn:κ.Nodup) (hj:κ[j]? = some k) (hk:k<st.length):OZ κ (st.set k v)=(OZ κ st).set j v:=by
 apply List.ext_getElem?
 intro i
 rw[List.getElem?_map,List.getElem?_set,List.getElem?_map]
 have QE:=(List.getElem?_eq_some_iff.1 hj).1
 by_cases IW:j=i
 ·subst IW
  rw[if_pos rfl,hj,if_pos (by simpa using QE)]
  simp only[Option.map_some]
  rw[lS hk,if_pos rfl]
 ·rw[if_neg IW]
  cases hi:κ[i]? with
  | none=>rfl
  |
   some q =>
   simp only[Option.map_some]
   rw[lS hk,if_neg]
   intro he
   subst he
   have h1:=List.getElem?_eq_some_iff.1 hi
   have h2:=List.getElem?_eq_some_iff.1 hj
   have h3:=List.pairwise_iff_getElem.1 hn
   rcases Nat.lt_or_gt_of_ne IW with h4 | h4
   ·exact h3 j i h2.1 h1.1 h4 (h2.2.trans h1.2.symm)
   ·exact h3 i j h1.1 h2.1 h4 (h1.2.trans h2.2.symm)
structure RB (aE room:Int) (cs:List aJ) (aD:Nat) (st:List Int) (κ:List Nat):Prop where
 kq:κ=tY aE room cs aD
 sl:st.length=cs.length
 ls:∀i,i<cs.length→i∉κ→dL st i = -1
 c1:aD≤cs.length
theorem RB.mem {aD:Nat} {st:List Int} (h:RB aE room cs aD st κ) {i:Nat} (hi:i∈κ):i<aD:=by rw[h.kq] at hi;exact GY hi
theorem RB.nd {aD:Nat} {st:List Int} (h:RB aE room cs aD st κ):κ.Nodup:=by
 rw[h.kq]
 exact(Lw aD).imp fun h=>Nat.ne_of_lt h
theorem RB.kl {aD:Nat} {st:List Int} (h:RB aE room cs aD st κ):κ.length≤aD:=by rw[h.kq];exact Rv aD
theorem RB.ok {aD:Nat} {st:List Int} (h:RB aE room cs aD st κ) (hc:aN cs):aN (jY cs κ):=by
 have:=hc.2
 have:=h.kl
 have:=h.c1
 refine Vv hc (by rw[h.kq];exact Lw aD) (fun i hi=>by have:=h.mem hi;omega) (by omega)
structure RI (aE room:Int) (cs:List aJ) (m aD:Nat) (ws:List Nat) (ends st:List Int) (t:Int) (κ pJ:List Nat):Prop where
 b:RB aE room cs aD st κ
 imp:wO 0 aE (jY cs κ) (OZ κ st) t (jY cs κ).length pJ ends
 fwd:runT 0 aE (jY cs κ) 0 (t+1).toNat (List.replicate (jY cs κ).length (-1))=OZ κ st
 vW:ws=pJ.map (kAt κ)
 Gl:∀i,aD≤i→i<cs.length→t<lQ cs i
 ms:m=2*(cs.length-aD)+ws.length
structure RAf (aE room:Int) (cs:List aJ) (m:Nat) (now:Int) (aD:Nat) (ws:List Nat) (ends st:List Int) (κ pJ:List Nat):Prop where
 b:RB aE room cs aD st κ
 ra:RA aE (jY cs κ) (OZ κ st) now pJ ends
 vW:ws=pJ.map (kAt κ)
 Gl:∀i,aD≤i→i<cs.length→now≤lQ cs i
 ms:2*(cs.length-aD)+ws.length<m∨(2*(cs.length-aD)+ws.length=m∧((aD<cs.length∧lQ cs aD=now)∨(0<ws.length∧(ends.length:Int)<aE)))
structure RS (aE room:Int) (cs:List aJ) (m:Nat) (now:Int) (aD:Nat) (ws:List Nat) (ends st:List Int) (κ pJ:List Nat) (Zc:List Int) (w2 e2:Nat):Prop where
 b:RB aE room cs aD st κ
 ph:Yl 0 aE (jY cs κ) Zc now (jY cs κ).length (w2+e2) (OZ κ st) pJ ends
 fwd:runT 0 aE (jY cs κ) 0 now.toNat (List.replicate (jY cs κ).length (-1))=Zc
 tc:w2+e2≤(jY cs κ).length
 vW:ws=pJ.map (kAt κ)
 wle:pJ.length≤w2
 Gl:∀i,aD≤i→i<cs.length→now<lQ cs i
 ms:2*(cs.length-aD)+w2<m∨(2*(cs.length-aD)+w2=m∧0<w2∧(e2:Int)<aE)
theorem RA.le {K:List aJ} {sK:List Int} {now:Int} {pJ:List Nat} {ends:List Int} (h:RA aE K sK now pJ ends) (hK:aN K) (hs:1≤aE):pJ.length+ends.length≤K.length:=by
 rw[←h.count hK hs]
 unfold ML
 have:=List.countP_le_length (p:=fun j=>decide (now<dL (gR 0 aE K) j+rQ K j)) (l:=List.range K.length)
 simpa using this
theorem RI.toA {m aD:Nat} {ws:List Nat} {ends st:List Int} {t:Int} {pJ:List Nat} (h:RI aE room cs m aD ws ends st t κ pJ) (hc:aN cs) (hs:1≤aE) (hg:aD<cs.length∨0<ws.length) :
  RAf aE room cs m (pX cs aD ws ends) aD ws (ends.filter (Aj (pX cs aD ws ends))) st κ pJ:=by
 have Rt:ws.length=pJ.length:=by rw[h.vW,List.length_map]
 have Jm:=h.imp.tm
 have Kp:=uG (st:=OZ κ st)
 have hsk:=h.imp.len
 have he0:∀e∈ends,0≤e:=fun e he=>by have:=h.imp.ef e he;omega
 have key:(t<pX cs aD ws ends∧pX cs aD ws ends+1000*(tE (OZ κ st):Int)≤11000+1000*((jY cs κ).length:Int))∧(∀i,aD≤i→i<cs.length→pX cs aD ws ends≤lQ cs i)∧(0<pJ.length→∀e∈ends,pX cs aD ws ends≤e) ∧
   (aD<cs.length∧lQ cs aD=pX cs aD ws ends∨0<ws.length∧pX cs aD ws ends∈ends):=by
  by_cases hw:0<ws.length
  ·have ZM:aE≤(bz (jY cs κ) (OZ κ st) t:Int):=by
    rcases h.imp.fl with hf | hf
    ·exact hf
    ·rw[lL,←h.imp.vW] at hf
     rw[Rt,hf] at hw
     simp at hw
   have cI:ends≠[]:=by
    intro he
    have:=h.imp.LU
    rw[he] at this
    simp at this
    omega
   obtain⟨g1,g2,g3,g4⟩:=UP (es:=ends) (b:=qA cs aD) he0
   have HG:pX cs aD ws ends=ends.foldl (C5 true) (qA cs aD):=by unfold pX;rw[decide_eq_true hw]
   rw[HG]
   generalize ends.foldl (C5 true) (qA cs aD)=w at *
   have g4:=g4 cI
   have B4:(aD<cs.length∧lQ cs aD=w)∨w∈ends:=by
    rcases g1 with g1 | g1
    ·unfold qA at g1
     split at g1
     ·rename_i jM
      exact .inl ⟨jM,g1.symm⟩
     ·omega
    ·exact .inr g1
   refine⟨?_,fun i h1 h2 => ?_,fun _=>g2,B4.imp id fun h1=>⟨hw,h1⟩⟩
   ·rcases B4 with⟨h1,h2⟩ | h1
    ·have:=h.Gl aD (Nat.le_refl _) h1
     have:=hc.G0 h1
     omega
    ·exact⟨h.imp.ef _ h1,h.imp.eb _ h1⟩
   ·have h3:=hc.sorted h1 h2
    have h4:=hc.G0 (i:=aD) (by omega)
    have h5:qA cs aD=lQ cs aD:=by unfold qA;rw[if_pos (by omega)]
    have:=g3 (by rw[h5];omega)
    omega
  ·have jM:aD<cs.length:=by omega
   have h5:qA cs aD=lQ cs aD:=by unfold qA;rw[if_pos jM]
   have h4:=hc.G0 jM
   have hf:=h.Gl aD (Nat.le_refl _) jM
   have HG:pX cs aD ws ends=lQ cs aD:=by unfold pX;rw[decide_eq_false hw,VC (by rw[h5];omega),h5]
   rw[HG]
   exact⟨⟨hf,by omega⟩,fun i h1 h2=>hc.sorted h1 h2,fun h6=>by omega,.inl ⟨jM,rfl⟩⟩
 obtain⟨⟨k1,k2⟩,k3,k4,k5⟩:=key
 generalize pX cs aD ws ends=now at *
 refine⟨h.b,RA.of h.imp h.fwd k1 k2 (h.imp.quiet k4),h.vW,k3,.inr ⟨h.ms.symm,?_⟩⟩
 rcases k5 with k5 | ⟨k5,k6⟩
 ·exact .inl k5
 ·right
  refine⟨k5,?_⟩
  have aR:(ends.filter (Aj now)).length<ends.length:=by
   rcases Nat.lt_or_ge (ends.filter (Aj now)).length ends.length with h3 | h3
   ·exact h3
   ·have h4:=List.length_filter_le (Aj now) ends
    have h5:=(List.length_filter_eq_length_iff (p:=Aj now) (l:=ends)).1 (by omega) now k6
    simp[Aj] at h5
  have:=h.imp.es
  omega
theorem RAf.step {m:Nat} {now:Int} {aD:Nat} {ws:List Nat} {ends st:List Int} {pJ:List Nat} (h:RAf aE room cs m now aD ws ends st κ pJ) (hc:aN cs) (hs:1≤aE) (aR:aD<cs.length) (Xp:lQ cs aD=now) :
  ∃κ' aoJ,RAf aE room cs m now (aD+1) (if (ws.length:Int)+(ends.length:Int)<room then ws++[aD] else ws) ends st κ' aoJ:=by
 have hK:=h.b.ok hc
 have asS:=h.ra.count hK hs
 have Rt:ws.length=pJ.length:=by rw[h.vW,List.length_map]
 have hni:aD∉κ:=fun hi=>Nat.lt_irrefl _ (h.b.mem hi)
 have Sh:tY aE room cs (aD+1)=if room≤(ML aE (jY cs κ) now:Int) then κ else κ++[aD]:=by rw[tY,←h.b.kq,Xp]
 have hms:=h.ms
 by_cases hr:(ws.length:Int)+(ends.length:Int)<room
 ·rw[if_pos hr]
  rw[if_neg (by omega)] at Sh
  have hx:cs[aD]? = some cs[aD]:=List.getElem?_eq_getElem aR
  have hK':jY cs (κ++[aD])=jY cs κ++[cs[aD]]:=by rw[W5,hx];rfl
  have Cs:dL st aD = -1:=h.b.ls aD aR hni
  have aoU:OZ (κ++[aD]) st=OZ κ st++[-1]:=by rw[OZ,List.map_append,List.map_cons,List.map_nil,Cs]
  have hlen:(jY cs κ).length=κ.length:=Bb
  refine⟨κ++[aD],pJ++[(jY cs κ).length],⟨Sh.symm,h.b.sl,fun i hi hn=>h.b.ls i hi fun hm=>hn (List.mem_append_left _ hm),by omega⟩,?_,?_,fun i h1 h2=>h.Gl i (by omega) h2,.inl ?_⟩
  ·rw[hK',aoU]
   exact h.ra.aD (by rw[←pU hx];exact Xp)
  ·rw[List.map_append,h.vW]
   congr 1
   ·refine List.map_congr_left fun j hj => ?_
    have QE:j<κ.length:=by
     rw[h.ra.vW] at hj
     have:=List.mem_range.1 (List.mem_filter.1 hj).1
     omega
    unfold kAt
    rw[List.getElem?_append_left QE]
   ·rw[List.map_cons,List.map_nil,hlen]
    unfold kAt
    rw[List.getElem?_append_right (Nat.le_refl _),Nat.sub_self]
    rfl
  ·rw[List.length_append,List.length_cons,List.length_nil]
   omega
 ·rw[if_neg hr]
  rw[if_pos (by omega)] at Sh
  exact⟨κ,pJ,⟨Sh.symm,h.b.sl,h.b.ls,by omega⟩,h.ra,h.vW,fun i h1 h2=>h.Gl i (by omega) h2,.inl (by omega)⟩
theorem RAf.toS {m:Nat} {now:Int} {aD:Nat} {ws:List Nat} {ends st:List Int} {pJ:List Nat} (h:RAf aE room cs m now aD ws ends st κ pJ) (hc:aN cs) (hs:1≤aE) (W3:¬(aD<cs.length∧lQ cs aD=now)) :
  RS aE room cs m now aD ws ends st κ pJ (OZ κ st) pJ.length ends.length:=by
 have Rt:ws.length=pJ.length:=by rw[h.vW,List.length_map]
 refine⟨h.b,h.ra.ph,h.ra.fwd,h.ra.le (h.b.ok hc) hs,h.vW,Nat.le_refl _,fun i h1 h2 => ?_,?_⟩
 ·have h3:=hc.sorted h1 h2
  have h4:=h.Gl aD (Nat.le_refl _) (by omega)
  have h5:lQ cs aD≠now:=fun he=>W3 ⟨by omega,he⟩
  omega
 ·rcases h.ms with h1 | ⟨h1,h2 | h2⟩
  ·exact .inl (by omega)
  ·exact absurd h2 W3
  ·exact .inr ⟨by omega,by omega,h2.2⟩
theorem RS.step {m:Nat} {now:Int} {aD:Nat} {ws:List Nat} {ends st:List Int} {pJ:List Nat} {Zc:List Int} {w2 e2:Nat} (h:RS aE room cs m now aD ws ends st κ pJ Zc w2 e2) (hc:aN cs) (hb:(ends.length:Int)<aE) (cI:0<ws.length) :
  ∃k,ws[nA 0 cs ws]? = some k∧RS aE room cs m now aD (ws.eraseIdx (nA 0 cs ws)) (ends++[now+rQ cs k]) (st.set k now) κ (pJ.eraseIdx 0) Zc w2 e2:=by
 have Rt:ws.length=pJ.length:=by rw[h.vW,List.length_map]
 have Gd:∀(c:List aJ) (l:List Nat),nA 0 c l=0:=fun c l=>rfl
 obtain⟨j,h1,h2,h3,h4,h5⟩:=h.ph.step (h.b.ok hc) ⟨by decide,by decide⟩ hb (by omega)
 rw[Gd] at h1 h3 h5
 rw[Gd]
 have QE:j<κ.length:=by rw[←Bb (cs:=cs)];exact h2
 have hk:κ[j]? = some κ[j]:=List.getElem?_eq_getElem QE
 have hkc:=h.b.mem (List.getElem_mem QE)
 have hkN:κ[j]<cs.length:=by have:=h.b.c1;omega
 have I0:=h.b.sl
 refine⟨κ[j],?_,⟨h.b.kq,by simp[I0],fun i hi hn => ?_,h.b.c1⟩,?_,h.fwd,h.tc,?_,?_,h.Gl,h.ms⟩
 ·rw[h.vW,List.getElem?_map,h1]
  simp only[Option.map_some,kAt,hk,Option.getD_some]
 ·rw[lS (by omega),if_neg (fun he=>hn (by rw[he];exact List.getElem_mem QE))]
  exact h.b.ls i hi hn
 ·rw[YQ h.b.nd hk (by omega),←XK (cs:=cs) hk hkN]
  exact h5
 ·rw[h.vW]
  cases pJ with
  | nil=>rfl
  | cons a l=>rfl
 ·rw[List.length_eraseIdx_of_lt h3]
  have:=h.wle
  omega
theorem RS.toI {m:Nat} {now:Int} {aD:Nat} {ws:List Nat} {ends st:List Int} {pJ:List Nat} {Zc:List Int} {w2 e2:Nat} (h:RS aE room cs m now aD ws ends st κ pJ Zc w2 e2) (hc:aN cs) (W3:¬((ends.length:Int)<aE∧0<ws.length)) :
  ∃m',m'<m∧RI aE room cs m' aD ws ends st now κ pJ:=by
 have Rt:ws.length=pJ.length:=by rw[h.vW,List.length_map]
 have anV:=h.ph.Td
 have adZ:=h.wle
 have Jm:=h.ph.C7.tm
 have hK:=h.b.ok hc
 have hle:=(h.ph.C7.le hK).1
 have hor:aE≤(ends.length:Int)∨pJ=[]:=by
  by_cases hw:0<ws.length
  ·exact .inl (by have:¬(ends.length:Int)<aE:=fun he=>W3 ⟨he,hw⟩;omega)
  ·exact .inr (List.eq_nil_of_length_eq_zero (by omega))
 have kF:runT 0 aE (jY cs κ) now (100000-now).toNat Zc=gR 0 aE (jY cs κ):=by
  unfold gR
  rw[show (100000:Nat)=now.toNat+(100000-now).toNat by omega,qY,h.fwd]
  congr 1
  omega
 have himp:=h.ph.done hK (Nat.le_refl _) h.tc hor kF
 refine⟨2*(cs.length-aD)+ws.length,?_,h.b,himp,?_,h.vW,h.Gl,rfl⟩
 ·rcases h.ms with h1 | ⟨h1,h2,h3⟩
  ·omega
  ·by_cases hw:0<ws.length
   ·have:¬(ends.length:Int)<aE:=fun he=>W3 ⟨he,hw⟩
    omega
   ·omega
 ·rw[show (now+1).toNat=now.toNat+1 by omega,qY,h.fwd,runT,runT,show (0:Int)+(now.toNat:Int)=now by omega,←h.ph.fl]
  exact pZ himp.fl _
end
structure Ko (aE room:Int) (cs:List aJ) (st:List Int):Prop where
 sl:st.length=cs.length
 kept:OZ (tY aE room cs cs.length) st=gR 0 aE (jY cs (tY aE room cs cs.length))
 lost:∀i,i<cs.length→i∉tY aE room cs cs.length→dL st i = -1
end Go.PM
namespace Go.PM
section
variable {aE room:Int} {cs:List aJ}
def AO (aE room:Int) (cs:List aJ) (i:Nat):Bool:=decide (i∈tY aE room cs (i+1))
theorem QY:∀ {i n:Nat},i≤n→tY aE room cs i <+: tY aE room cs n:=by
 intro i n h
 induction n with
 |
  zero =>
  have:i=0:=by omega
  subst this
  exact List.prefix_refl _
 |
  succ n ih =>
  rcases Nat.lt_or_ge i (n+1) with h1 | h1
  ·refine(ih (by omega)).trans ?_
   rw[show tY aE room cs (n+1)=if room≤(ML aE (jY cs (tY aE room cs n)) (lQ cs n):Int) then tY aE room cs n else tY aE room cs n++[n] from rfl]
   split
   ·exact List.prefix_refl _
   ·exact List.prefix_append _ _
  ·have:i=n+1:=by omega
   subst this
   exact List.prefix_refl _
theorem QT (i:Nat):tY aE room cs (i+1)=if AO aE room cs i=true then tY aE room cs i++[i] else tY aE room cs i:=by
 have h0:tY aE room cs (i+1)=if room≤(ML aE (jY cs (tY aE room cs i)) (lQ cs i):Int) then tY aE room cs i else tY aE room cs i++[i]:=rfl
 have hn:i∉tY aE room cs i:=fun h=>Nat.lt_irrefl _ (GY h)
 unfold AO
 by_cases hc:room≤(ML aE (jY cs (tY aE room cs i)) (lQ cs i):Int)
 ·rw[if_pos hc] at h0
  rw[h0,decide_eq_false hn,if_neg (by decide)]
 ·rw[if_neg hc] at h0
  rw[h0,decide_eq_true (List.mem_append_right _ List.mem_cons_self),if_pos rfl]
theorem R3 {i n:Nat} (h:i<n):i∈tY aE room cs n↔AO aE room cs i=true:=by
 unfold AO
 rw[decide_eq_true_eq]
 refine⟨fun hm => ?_,fun hm=>(QY (by omega:i+1≤n)).subset hm⟩
 induction n with
 | zero=>omega
 |
  succ n ih =>
  rcases Nat.lt_or_ge i n with h1 | h1
  ·refine ih h1 ?_
   rw[QT] at hm
   split at hm
   ·rcases List.mem_append.1 hm with h2 | h2
    ·exact h2
    ·rw[List.mem_singleton] at h2;omega
   ·exact hm
  ·have:i=n:=by omega
   subst this
   exact hm
theorem QC {i n:Nat} (h:i<n) (hk:AO aE room cs i=true):(tY aE room cs n)[(tY aE room cs i).length]? = some i:=by
 obtain⟨l,hl⟩:=QY (aE:=aE) (room:=room) (cs:=cs) (by omega:i+1≤n)
 rw[QT,if_pos hk] at hl
 rw[←hl,List.append_assoc,List.getElem?_append_right (Nat.le_refl _),Nat.sub_self]
 rfl
def rmS (aE room:Int) (cs:List aJ):List Int:=gR 0 aE (jY cs (tY aE room cs cs.length))
def ahT (aE room:Int) (cs:List aJ) (i:Nat):Int:=if AO aE room cs i=true then dL (rmS aE room cs) (tY aE room cs i).length+rQ cs i else -1
def aaF (aE room:Int) (cs:List aJ):List Int:=(List.range cs.length).map (ahT aE room cs)
theorem U5 (hc:aN cs) (hs:1≤aE) {i:Nat} (hi:i<cs.length) (hk:AO aE room cs i=true):(tY aE room cs i).length<(jY cs (tY aE room cs cs.length)).length∧0≤dL (rmS aE room cs) (tY aE room cs i).length∧dL (rmS aE room cs) (tY aE room cs i).length≤100000:=by
 have h1:=(List.getElem?_eq_some_iff.1 (QC hi hk)).1
 have h24:=hc.2
 have h2:=Rv (aE:=aE) (room:=room) (cs:=cs) cs.length
 have hK:aN (jY cs (tY aE room cs cs.length)):=Vv hc (Lw _) (fun j hj=>GY hj) (by omega)
 have hl:(tY aE room cs i).length<(jY cs (tY aE room cs cs.length)).length:=by rw[Bb];exact h1
 refine⟨hl,Bn hK ⟨by decide,by decide⟩ hs _ hl,?_⟩
 unfold rmS
 have h3:(gR 0 aE (jY cs (tY aE room cs cs.length)))[(tY aE room cs i).length]? = some _:=List.getElem?_eq_getElem (by rw[nD];exact hl)
 rw[pQ h3]
 exact(BF _ (List.mem_of_getElem? h3)).2
theorem Ko.at {st:List Int} (h:Ko aE room cs st) {i:Nat} (hi:i<cs.length):dL st i=if AO aE room cs i=true then dL (rmS aE room cs) (tY aE room cs i).length else -1:=by
 split
 ·rename_i hk
  unfold rmS
  rw[←h.kept,Yw (QC hi hk)]
 ·rename_i hk
  exact h.lost i hi fun hm=>hk ((R3 hi).1 hm)
theorem Ko.leaves {st:List Int} (h:Ko aE room cs st) (hc:aN cs) (hs:1≤aE):mvI (·.w) cs st=aaF aE room cs:=by
 apply List.ext_getElem?
 intro i
 by_cases hi:i<cs.length
 ·have hx:cs[i]? = some cs[i]:=List.getElem?_eq_getElem hi
  obtain⟨s0,Pa⟩:∃s0,st[i]? = some s0:=⟨_,List.getElem?_eq_getElem (by rw[h.sl];exact hi)⟩
  rw[Rb hx Pa,aaF,List.getElem?_map,List.getElem?_range hi]
  simp only[Option.map_some]
  congr 1
  have h1:=h.at hi
  rw[pQ Pa] at h1
  unfold ahT
  by_cases hk:AO aE room cs i=true
  ·have h2:=(U5 hc hs hi hk).2.1
   rw[if_pos hk] at h1 ⊢
   rw[h1,if_pos h2,Ew hx]
  ·rw[if_neg hk] at h1 ⊢
   rw[h1,if_neg (by decide)]
 ·rw[List.getElem?_eq_none (by rw[Qe h.sl];omega),List.getElem?_eq_none (by simp[aaF];omega)]
theorem Ko.neg {st:List Int} (h:Ko aE room cs st) (hc:aN cs) (hs:1≤aE) {i:Nat} {s:Int} (hi:st[i]? = some s):(s<0↔¬AO aE room cs i=true)∧s≤100000:=by
 have Gk:i<cs.length:=by rw[←h.sl];exact(List.getElem?_eq_some_iff.1 hi).1
 have h1:=h.at Gk
 rw[pQ hi] at h1
 by_cases hk:AO aE room cs i=true
 ·have h2:=(U5 hc hs Gk hk).2
  rw[if_pos hk] at h1
  exact⟨⟨fun h=>by omega,fun h=>absurd hk h⟩,by omega⟩
 ·rw[if_neg hk] at h1
  exact⟨⟨fun _=>hk,fun _=>by omega⟩,by omega⟩
end
def akA (aE room:Int) (cs:List aJ):Prop:=AK 0 aE cs∧(aE≤room∧room≤24)
noncomputable instance (aE room:Int) (cs:List aJ):Decidable (akA aE room cs):=Classical.propDecidable _
end Go.PM
namespace Go.PM
noncomputable def Em (aA aE:Int) (cs:List aJ):List Int:=if AK aA aE cs then gR aA aE cs else []
theorem Gu {aA aE:Int} {cs:List aJ} (hc:aN cs) (hr:0≤aA∧aA≤3) (hs:1≤aE∧aE≤8):FC 31 [VI aA,VI aE,VI 24,fR cs] fun n r L=>stR (gR aA aE cs) n r L∧∀s∈gR aA aE cs,0≤s:=by
 intro n
 refine(I1 (ZO hc hr hs.1 (Int.le_refl 24)) hc hr hs.2 n).mono ?_
 rintro r H ⟨L,h1,h2,h3,m,aD,ws,ends,st,⟨_,t,hI⟩,MZ,hw,h4,h5⟩
 have h6:=hI.done MZ hw
 refine⟨L,h1,h2,h3,⟨?_,?_⟩,fun s hs => ?_⟩
 ·rw[h4,nD]
 ·rw[h5,h6]
 ·rw[←h6] at hs
  obtain⟨i,hi⟩:=List.getElem?_of_mem hs
  have Gk:=(List.getElem?_eq_some_iff.1 hi).1
  have:=hI.all MZ hw i (by rw[←hI.len];exact Gk)
  rw[pQ hi] at this
  exact this
theorem LR.of {bN:List Int} {ok:Bool} {n:Nat} {r:VV} {L:aC} (h:stR bN n r L):LR bN ok n (.eX [r,.sc (.bool ok)]) L:=⟨r,rfl,.inr ⟨0,0,bN.length,h.1,Nat.le_refl _,h.2⟩⟩
theorem zJ (aA aE:Int) (cs:List aJ) (hn:cs.length≤1000000000):FC 9 [VI aA,VI aE,fR cs] fun n r L=>LR (Em aA aE cs) (decide (AK aA aE cs)) n r L∧∀s∈Em aA aE cs,0≤s:=by
 refine FC.walk ⟨true,false⟩ Gh (Nat.le_of_ble_eq_true rfl) fun n => ?_
 have eA:=IY aA aE cs hn
 by_cases nW:AK aA aE cs
 ·simp only[vN,rD,eA,nW,VX,Nat.reduceEqDiff,Nat.reduceAdd]
  refine FC.J7 (Gu nW.2.2 nW.1 nW.2.1) rfl (fz4 (aI rfl) (aI rfl) (aI rfl) (aI (aT _))) ?_
  rw[List.length_replicate]
  rintro r L ⟨hR,fL⟩ ho hL
  have hv:Em aA aE cs=gR aA aE cs:=if_pos nW
  simp only[VX,Nat.reduceEqDiff,Nat.reduceAdd]
  refine⟨L,rfl,by simp only[yE,wS,ho,kQ,Bool.and_self],hL,?_,?_⟩
  ·rw[hv]
   exact LR.of hR
  ·rw[hv]
   exact fL
 ·simp only[vN,rD,eA,nW,VX,Nat.reduceEqDiff,Nat.reduceAdd]
  have hv:Em aA aE cs=[]:=if_neg nW
  refine⟨[],by simp,rfl,rfl,⟨_,rfl,.inl ⟨rfl,hv⟩⟩,?_⟩
  rw[hv]
  intro s hs
  cases hs
end Go.PM