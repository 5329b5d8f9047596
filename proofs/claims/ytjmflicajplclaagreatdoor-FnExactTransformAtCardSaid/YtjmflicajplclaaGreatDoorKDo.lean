/- Texts of a claim, in one: part 15. -/
import Derived.KernelRfl
import Derived.Lib.LaidTab
import Derived.LaidLaws
import Derived.LaidMore
import Derived.MakeChecks
import Derived.Handed
import Derived.Test.YtjmflicajplclaaGreatDoorKDn
open And renaming intro → aL1
open Bool renaming false_eq_true → aKX,not_false → aNZ,not_true → aN0
open List renaming cons_append → aLL,getD_eq_getElem?_getD → aKi,getElem?_append_right → aKD,getElem?_eq_getElem → aKs,length_append → aKw,length_cons → aKv,length_nil → aLY,mem_of_getElem? → aLf,nil_append → aLD,prefix_append → aMg,prefix_refl → aN6,set_cons_zero → aLZ
open Nat renaming le_of_ble_eq_true → aL9,le_refl → aKl,le_trans → aKm,mul_le_mul_right → aKM,zero_add → aLT,zero_le → aKP,zero_lt_one → aNA
open Rat renaming not_lt → aN5
set_option linter.unusedSimpArgs false
set_option linter.unusedVariables false
namespace Go.PM
open Go.Lib
abbrev ET (x:F9):VV:=Cr aN x.1 x.2.1 x.2.2
theorem Y7 {x:F9} (hx:tH x) {r:Rat} {bb:Nat→Rat} {i:Nat}:∀j,HJ (Lw x r) bb x.1.length i j=if j<x.1.length then zQ (fun j => -gE x.2.1 i j) i (Sg (gE x.2.1 i) x.1.length+eE x.2.2 i+r) j else bb i:=fun j=>by
 unfold HJ
 by_cases hj:j<x.1.length
 ·rw[if_pos hj,if_pos hj]
  unfold Lw svA zQ
  by_cases h:j=i
  ·subst h
   rw[if_pos rfl,if_pos rfl,hx.gd j]
   grind
  ·rw[if_neg h,if_neg h]
   grind
 ·rw[if_neg hj,if_neg hj]
section
variable {x:F9} (hx:tH x)
include hx
set_option maxHeartbeats 16000000 in
set_option maxRecDepth 30000 in
theorem M9 {lo sb η K:Nat} {H:aA} {w:Bool} {v:VV} {r:Rat} {bb X:Nat→Rat} (hK:K=43) (h0:0≤r) (hr:aM r≤665) (hs:aG H sb 0=some ([ET x],3,w)) (hv:Rd aN 3 (vec x.1.length bb) H v) (hX:fJ x.1.length (Lw x r) bb X) (hXs:cU η x.1.length X) (hη:η≤274877906944) (dQ:lo≤H.length) :
  jA 114 [.ptr sb 0 0 0,aN r,v] lo H (YB (Jx aN 3 (vec x.1.length X)) H):=by
 refine jA.walk ⟨true,false⟩ MR (aL9 rfl) ?_
 have hn:=hx.n
 have ck:∀ {K},aG K sb 0=some ([ET x],3,w)→Qg (.ptr sb 0 0 0) K=some (.ptr sb 0 0 0):=fun h=>by rw[Qg,h];rfl
 have f0:∀ {K},aG K sb 0=some ([ET x],3,w)→yM 0 (.ptr sb 0 0 0) K=some (.ptr sb 0 0 0):=fun h=>by rw[JU h]
 have f1:∀ {K},aG K sb 0=some ([ET x],3,w)→yM 1 (.ptr sb 0 0 0) K=some (.ptr sb 0 0 1):=fun h=>by rw[JU h]
 have f2:∀ {K},aG K sb 0=some ([ET x],3,w)→yM 2 (.ptr sb 0 0 0) K=some (.ptr sb 0 0 2):=fun h=>by rw[JU h]
 have l0:∀ {K},aG K sb 0=some ([ET x],3,w)→bI false 1 (.ptr sb 0 0 0) K=some (aC aN x.1):=fun h=>by rw[bS,h];rfl
 have l1:∀ {K},aG K sb 0=some ([ET x],3,w)→bI false 1 (.ptr sb 0 0 1) K=some (aC (aC aN) x.2.1):=fun h=>by rw[bS,h];rfl
 have l2:∀ {K},aG K sb 0=some ([ET x],3,w)→bI false 1 (.ptr sb 0 0 2) K=some (aC aN x.2.2):=fun h=>by rw[bS,h];rfl
 have lr:∀K,bI true 3 (.cF (aN r) 0) K=some (aN r):=fun K=>cJ r
 have e0:∀K,oD false [.slice none 0 0] 0 [] K=some (.ref K.length 0 0 0 0,K++[.row 0 [] 1 true]):=fun K=>mO rfl
 have e3:∀K,oD false [.bool false,.slice none 0 0,.slice none 0 0] 0 [] K=some (.ref K.length 0 0 0 0,K++[.row 0 [] 3 true]):=fun K=>mO rfl
 simp only[HD,En,pP,if_true,ck hs,f0 hs,l0 hs,e0,List.length_map,eH,VX,Nat.reduceEqDiff,Nat.reduceAdd,Nat.reduceLeDiff,Nat.reduceLT,Nat.reduceSub]
 have wn:∀k:Nat,k≤x.1.length→IntKind.i64.wrap ((k:Int)+1)=((k+1:Nat):Int):=fun k hk=>wN _ (by omega) (by omega)
 refine aR (fun(i:Nat) ρ H1=>i≤x.1.length∧H <+: H1∧(∃rs,rs.length=i∧rs.map (·.xs)=(P7 x.1.length (x.1.length+1) (HJ (Lw x r) bb x.1.length)).take i∧MG aN 3 H.length H1.length H.length i H1 rs)∧ρ 0 = .ptr sb 0 0 0∧ρ 2=v∧ρ 4 = .cF (aN r) 0∧ρ 7=VI x.1.length∧ρ 8 = .ref H.length i 0 i i∧ρ 9=VI i) (fun i=>x.1.length-i) 0
  ⟨aKP _,aMg _ _,⟨[],rfl,rfl,kD,aKl _,by simp,by simp,by simp⟩,by (repeat' apply aL1)<;>first | rfl | trivial | assumption⟩ ?_
 rintro i ρ H1 ⟨hi,hp,⟨rs,AU,hrs,hM⟩,g0,g2,g4,g7,g8,g9⟩
 have Kx:=cR hp hs
 by_cases bX:(i:Int)<(x.1.length:Int)
 ·have uU:i<x.1.length:=by omega
  obtain⟨row,lX,WL⟩:=WY (g:=x.2.1) (i:=i) (by rw[hx.g];exact uU)
  have MB:=hx.gr row (aLf lX)
  have a1:=fun H=>aI (f:=aC aN) (t := .op) (H:=H) (size:=1) (k := .i64) lX rfl
  have apW:∀K,bI false 1 (.cF (aC aN row) 0) K=some (aC aN row):=fun K=>rfl
  simp only[yD,g0,g2,g4,g7,g8,g9,bX,e3,eH,VX,Nat.reduceEqDiff,Nat.reduceAdd,Nat.reduceLeDiff,Nat.reduceLT,Nat.reduceSub]
  refine aR (fun(j:Nat) ρ H2=>j≤x.1.length∧H1 <+: H2∧aG H2 H1.length j=some ((vec j fun j => -gE x.2.1 i j).map aN,3,true)∧ρ 0 = .ptr sb 0 0 0∧ρ 2=v∧ρ 4 = .cF (aN r) 0∧ρ 7=VI x.1.length∧ρ 8 = .ref H.length i 0 i i∧ρ 9=VI i∧ρ 10 = .ref H1.length j 0 j j∧ρ 11=VI j) (fun j=>x.1.length-j) 0
   ⟨aKP _,aMg _ _,kD,by (repeat' apply aL1)<;>first | rfl | trivial | assumption⟩ ?_
  clear g0 g2 g4 g7 g8 g9
  rintro j ρ H2 ⟨hj,hp2,hR,g0,g2,g4,g7,g8,g9,g10,g11⟩
  have hs2:=cR hp2 Kx
  have Dw:H.length≤H1.length:=hp.length_le
  by_cases EY:(j:Int)<(x.1.length:Int)
  ·have GU:j<x.1.length:=by omega
   obtain⟨q,hq⟩:∃q,row[j]? = some q:=⟨_,aKs (by rw[MB.1];exact GU)⟩
   have hGq:gE x.2.1 i j=q:=by rw[WL,aKi,hq];rfl
   have a2:=fun H=>aI (f:=aN) (t := .op) (H:=H) (size:=3) (k := .i64) hq rfl
   have eo:=BD q
   have eL:∀H,oD false [.bool false,.slice none 0 0,.slice none 0 0] 1 [(0,aN (-q))] H=some (.tree [aN (-q)] (.cl 3),H):=fun H=>lS rfl rfl rfl
   have eS:∀H,dF 3 (.tree [aN (-q)] (.cl 3)) H=some [aN (-q)]:=fun H=>gS rfl rfl
   have eP:=OV (lo:=lo) (bytes:=56) (x := -q) hR (by rw[nM]) (by omega) (by decide) (by decide) (by omega)
   simp only[xR,g0,g7,g9,g10,g11,EY,ck hs2,f1 hs2,l1 hs2,a1,a2,apW,cJ,eo,eL,eS,eP,wn j hj,eH,VX,Nat.reduceEqDiff,Nat.reduceAdd,Nat.reduceLeDiff,Nat.reduceLT,Nat.reduceSub]
   exact⟨j+1,by omega,by omega,nX hp2 (aKl _),by rw[Jo,hGq];exact cA hR,by (repeat' apply aL1)<;>first | rfl | trivial | assumption⟩
  ·have Yp:j=x.1.length:=by omega
   subst Yp
   obtain⟨q,hq⟩:∃q,x.2.2[i]? = some q:=⟨_,aKs (by rw[hx.e];exact uU)⟩
   have hqm:=hx.er q (aLf hq)
   have he:eE x.2.2 i=q:=by unfold eE;rw[aKi,hq];rfl
   have Yt:Sg (gE x.2.1 i) x.1.length=dO row:=by
    rw[aaG,MB.1]
    exact iT fun j _=>WL j
   have a3:=fun H=>aI (f:=aN) (t := .op) (H:=H) (size:=3) (k := .i64) hq rfl
   have hsb:=DT (B:=665) (n:=6) (fun q hq=>(MB.2 q hq).2) (by omega)
   have aHw:=yE (dO row) q
   have c1:=tK (dO row) q (by omega) (by omega)
   have c2:=tK (dO row+q) r (by omega) (by omega)
   have JM:=kW hR
   simp only[xR,g0,g2,g4,g7,g8,g9,g10,g11,EY,ck hs2,f1 hs2,l1 hs2,a1,apW,eH,VX,Nat.reduceEqDiff,Nat.reduceAdd,Nat.reduceLeDiff,Nat.reduceLT,Nat.reduceSub]
   refine rR rfl (Eh (v:=aC aN row) row (B:=665) (Rd.tree iL) (aKl _) (fun q hq=>(MB.2 q hq).2) (by omega) (by decide) (by omega)) fun y L hy => ?_
   subst hy
   have hp3:=Fb (L:=L) hp2
   have hs3:=gP (L:=L) hs2
   have hR3:Rw aN H1.length x.1.length x.1.length (fun j => -gE x.2.1 i j) (H2++L):=gP hR
   have hM3:=hM.pre hp3
   have hl3:H2.length≤(H2++L).length:=by rw[aKw];omega
   generalize H2++L=H3 at *
   have r1:=hR3.addr (c:=x.1.length) uU
   obtain⟨H4,s1,hH4⟩:∃H4,bK lo 3 (.ptr H1.length x.1.length i 0) (aN (dO row+q+r)) H3=some H4∧H4=H3.set H1.length (.row x.1.length ((vec x.1.length (zQ (fun j => -gE x.2.1 i j) i (dO row+q+r))).map aN) 3 true):=by
    have s:=dN (lo:=lo) (f:=aN) (x:=dO row+q+r) (j:=i) hR3 (by rw[nM];exact uU) (by omega) rfl rfl
    rw[Nw] at s
    exact⟨_,s,rfl⟩
   have hR4:aG H4 H1.length x.1.length=some ((vec x.1.length (zQ (fun j => -gE x.2.1 i j) i (dO row+q+r))).map aN,3,true):=by rw[hH4];exact cA hR3
   have hp4:H <+: H4:=by rw[hH4];exact nX (hp.trans hp3) Dw
   have hM4:MG aN 3 H.length H1.length H.length i H4 rs:=by rw[hH4];exact hM3.dB (jT.set (.inr (aKl _)))
   obtain⟨p,p1,p2⟩:=hv.get H4 hp4 i (bb i) (yT uU)
   have p2:=(p2 true).trans (cJ _)
   have eL:∀H,oD false [.bool false,.slice none 0 0,.slice none 0 0] 1 [(0,aN (bb i))] H=some (.tree [aN (bb i)] (.cl 3),H):=fun H=>lS rfl rfl rfl
   have eS:∀H,dF 3 (.tree [aN (bb i)] (.cl 3)) H=some [aN (bb i)]:=fun H=>gS rfl rfl
   have eP:=OV (lo:=lo) (bytes:=56) (x:=bb i) hR4 (by rw[nM]) (by omega) (by decide) (by decide) (by omega)
   have hR5:=cA (g:=x.1.length+1) (es:=(vec x.1.length (zQ (fun j => -gE x.2.1 i j) i (dO row+q+r))++[bb i]).map aN) (e:=3) (w:=true) hR4
   have hM5:=hM4.dB (H':=H4.set H1.length (.row (x.1.length+1) ((vec x.1.length (zQ (fun j => -gE x.2.1 i j) i (dO row+q+r))++[bb i]).map aN) 3 true)) (jT.set (.inr (aKl _)))
   have hp5:=nX (x := .row (x.1.length+1) ((vec x.1.length (zQ (fun j => -gE x.2.1 i j) i (dO row+q+r))++[bb i]).map aN) 3 true) hp4 Dw
   have hel:(vec x.1.length (zQ (fun j => -gE x.2.1 i j) i (dO row+q+r))++[bb i]).length=x.1.length+1:=by rw[aKw,nM];rfl
   obtain⟨ap,hM6⟩:=hM5.snoc (fZ:=lo) AU.symm dQ (by omega) ⟨H1.length,x.1.length+1,x.1.length+1,vec x.1.length (zQ (fun j => -gE x.2.1 i j) i (dO row+q+r))++[bb i]⟩ (aKl _) (by simp only[hel];exact aKl _) hR5
   simp only[hel] at ap
   have eL1:∀K,oD false [.slice none 0 0] 1 [(0,.ref H1.length (x.1.length+1) 0 (x.1.length+1) (x.1.length+1))] K=some (.tree [.ref H1.length (x.1.length+1) 0 (x.1.length+1) (x.1.length+1)] (.cl 1),K):=fun K=>lS rfl rfl rfl
   have eS1:∀K,dF 1 (.tree [.ref H1.length (x.1.length+1) 0 (x.1.length+1) (x.1.length+1)] (.cl 1)) K=some [.ref H1.length (x.1.length+1) 0 (x.1.length+1) (x.1.length+1)]:=fun K=>gS rfl rfl
   simp only[g0,g2,g4,g8,g9,g10,ck hs3,f2 hs3,l2 hs3,a3,cJ,lr,c1,c2,r1,s1,p1,p2,eL,eS,eP,eL1,eS1,ap,wn i hi,eH,VX,Nat.reduceEqDiff,Nat.reduceAdd,Nat.reduceLeDiff,Nat.reduceLT,Nat.reduceSub]
   refine⟨i+1,by omega,by omega,nX hp5 (aKl _),⟨_,by rw[aKw,AU];rfl,?_,hM6.wide (aKl _) (by simp)⟩,by (repeat' apply aL1)<;>first | rfl | trivial | assumption⟩
   have xU:(P7 x.1.length (x.1.length+1) (HJ (Lw x r) bb x.1.length))[i]? = some (vec x.1.length (zQ (fun j => -gE x.2.1 i j) i (dO row+q+r))++[bb i]):=by
    rw[NB uU,Jo,Y7 hx,if_neg (Nat.lt_irrefl _)]
    refine congrArg some (congrArg (· ++ [bb i]) (xW fun j hj => ?_))
    rw[Y7 hx,if_pos hj,Yt,he]
   rw[sG xU,List.map_append,hrs]
   rfl
 ·have nC:i=x.1.length:=by omega
  subst nC
  rw[List.take_of_length_le (by rw[BZ];exact aKl _)] at hrs
  simp only[yD,g7,g8,g9,bX,eH,VX,Nat.reduceEqDiff,Nat.reduceAdd,Nat.reduceLeDiff,Nat.reduceLT,Nat.reduceSub]
  refine fS rfl ((MT (lo:=lo) (fZ:=H.length) (hi:=H1.length) (c:=x.1.length) ⟨rs,hM,hrs⟩ (hx.dgs hK h0 hr hX) hXs (by omega) (hx.small hK) hη dQ (aKm dQ hp.length_le) (aKl _)).mono ?_)
  rintro _ H' ⟨u,rfl,h1,h2,h3⟩
  simp only[eH,VX,Nat.reduceEqDiff,Nat.reduceAdd,Nat.reduceLeDiff,Nat.reduceLT,Nat.reduceSub]
  obtain⟨b,g,c,k1,k2,k3,k4,k5⟩:=h2
  exact⟨aKm hp.length_le h1,fun b g y hy=>h3 _ _ _ (.inl (kW hy)) (cR hp hy),b,g,c,aKm hp.length_le k1,k2,k3,k4,k5⟩
end
end Go.PM
namespace Go.PM
open Go.Lib
theorem fJ.times {n:Nat} {A:Nat→Nat→Rat} {b X:Nat→Rat} (h:fJ n A b X) (q:Rat):fJ n A (fun i=>q*b i) fun i=>q*X i:=fun i hi=>by
 show Sg (fun j=>A i j*(q*X j)) n=q*b i
 rw[←h i hi,←Ll]
 exact iT fun j _=>by grind
section
variable {x:F9} (hx:tH x)
include hx
set_option maxHeartbeats 4000000 in
set_option maxRecDepth 20000 in
theorem M1 {lo sb B:Nat} {H:aA} {w:Bool} {v:VV} {X:Nat→Rat} (hs:aG H sb 0=some ([ET x],3,w)) (hv:Rd aN 3 (vec x.1.length X) H v) (hX:∀i,i<x.1.length→aM (X i)≤B) (hB:B≤10000000000) (dQ:lo≤H.length) :
  jA 113 [.ptr sb 0 0 0,v] lo H (Rr (fun _ _ _ r=>r=aN (tM x.1 X x.1.length)) H):=by
 refine jA.walk ⟨true,false⟩ M5 (aL9 rfl) ?_
 have hn:=hx.n
 have ck:∀ {K},aG K sb 0=some ([ET x],3,w)→Qg (.ptr sb 0 0 0) K=some (.ptr sb 0 0 0):=fun h=>by rw[Qg,h];rfl
 have f0:∀ {K},aG K sb 0=some ([ET x],3,w)→yM 0 (.ptr sb 0 0 0) K=some (.ptr sb 0 0 0):=fun h=>by rw[JU h]
 have l0:∀ {K},aG K sb 0=some ([ET x],3,w)→bI false 1 (.ptr sb 0 0 0) K=some (aC aN x.1):=fun h=>by rw[bS,h];rfl
 have e1:=FW
 have s0:bK lo 3 (.ptr (H.length+1) 0 0 0) (aN 0) (H++[cell0,cell0])=some (H++[cell0,.row 0 [aN 0] 3 true]):=agZ dQ rfl
 have r4:aG (H++[cell0,.row 0 [aN 0] 3 true]) H.length 0=some ([VV.agg [VB false,.tree [] .nil,.tree [] .nil]],3,true):=by
  rw[cH,aKD (by omega),Nat.sub_self]
  rfl
 have r5:aG (H++[cell0,.row 0 [aN 0] 3 true]) (H.length+1) 0=some ([aN 0],3,true):=by
  rw[cH,aKD (by omega),Nat.add_sub_cancel_left]
  rfl
 simp only[G8,Es,e1,s0,List.append_assoc,aLL,aLD,aKw,aKv,aLY,aLT,eH,VX,Nat.reduceEqDiff,Nat.reduceAdd,Nat.reduceLeDiff,Nat.reduceLT,Nat.reduceSub]
 refine aR (fun(i:Nat) ρ H1=>i≤x.1.length∧H <+: H1∧aG H1 H.length 0=some ([VV.agg [VB false,.tree [] .nil,.tree [] .nil]],3,true)∧aG H1 (H.length+1) 0=some ([aN (tM x.1 X i)],3,true)∧ρ 0 = .ptr sb 0 0 0∧ρ 1=v∧ρ 4 = .ptr H.length 0 0 0∧ρ 5 = .ptr (H.length+1) 0 0 0∧ρ 6=VI i) (fun i=>x.1.length-i) 0
  ⟨aKP _,aMg _ _,r4,r5,by (repeat' apply aL1)<;>first | rfl | trivial | assumption⟩ ?_
 clear r4 r5 s0
 rintro i ρ H1 ⟨hi,hp,r4,r5,g0,g1,g4,g5,g6⟩
 have Dw:=kW r5
 have Kx:=cR hp hs
 have el:=hv.len H1 hp
 rw[nM] at el
 have l5:bI true 3 (.ptr (H.length+1) 0 0 0) H1=some (aN (tM x.1 X i)):=by rw[bS,r5];exact cJ _
 have AX:∀m,m≤x.1.length→aM (tM x.1 X m)≤6*(B+667)+1:=fun m hm=>by
  have h1:=Vf (f:=fun i=>x.1.getD i 0*X i) (B:=665+B) (n:=x.1.length) (fun i hi=>by
   have h2:=qB (x.1.getD i 0) (X i)
   have h3:=hX i hi
   have h4:aM (x.1.getD i 0)≤665:=Dd (P:=fun q=>aM q≤665) hx.wb rz0 i
   omega) m hm
  have h2:m*(665+B+1)≤6*(665+B+1):=aKM _ (by omega)
  unfold tM
  omega
 by_cases bX:(i:Int)<(x.1.length:Int)
 ·obtain⟨q,hq⟩:∃q,x.1[i]? = some q:=⟨_,aKs (by omega)⟩
  have hqm:=hx.wb q (aLf hq)
  have hqd:x.1.getD i 0=q:=by rw[aKi,hq];rfl
  have a1:=fun H=>aI (f:=aN) (t := .op) (H:=H) (size:=3) (k := .i64) hq rfl
  obtain⟨p,a2,a3⟩:=hv.get _ hp i (X i) (yT (by omega))
  have a3':=(a3 true).trans (cJ _)
  have wi:IntKind.i64.wrap ((i:Int)+1)=((i+1:Nat):Int):=wN _ (by omega) (by omega)
  have hXi:=hX i (by omega)
  have em:=EH q (X i) (by omega) (by omega)
  have bm:=qB q (X i)
  have bo:=AX i (by omega)
  have ea:=tK (tM x.1 X i) (q*X i) (by omega) (by omega)
  have xA:tM x.1 X i+q*X i=tM x.1 X (i+1):=by unfold tM;rw[Sg,hqd]
  rw[xA] at ea
  have s5:=bR (lo:=lo) (v:=aN (tM x.1 X (i+1))) (j:=0) r5 (by exact aNA) (by omega) (iL _) (pP _)
  rw[aLZ] at s5
  simp only[xT,g0,g1,g5,g6,el,bX,a1,a2,a3',l5,em,ea,s5,wi,cJ,ck Kx,f0 Kx,l0 Kx,eH,VX,Nat.reduceEqDiff,Nat.reduceAdd,Nat.reduceLeDiff,Nat.reduceLT,Nat.reduceSub]
  exact⟨i+1,by omega,by omega,nX hp (by omega),bC (by omega) r4,cA r5,by (repeat' apply aL1)<;>first | rfl | trivial | assumption⟩
 ·have nC:i=x.1.length:=by omega
  subst nC
  have s4:=bR (lo:=lo) (v:=aN (tM x.1 X x.1.length)) (j:=0) r4 (by exact aNA) dQ (iL _) (pP _)
  rw[aLZ] at s4
  have l4:bI true 3 (.ptr H.length 0 0 0) (H1.set H.length (.row 0 [aN (tM x.1 X x.1.length)] 3 true))=some (aN (tM x.1 X x.1.length)):=by rw[bS,cA r4];exact cJ _
  simp only[xT,g1,g4,g5,g6,el,bX,l5,s4,l4,eH,VX,Nat.reduceEqDiff,Nat.reduceAdd,Nat.reduceLeDiff,Nat.reduceLT,Nat.reduceSub]
  exact⟨nX hp (aKl _),rfl⟩
end
end Go.PM
namespace Go.PM
open Go.Lib
theorem IV {c:List (List ByteArray)}:∀ {i:Nat} {m:List (List Rat)},iR c i=some m→∀(k:Nat) (r:List Rat),m[k]? = some r→r.getD k 0=0
 | 0,m,h,k,r,hk=>by cases h;cases hk
 |
  i+1,m,h,k,r,hk=>by
  rw[iR] at h
  split at h
  ·rename_i out q h1 h2
   cases h
   obtain⟨l1,_⟩:=tW h1
   by_cases hki:k<out.length
   ·rw[List.getElem?_append_left hki] at hk
    exact IV h1 k r hk
   ·rw[aKD (by omega)] at hk
    have hz:k-out.length=0:=by
     have:=(List.getElem?_eq_some_iff.1 hk).1
     simp only[aKv,aLY] at this
     omega
    rw[hz] at hk
    cases hk
    have Su:k=i:=by omega
    subst Su
    exact(Jt h2).2.2.2
  ·cases h
theorem Us {s:tA} {x:F9} (h:eI s=some x):∀i,gE x.2.1 i i=0:=fun i=>by
 unfold eI at h
 split at h
 ·split at h
  ·split at h
   ·cases hm:iR s.g s.b.length with
    | none=>rw[hm] at h;cases h
    |
     some m =>
     rw[hm] at h
     cases h
     unfold gE
     rw[aKi (l:=m)]
     cases hr:m[i]? with
     | none=>rfl
     | some r=>exact IV hm i r hr
   ·cases h
  ·cases h
 ·cases h
theorem tH.of {s:tA} {x:F9} (h:eI s=some x) (he:BR x=true):tH x:=by
 obtain⟨h1,h2,h3,h4,h5,h6,h7⟩:=Sj h
 exact⟨h1,h2,h3,h4,h5,h6,h7,Us h,he⟩
def WR (s:tA) (val:F9→Rat):VV:=match eI s with
 | some x=>if BR x=true then Am (val x) else .dU [bD [],VB false]
 | none => .dU [bD [],VB false]
theorem Zu (s:tA) (val:F9→Rat):gW (WR s val)=true:=by
 unfold WR
 split
 ·split
  ·exact Gy _
  ·rfl
 ·rfl
theorem T7 {s:tA} {val:F9→Rat} (h:eI s=none):WR s val = .dU [bD [],VB false]:=by unfold WR;rw[h]
theorem YS {s:tA} {x:F9} {val:F9→Rat} (h:eI s=some x) (he:BR x=false):WR s val = .dU [bD [],VB false]:=by
 unfold WR
 simp only[h,he,aKX,if_false]
theorem ajO {s:tA} {x:F9} {val:F9→Rat} (h:eI s=some x) (he:BR x=true):WR s val=Am (val x):=by
 unfold WR
 simp only[h,he,if_true]
theorem KK (s:tA) (hb:N5 s) (f:Nat) (fU:List VV) (aBj:aO fU=true) (val:F9→Rat) (hf:∀x,tH x→TC f (I5 x::fU) (aF (val x))) (hv:∀x,tH x→aM (val x)≤1099511627776):TC 116 [tR s,.wX f fU] (WR s val):=by
 refine TC.walk ⟨true,false⟩ Km rfl (aL9 rfl) (vL (mT _) aBj) (Zu _ _) ?_
 have e1:=KI s hb
 have st:∀v,(aB v).length=3→(aB v).all bL=true→bK 0 3 (.ptr 0 0 0 0) v [.row 0 [.agg [.tree [] .nil,.tree [] .nil,.tree [] .nil]] 3 true]=some [.row 0 [v] 3 true]:=fun v h1 h2=>by
  rw[bR (e:=3) aT (by exact aNA) (aKl _) h1 h2]
  rfl
 unfold Qs at e1
 cases h:eI s with
 |
  none =>
  rw[T7 h]
  rw[h] at e1
  simp only[rK,oI,kJ,gG,e1,st ZM rfl rfl,if_true,aLY,aLD,aNZ,eH,VX,Nat.reduceEqDiff,Nat.reduceAdd,Nat.reduceLeDiff,Nat.reduceLT,Nat.reduceSub]
  exact aH rfl
 |
  some x =>
  rw[h] at e1
  have ld:bI true 3 (.ptr 0 0 0 0) [.row 0 [I5 x] 3 true]=some (I5 x):=rfl
  cases he:BR x with
  |
   false =>
   rw[YS h he]
   simp only[he] at e1
   simp only[rK,oI,kJ,gG,e1,st (I5 x) rfl rfl,if_true,aLY,aLD,aNZ,eH,VX,Nat.reduceEqDiff,Nat.reduceAdd,Nat.reduceLeDiff,Nat.reduceLT,Nat.reduceSub]
   exact aH rfl
  |
   true =>
   have hx:=tH.of h he
   rw[ajO h he]
   simp only[he] at e1
   have e2:=hf x hx
   have e3:=Vw (val x) (hv x hx)
   unfold Am at e3 ⊢
   by_cases xB:C2 (val x)=true
   ·rw[if_pos xB] at e3
    rw[if_pos xB]
    simp only[rK,oI,kJ,gG,e1,e2,e3,st (I5 x) rfl rfl,ld,if_true,aLY,aLD,aLL,aN0,eH,VX,Nat.reduceEqDiff,Nat.reduceAdd,Nat.reduceLeDiff,Nat.reduceLT,Nat.reduceSub]
    exact aH rfl
   ·rw[if_neg xB] at e3
    rw[if_neg xB]
    simp only[rK,oI,kJ,gG,e1,e2,e3,st (I5 x) rfl rfl,ld,if_true,aLY,aLD,aLL,aN0,eH,VX,Nat.reduceEqDiff,Nat.reduceAdd,Nat.reduceLeDiff,Nat.reduceLT,Nat.reduceSub]
    exact aH rfl
theorem amG {x:F9} {K:aA}:bI true 3 (.cF (I5 x) 0) K=some (I5 x):=rfl
theorem akO {x:F9}:dP true 3 (I5 x) 0=some (I5 x):=rfl
theorem arP {x:F9}:(aB (I5 x)).all bL=true:=rfl
end Go.PM
namespace Go.PM
open Go.Lib
theorem anR (s:tA) (val:F9→Rat):Hn (WR s val)=true:=by
 unfold WR Am
 split
 ·split
  ·split<;>rfl
  ·rfl
 ·rfl
theorem arW (s:tA) (val:F9→Rat):∃t ok,WR s val = .dU [.sc (.string t),VB ok]:=by
 unfold WR Am
 split
 ·split
  ·split<;>exact⟨_,_,rfl⟩
  ·exact⟨_,_,rfl⟩
 ·exact⟨_,_,rfl⟩
end Go.PM
namespace Go.PM
open Go.Lib
noncomputable def trQ (r:Rat) (x:F9):Rat:=tM x.1 (P8 x.1.length (Lw x r) (eE x.2.2)) x.1.length
noncomputable def trV (s:tA) (t:List UInt8):VV:=match rM t with
 | some r=>if r<0 then .dU [bD [],VB false] else WR s (trQ r)
 | none => .dU [bD [],VB false]
theorem ZN (s:tA) (t:List UInt8):gW (trV s t)=true:=by
 unfold trV
 split
 ·split
  ·rfl
  ·exact Zu _ _
 ·rfl
set_option maxRecDepth 4000 in
theorem tH.adZ {x:F9} (hx:tH x) {K:Nat} (hK:K=6):cU (K*665+1) x.1.length (eE x.2.2):=by
 have hn:=hx.n
 exact(cU.of (β:=665) (n:=x.1.length) (f:=eE x.2.2) fun k _=>hx.Tn (P:=fun q=>aM q≤665) (fun q h=>h.2) k).wide (by have:=aKM 665 (show x.1.length≤K by omega);omega)
theorem tH.W3 {x:F9} (hx:tH x) {r:Rat} (h0:0≤r) (hr:aM r≤665) {γ K:Nat} (hγ:γ=132000000) (hK:K=6):fJ x.1.length (Lw x r) (eE x.2.2) (P8 x.1.length (Lw x r) (eE x.2.2))∧cU (K*665+1+γ) x.1.length (P8 x.1.length (Lw x r) (eE x.2.2)) :=
 tH.sol hγ hx h0 hr (hx.adZ hK)
set_option maxRecDepth 4000 in
theorem tH.Z2 {x:F9} (hx:tH x) {r:Rat} (h0:0≤r) (hr:aM r≤665):aM (trQ r x)≤5000000000:=by
 obtain⟨γ,hγ⟩:∃γ,γ=132000000:=⟨132000000,rfl⟩
 obtain⟨K,hK⟩:∃K,K=6:=⟨6,rfl⟩
 have h1:=hx.begun (hx.W3 h0 hr hγ hK).2 x.1.length (aKl _)
 unfold trQ
 omega
theorem HY {lo:Nat} {H:aA} (xs:List Rat) (hn:1≤xs.length) (hn2:xs.length≤1000000) (dQ:lo≤H.length) :
  jA 120 [aC aF xs] lo H fun r H'=>r = .ref H.length 1 0 xs.length xs.length∧H'=H++[.row 1 (xs.map aF) 3 true]:=by
 refine jA.walk ⟨true,false⟩ tN (aL9 rfl) ?_
 obtain⟨q,qs,rfl⟩:∃q qs,xs=q::qs:=by cases xs with | nil=>exact absurd hn (by decide) | cons q qs=>exact⟨q,qs,rfl⟩
 have e3:∀K,oD false [.bool false,.slice none 0 0,.slice none 0 0] 0 [] K=some (.ref K.length 0 0 0 0,K++[.row 0 [] 3 true]):=fun K=>mO rfl
 have en:∀K,F2 false (aC aF (q::qs)) K=some (VB false):=fun K=>Fz
 have eS:∀K,dF 3 (aC aF (q::qs)) K=some (aF q::qs.map aF):=fun K=>by
  show (if _ then _ else _)=_
  have jN:((q::qs).map aF).all (fun x=>(aB x).length == 3&&(aB x).all bL)=true:=by
   rw[List.all_eq_true]
   intro y hy
   obtain⟨z,_,rfl⟩:=List.mem_map.1 hy
   rfl
  rw[if_pos jN]
  rfl
 have eA:dI lo 3 56 (.ref H.length 0 0 0 0) (aF q::qs.map aF) (H++[.row 0 [] 3 true])=some (.ref H.length 1 0 (qs.length+1) (qs.length+1),H++[.row 1 (aF q::qs.map aF) 3 true]):=by
  have hr:aG (H++[.row 0 [] 3 true]) H.length 0=some ([],3,true):=kD
  have JM:qs.length+1≤1000000:=hn2
  simp only[dI,hr,aKv,List.length_map]
  rw[if_pos (by decide),if_pos ⟨trivial,dQ,by simp⟩,if_neg (by simp),if_pos (by omega)]
  simp[List.set_append_right]
 simp only[mE,lB,e3,en,eS,eA,eH,VX,Nat.reduceEqDiff,Nat.reduceAdd,Nat.reduceLeDiff,Nat.reduceLT,Nat.reduceSub]
set_option maxHeartbeats 1000000 in
theorem E4 {x:F9} (hx:tH x) (r:Rat) (h0:0≤r) (hr:aM r≤665):TC 117 [I5 x,.cF (aF r) 0] (aF (trQ r x)):=by
 refine TC.walk ⟨true,false⟩ E2 rfl (aL9 rfl) (vL (RC _ _ _) (dW _)) (rS _) ?_
 have hn:=hx.n
 obtain⟨γ,hγ⟩:∃γ,γ=132000000:=⟨132000000,rfl⟩
 obtain⟨K,hK⟩:∃K,K=43:=⟨43,rfl⟩
 obtain⟨K6,hK6⟩:∃K,K=6:=⟨6,rfl⟩
 obtain⟨axK,BQ⟩:=hx.W3 h0 hr hγ hK6
 have lr:∀K,bI true 3 (.cF (aF r) 0) K=some (aF r):=fun K=>bH r
 have l2:∀K,bI false 1 (.cF (I5 x) 2) K=some (aC aF x.2.2):=fun K=>rfl
 simp only[AO,zL,arP,amG,akO,lr,bH,if_true,aLY,aLD,eH,VX,Nat.reduceEqDiff,Nat.reduceAdd,Nat.reduceLeDiff,Nat.reduceLT,Nat.reduceSub]
 refine L6 rfl (EO hx r hr (aKl _)) fun u H2 hl AZ hTI => ?_
 obtain⟨b,g,c,rfl,hc,hT⟩:=hTI.tb
 simp only[l2,eH,VX,Nat.reduceEqDiff,Nat.reduceAdd,Nat.reduceLeDiff,Nat.reduceLT,Nat.reduceSub]
 refine fS rfl ((HY x.2.2 (by rw[hx.e];exact hn.1) (by rw[hx.e];omega) (aKl _)).mono ?_)
 rintro _ _ ⟨rfl,rfl⟩
 rw[hx.e]
 have hR:Rw aF H2.length 1 x.1.length (eE x.2.2) (H2++[.row 1 (x.2.2.map aF) 3 true]):=by
  unfold Rw
  rw[show vec x.1.length (eE x.2.2)=x.2.2 from by rw[←hx.e];exact(XM x.2.2 0).symm]
  exact kD
 have hS:Sy aF 1 H2.length x.1.length b g H2.length 1 (Lw x r) (eE x.2.2) (H2++[.row 1 (x.2.2.map aF) 3 true]):=⟨hT.pre (aMg _ _),hR,.inr (aKl _)⟩
 simp only[eH,VX,Nat.reduceEqDiff,Nat.reduceAdd,Nat.reduceLeDiff,Nat.reduceLT,Nat.reduceSub]
 refine fS rfl ((S3 (lo:=0) (c:=c) (rc:=x.1.length) hS (hx.ups hK h0 hr axK) BQ (by omega) (hx.small hK) (by omega) (aKP _) (aKP _) (aKP _) (by simp) (by simp)).mono ?_)
 rintro _ H3 ⟨rfl,hO,hR3⟩
 have r0':aG H3 0 0=some ([VV.agg [VB false,.tree [] .nil,.tree [] .nil]],3,true):=hO.2 _ _ _ (.inl (by decide)) (by have:=hl;simp only[aKv,aLY] at this;omega) (gP (AZ _ _ _ rfl))
 simp only[amG,akO,eH,VX,Nat.reduceEqDiff,Nat.reduceAdd,Nat.reduceLeDiff,Nat.reduceLT,Nat.reduceSub]
 refine rR rfl (FA hx (X:=P8 x.1.length (Lw x r) (eE x.2.2)) (B:=K6*665+1+γ) (Rd.row (c:=x.1.length) hR3 (by rw[nM])) (fun i hi=>BQ.bits hi) (by omega) (aKP _)) fun y L hy => ?_
 subst hy
 have r0':=gP (L:=L) r0'
 have s4:=bR (lo:=0) (v:=aF (trQ r x)) (j:=0) r0' (by exact aNA) (aKP _) (cW _) (fL _)
 rw[aLZ] at s4
 have s4:bK 0 3 (.ptr 0 0 0 0) (aF (tM x.1 (P8 x.1.length (Lw x r) (eE x.2.2)) x.1.length)) (H3++L)=some ((H3++L).set 0 (.row 0 [aF (trQ r x)] 3 true)):=s4
 have l4:bI true 3 (.ptr 0 0 0 0) ((H3++L).set 0 (.row 0 [aF (trQ r x)] 3 true))=some (aF (trQ r x)):=by rw[bS,cA r0'];exact bH _
 simp only[s4,l4,eH,VX,Nat.reduceEqDiff,Nat.reduceAdd,Nat.reduceLeDiff,Nat.reduceLT,Nat.reduceSub]
 exact aH (dW _)
theorem arX {H:aA} {bx f e:Nat} {v:VV} {w:Bool} (h:aG H bx 0=some ([v],e,w)) (hp:aX v=true):fz depth H (.wX f [.ptr bx 0 0 0])=some (.wX f [.cF v 0]):=by
 have h1:aX (.wX f [.ptr bx 0 0 0])=false:=rfl
 have h2:aX (.ptr bx 0 0 0)=false:=rfl
 have h3:fz 7 H (.ptr bx 0 0 0)=some (.cF v 0):=by
  show fz (6+1) H _=_
  unfold fz
  simp only[h2,h,aKX,if_false,List.getElem?_cons_zero]
  show (fz (5+1) H v).map _=_
  unfold fz
  rw[if_pos hp]
  rfl
 show fz (7+1) H _=_
 unfold fz
 simp only[h1,aKX,if_false,List.mapM_cons,List.mapM_nil,h3]
 rfl
set_option maxHeartbeats 1000000 in
theorem Ir (s:tA) (t:List UInt8) (hb:N5 s) (ht:t.length≤1000000000):TC 47 [tR s,bD t] (trV s t):=by
 refine TC.walk ⟨true,false⟩ HW rfl (aL9 rfl) (vL (mT _) rfl) (ZN _ _) ?_
 have e1:=FV t (by omega)
 have st:∀v,(aB v).length=3→(aB v).all bL=true→bK 0 3 (.ptr 0 0 0 0) v [cell0]=some [.row 0 [v] 3 true]:=fun v h1 h2=>by
  rw[bR (e:=3) aT (by exact aNA) (aKl _) h1 h2]
  rfl
 unfold D4 at e1
 unfold trV
 cases h:rM t with
 |
  none =>
  rw[h] at e1
  simp only[sW,pI,kJ,gG,e1,st KU rfl rfl,if_true,aLY,aLD,aNZ,eH,VX,Nat.reduceEqDiff,Nat.reduceAdd,Nat.reduceLeDiff,Nat.reduceLT,Nat.reduceSub]
  exact aH rfl
 |
  some r =>
  rw[h] at e1
  have ld:bI true 3 (.ptr 0 0 0 0) [.row 0 [aF r] 3 true]=some (aF r):=bH r
  have eg:=dD r
  by_cases hs:iY r<0
  ·simp only[if_pos (Gq.1 hs)]
   simp only[sW,pI,kJ,gG,e1,st (aF r) (cW r) (fL r),ld,eg,hs,if_true,aLY,aLD,aN0,eH,VX,Nat.reduceEqDiff,Nat.reduceAdd,Nat.reduceLeDiff,Nat.reduceLT,Nat.reduceSub]
   exact aH rfl
  ·have jV:=mt Gq.2 hs
   simp only[if_neg jV]
   have h0:=aN5.1 jV
   have hr:=Io h
   have e2:=KK s hb 117 [.cF (aF r) 0] (FR (dW r)) (trQ r) (fun x hx=>E4 hx r h0 hr) (fun x hx=>aKm (hx.Z2 h0 hr) (by decide))
   have e2:=fun lo K=>TC.flat (H:=[.row 0 [aF r] 3 true]) e2 rfl (vL (mT _) (FR (dW r))) (fz2 (aH (mT _)) (arX (bx:=0) (e:=3) (w:=true) rfl (dW r))) (anR _ _) lo K
   obtain⟨u,ok,hu⟩:=arW s (trQ r)
   rw[hu] at e2 ⊢
   simp only[sW,pI,kJ,gG,e1,e2,st (aF r) (cW r) (fL r),ld,eg,hs,if_true,aLY,aLD,aN0,eH,VX,Nat.reduceEqDiff,Nat.reduceAdd,Nat.reduceLeDiff,Nat.reduceLT,Nat.reduceSub]
   exact aH rfl
end Go.PM
namespace Go.PM
open Go.Lib
theorem VD {v:VV} (h1:(aB v).length=3) (h2:(aB v).all bL=true):bK 0 3 (.ptr 0 0 0 0) v [kS]=some [.row 0 [v] 3 true]:=by
 rw[bR (e:=3) aT (by exact aNA) (aKl _) h1 h2]
 rfl
theorem aeE {x:F9}:bK 0 3 (.ptr 0 0 0 0) (ET x) [kS]=some [.row 0 [ET x] 3 true]:=VD (v:=ET x) rfl rfl
theorem noC {g:List (List Rat)}:bK 0 3 (.ptr 0 0 0 0) (.agg [.tree [] .op,aC (aC aN) g,.tree [] .op]) [kS]=some [.row 0 [.agg [.tree [] .op,aC (aC aN) g,.tree [] .op]] 3 true]:=VD (v := .agg [.tree [] .op,aC (aC aN) g,.tree [] .op]) rfl rfl
set_option maxHeartbeats 2000000 in
theorem HS (s:tA) (t:List UInt8) (hb:N5 s) (ht:t.length≤1000000000):TC 45 [tR s,bD t] (trV s t):=by
 refine TC.walk ⟨true,false⟩ Ih rfl (aL9 rfl) (vL (mT _) rfl) (ZN _ _) ?_
 have e1:=MH s hb
 have e2:=Er t ht
 unfold Nc at e1
 unfold DH at e2
 have st:∀u v,(aB v).length=3→(aB v).all bL=true→bK 0 3 (.ptr 1 0 0 0) v [.row 0 [u] 3 true,cell0]=some [.row 0 [u] 3 true,.row 0 [v] 3 true]:=fun u v h1 h2=>by
  rw[bR (e:=3) (g:=0) (j:=0) (dZ.trans aT) (by exact aNA) (aKP _) h1 h2]
  rfl
 have stR:=fun u q=>st u (aN q) (iL q) (pP q)
 have IM:=fun u=>st u KU rfl rfl
 have bad:(∀x r,eI s=some x→BR x=true→rM t=some r→0≤r→False)→trV s t = .dU [bD [],VB false]:=fun h=>by
  unfold trV
  cases hr:rM t with
  | none=>rfl
  |
   some r =>
   by_cases h0:r<0
   ·simp only[if_pos h0]
   ·simp only[if_neg h0]
    cases hs:eI s with
    | none=>exact T7 hs
    |
     some x =>
     cases he:BR x with
     | false=>exact YS hs he
     | true=>exact(h x r hs he hr (aN5.1 h0)).elim
 have jV:∀q:Rat,q.num<0↔q<0:=fun q=>by
  have:=Rat.num_nonneg (q:=q)
  have h2 := @aN5 0 q
  constructor
  ·intro h
   refine Rat.not_le.1 fun h3 => ?_
   have:=this.2 h3
   omega
  ·intro h
   refine Int.not_le.1 fun h3 => ?_
   exact absurd h (aN5.2 (this.1 h3))
 cases h:eI s with
 |
  none =>
  rw[bad (fun x r hx=>by rw[h] at hx;cases hx)]
  rw[h] at e1
  simp only at e1
  cases hp:rM t with
  |
   none =>
   rw[hp] at e2
   simp only at e2
   simp only[jG,gJ,kJ,gG,e1,e2,aeE,noC,IM,aKv,aLL,aLT,if_true,aLY,aLD,aNZ,eH,VX,Nat.reduceEqDiff,Nat.reduceAdd,Nat.reduceLeDiff,Nat.reduceLT,Nat.reduceSub]
   exact aH rfl
  |
   some r =>
   rw[hp] at e2
   simp only at e2
   simp only[jG,gJ,kJ,gG,e1,e2,aeE,noC,stR,aKv,aLL,aLT,if_true,aLY,aLD,aNZ,eH,VX,Nat.reduceEqDiff,Nat.reduceAdd,Nat.reduceLeDiff,Nat.reduceLT,Nat.reduceSub]
   exact aH rfl
 |
  some x =>
  rw[h] at e1
  simp only at e1
  cases hp:rM t with
  |
   none =>
   rw[bad (fun x r _ _ hx=>by rw[hp] at hx;cases hx)]
   rw[hp] at e2
   simp only at e2
   cases he:BR x<;>rw[he] at e1<;>simp only[jG,gJ,kJ,gG,e1,e2,aeE,noC,IM,aKv,aLL,aLT,if_true,aLY,aLD,aNZ,aN0,eH,VX,Nat.reduceEqDiff,Nat.reduceAdd,Nat.reduceLeDiff,Nat.reduceLT,Nat.reduceSub]<;>exact aH rfl
  |
   some r =>
   rw[hp] at e2
   simp only at e2
   cases he:BR x with
   |
    false =>
    rw[bad (fun y r hy hey=>by rw[h] at hy;cases hy;rw[he] at hey;cases hey)]
    rw[he] at e1
    simp only[jG,gJ,kJ,gG,e1,e2,aeE,noC,stR,aKv,aLL,aLT,if_true,aLY,aLD,aNZ,eH,VX,Nat.reduceEqDiff,Nat.reduceAdd,Nat.reduceLeDiff,Nat.reduceLT,Nat.reduceSub]
    exact aH rfl
   |
    true =>
    rw[he] at e1
    have e3:=PY r
    have ld:bI true 3 (.ptr 1 0 0 0) [.row 0 [ET x] 3 true,.row 0 [aN r] 3 true]=some (aN r):=avD rfl
    by_cases hs:r<0
    ·rw[bad (fun y q _ _ hq h0=>by rw[hp] at hq;cases hq;exact absurd hs (aN5.2 h0))]
     rw[decide_eq_true ((jV r).2 hs)] at e3
     simp only[jG,gJ,kJ,gG,e1,e2,e3,ld,aeE,noC,stR,aKv,aLL,aLT,if_true,aLY,aLD,aN0,eH,VX,Nat.reduceEqDiff,Nat.reduceAdd,Nat.reduceLeDiff,Nat.reduceLT,Nat.reduceSub]
     exact aH rfl
    ·rw[decide_eq_false (mt (jV r).1 hs)] at e3
     have h0:=aN5.1 hs
     have hr:=Io hp
     have hx:=tH.of h he
     have hv:trV s t=Am (trQ r x):=by
      unfold trV
      simp only[hp,if_neg hs]
      exact ajO h he
     rw[hv]
     obtain⟨γ,hγ⟩:∃γ,γ=132000000:=⟨132000000,rfl⟩
     obtain⟨K,hK⟩:∃K,K=43:=⟨43,rfl⟩
     obtain⟨K6,hK6⟩:∃K,K=6:=⟨6,rfl⟩
     obtain⟨axK,BQ⟩:=hx.W3 h0 hr hγ hK6
     have f2:yM 2 (.ptr 0 0 0 0) [.row 0 [ET x] 3 true,.row 0 [aN r] 3 true]=some (.ptr 0 0 0 2):=rfl
     have l2:bI false 1 (.ptr 0 0 0 2) [.row 0 [ET x] 3 true,.row 0 [aN r] 3 true]=some (aC aN x.2.2):=rfl
     have hE:aC aN x.2.2=aC aN (vec x.1.length (eE x.2.2)):=congrArg _ (by rw[←hx.e];exact XM x.2.2 0)
     simp only[jG,gJ,kJ,gG,e1,e2,e3,ld,f2,l2,aeE,noC,stR,aKv,aLL,aLT,if_true,aLY,aLD,aN0,eH,VX,Nat.reduceEqDiff,Nat.reduceAdd,Nat.reduceLeDiff,Nat.reduceLT,Nat.reduceSub]
     refine L6 rfl (M9 hx (lo:=0) (w:=true) hK h0 hr rfl (hE▸Rd.tree iL) axK BQ (by omega) (aKP _)) fun u H1 Dw hk1 hu => ?_
     simp only[eH,VX,Nat.reduceEqDiff,Nat.reduceAdd,Nat.reduceLeDiff,Nat.reduceLT,Nat.reduceSub]
     refine rR rfl (M1 hx (w:=true) (hk1 _ _ _ rfl) hu.rd (fun i hi=>BQ.bits hi) (by omega) (aKP _)) fun y L hy => ?_
     subst hy
     have e6:=OB (trQ r x) (aKm (hx.Z2 h0 hr) (by decide))
     obtain⟨t,ok,ht⟩:=RI (trQ r x)
     rw[ht] at e6 ⊢
     have e6:TC 112 [aN (tM x.1 (P8 x.1.length (Lw x r) (eE x.2.2)) x.1.length)] (.dU [bD t,VB ok]):=e6
     simp only[e6,eH,VX,Nat.reduceEqDiff,Nat.reduceAdd,Nat.reduceLeDiff,Nat.reduceLT,Nat.reduceSub]
     exact aH rfl
end Go.PM
namespace Go.PM
open Go.Lib
theorem amO (s:tA) (val:F9→Rat):∃t k,WR s val = .dU [bD t,VB k]:=by
 unfold WR
 split
 ·split
  ·exact RI _
  ·exact⟨_,_,rfl⟩
 ·exact⟨_,_,rfl⟩
noncomputable def KR (s:tA) (t:ByteArray):VV:=trV s t.data.toList
theorem Xb (s:tA) (t:ByteArray):∃u k,KR s t = .dU [bD u,VB k]:=by
 unfold KR trV
 split
 ·split
  ·exact⟨_,_,rfl⟩
  ·exact amO _ _
 ·exact⟨_,_,rfl⟩
theorem HZ (s:tA) (t:ByteArray) (hb:N5 s) (ht:t.size≤1000000000):TC 47 [tR s,sV t] (KR s t):=Ir s t.data.toList hb ht
theorem Im (s:tA) (t:ByteArray) (hb:N5 s) (ht:t.size≤1000000000):TC 45 [tR s,sV t] (KR s t):=HS s t.data.toList hb ht
theorem G0 (xs:List ByteArray) (left:Int) (hx:xs.length≤140737488355328) (hl:left<0 ∧ -1000000000000000≤left):TC 32 [gB xs,VI left] (VI (-1)):=by
 refine TC.walk ⟨true,false⟩ C8 rfl (aL9 rfl) (vL (jD _) rfl) rfl ?_
 have w:IntKind.i64.wrap (left-(xs.length:Int))=left-(xs.length:Int):=wrap64 (by omega) (by omega)
 have h:left-(xs.length:Int)<0:=by omega
 simp only[vV,sR,w,h,VX,Nat.reduceEqDiff,Nat.reduceAdd]
 exact aH rfl
theorem II (s:tA) (left:Int) (hx:s.b.length≤140737488355328) (hl:left<0 ∧ -1000000000000000≤left):TC 44 [tR s,VI left] (VI (-1)):=by
 refine TC.walk ⟨true,false⟩ Da rfl (aL9 rfl) (vL (mT _) rfl) rfl ?_
 have e0:=G0 s.b left hx hl
 simp only[nQ,lH,tR,e0,Int.reduceNeg,Int.reduceLT,if_true,VX,Nat.reduceEqDiff,Nat.reduceAdd,fT,Nat.reduceLeDiff,Nat.reduceLT,Nat.reduceSub]
 exact aH rfl
end Go.PM
namespace Go.PM
def iS:aE:=(LS [LO 2 (.box (LT 0)),LO 4 (.mv LF)] (LS [LM 13 1,LO 14 (.slen (LT 13)),LO 15 (.bin .sub (LI 1000000) (LT 14)),LM 5 15] (LS [LO 16 (LK 2),LM 17 5,LO 18 (.call 44 [(LT 16),(LT 17)]),LM 5 18] (.seq (LS [LM 19 5,LO 20 (.bin .lss (LT 19) (LI 0))] (.cond (LT 20) (LS [LO 4 (.mv LG)] .ret) .skip)) (LS [LO 22 (LK 2),LO 23 (.call 46 [(LT 22),LF]),LM 24 1,LO 25 (.call 45 [(LT 23),(LT 24)]),LM 21 25,LO 26 (LX 21 0),LO 27 (LX 21 1),LM 6 26,LM 7 27] (LS [LO 28 (LK 2),LO 29 (.call 46 [(LT 28),LF]),LO 8 (.new [(.slice none 0 0),(.slice none 0 0),(.slice none 0 0)]),LN (.store 3 (LT 8) (LT 29))] (LS [LO 31 (LK 8),LM 32 1,LO 33 (.call 47 [(LT 31),(LT 32)]),LM 30 33,LO 34 (LX 30 0),LO 35 (LX 30 1),LM 9 34,LM 10 35] (.seq (LS [LM 36 9,LM 37 6,LO 38 (.bin .neq (LT 36) (LT 37)),LM 39 38,LZ 39 40 (.mv (LT 10)),LZ 39 41 (.mv (LT 7)),LZ 39 42 (.eqb true (LT 40) (LT 41)),LO 43 (.pick (LT 39) LG (LT 42))] (.cond (LT 43) (LS [LO 4 (.mv LF)] .ret) .skip)) (.seq (LS [LO 44 (LK 8),LO 45 (LK 2),LQ 46 (.call 46 [(LT 45),LF]),LQ 47 (.call 48 [(LT 44),(LT 46)]),LO 48 (.un .not (LT 47))] (.cond (LT 48) (LS [LO 4 (.mv LF)] .ret) .skip)) (LS [LO 50 (LK 2),LO 51 (.call 46 [(LT 50),LG]),LM 52 1,LO 53 (.call 47 [(LT 51),(LT 52)]),LM 49 53,LO 54 (LX 49 0),LO 55 (LX 49 1),LM 11 54,LM 12 55] (.seq (LS [LM 56 11,LM 57 6,LO 58 (.bin .neq (LT 56) (LT 57)),LM 59 58,LZ 59 60 (.mv (LT 12)),LZ 59 61 (.mv (LT 7)),LZ 59 62 (.eqb true (LT 60) (LT 61)),LO 63 (.pick (LT 59) LG (LT 62))] (.cond (LT 63) (LS [LO 4 (.mv LF)] .ret) .skip)) (LS [LO 4 (.mv LG)] .ret))))))))))))
def jW:aU:=⟨64,[(.tmp 4)],iS⟩
theorem BN:fQ 10=some jW:=by kernel_rfl
end Go.PM
namespace Go.PM
theorem SO {f lo:Nat} {args mB:List VV} {r:VV} {H:aA} {K:VV→aA→Prop} (h:TC f mB r) (Ci:Fm.contains f=false) (ha':aO mB=true) (hf:args.mapM (fz depth H)=some mB) (hr:Hn r=true) (hk:K r H):dH f args lo H K:=by
 rw[h.flat Ci ha' hf hr]
 exact hk
theorem JP (l:List UInt8):dK .neq (.string ⟨l.toArray⟩) (.string ⟨l.toArray⟩)=some (.bool false):=by rw[Ti];simp
theorem Wc (b:Bool):PT true (Value.bool b) (Value.bool b)=some (.bool false):=by cases b<;>rfl
end Go.PM
namespace Go.PM
set_option maxHeartbeats 2000000 in
theorem BL (s0:tA) (s1:ByteArray) (Q7:apC s0) (hx1:s1.size≤140737488351232) (hy0:s0.b.length≤140737488355328):TC 10 [tR s0,sV s1] (.sc (.bool true)):=by
 refine TC.walk ⟨true,false⟩ BN rfl (aL9 rfl) (vL (mT _) rfl) rfl ?_
 have w1:IntKind.i64.wrap (1000000-(s1.size:Int))=1000000-(s1.size:Int):=wrap64 (by omega) (by omega)
 by_cases jV:1000000-(s1.size:Int)<0
 ·have aDb:=II s0 (1000000-(s1.size:Int)) hy0 (by omega)
  simp only[jW,iS,kJ,gG,w1,Ak,aDb,Int.reduceNeg,Int.reduceLT,VX,Nat.reduceEqDiff,Nat.reduceAdd]
  exact aH rfl
 have EU:s1.size≤1000000000:=by omega
 have afF:=KZ s0 (1000000-(s1.size:Int)) Q7 (by omega)
 change TC _ _ (VI (Pk s0 (1000000-(s1.size:Int)))) at afF
 by_cases aBw:Pk s0 (1000000-(s1.size:Int))<0
 ·rw[aqB aBw] at afF
  simp only[jW,iS,kJ,gG,w1,Ak,afF,Int.reduceNeg,Int.reduceLT,VX,Nat.reduceEqDiff,Nat.reduceAdd]
  exact aH rfl
 have aA7:=atQ (s:=s0) (l:=1000000-(s1.size:Int)) (by omega) (by omega)
 have aHe:=aA7.1
 have Qw:N5 s0:=aA7.2
 have hg0:=Qw.g9
 have hi0:=Qw.g4
 have hp0:=Qw.b4
 have Kd:=Qw.e4
 simp only[jW,iS,kJ,gG,w1,Ak,afF,aBw,VX,Nat.reduceEqDiff,Nat.reduceAdd]
 have cs:TC _ [tR s0,sV s1] (KR s0 s1):=Im s0 s1 Qw EU
 have ci:TC _ [tR s0,sV s1] (KR s0 s1):=HZ s0 s1 Qw EU
 obtain⟨s,k,hsk⟩:=Xb s0 s1
 rw[hsk] at cs ci
 have pa:aO [tR s0,sV s1]=true:=vL (mT _) rfl
 refine YP (by have:=hp0;omega) hg0 (by have:=Kd;omega) fun r1 H1 p1 s1' => ?_
 simp only[kJ,gG,VX,Nat.reduceEqDiff,Nat.reduceAdd]
 refine SO cs rfl pa (fz2 (s1'.pre (aN6 _)).fz (aH rfl)) rfl ?_
 simp only[kJ,gG,VX,Nat.reduceEqDiff,Nat.reduceAdd]
 refine YP (by have:=hp0;omega) hg0 (by have:=Kd;omega) fun r2 H2 p2 s2' => ?_
 have w2:=aEx (lo:=0) s2' (aKP _)
 simp only[kJ,gG,w2,rH,VX,Nat.reduceEqDiff,Nat.reduceAdd]
 have p3:=aMg H2 [.row 0 [r2] 3 true]
 have q2:aG (H2++[.row 0 [r2] 3 true]) H2.length 0=some ([r2],3,true):=kD
 generalize eh3:H2++[.row 0 [r2] 3 true]=H3 at *
 simp only[kJ,gG,ld3 s2' (cR (aN6 _) q2),VX,Nat.reduceEqDiff,Nat.reduceAdd]
 refine SO ci rfl pa (fz2 (s2'.pre p3).fz (aH rfl)) rfl ?_
 simp only[kJ,gG,JP,Wc,ld3 s2' (cR (aN6 _) q2),VX,Nat.reduceEqDiff,Nat.reduceAdd]
 refine YP (by have:=hp0;omega) hg0 (by have:=Kd;omega) fun r4 H4 p4 s4' => ?_
 simp only[kJ,gG,ld3 s2' (cR p4 q2),VX,Nat.reduceEqDiff,Nat.reduceAdd]
 refine E1 s0 hp0 hi0 Kd (s2'.pre (p3.trans p4)) s4' ?_
 simp only[kJ,gG,ld3 s2' (cR p4 q2),VX,Nat.reduceEqDiff,Nat.reduceAdd]
 refine YP (by have:=hp0;omega) hg0 (by have:=Kd;omega) fun r5 H5 p5 s5' => ?_
 simp only[kJ,gG,VX,Nat.reduceEqDiff,Nat.reduceAdd]
 refine SO ci rfl pa (fz2 (s5'.pre (aN6 _)).fz (aH rfl)) rfl ?_
 simp only[kJ,gG,JP,Wc,VX,Nat.reduceEqDiff,Nat.reduceAdd]
 exact aH rfl
end Go.PM
namespace Go.PM
open Go.Proofs
theorem Hr {P:Program} {w:World} {name:String} {d:DataW Unit}:∀ {l:List (String×DataW Unit)} {ps:List MemPlace},DataW.LaidVars P w l ps→(name,d)∈l →
  ∃g t cs fuel p,P.globalNamed name=some g∧(P.globals[g]?).map (·.type)=some t∧w.var? P name=some cs∧DataW.trod (fun _=>()) P w 0 (fun _=>true) false fuel t cs.toList=some (d,p)
 | [],_,_,hm=>by cases hm
 |
  (n,e)::r,ps,h,hm=>by
  obtain⟨g,t,cs,fuel,p,q,h1,h2,h3,h4,h5,_⟩:=h
  rcases List.mem_cons.1 hm with he | hm
  ·cases he
   exact⟨g,t,cs,fuel,p,h1,h2,h3,h4⟩
  ·exact Hr h5 hm
theorem PO {W:World} {l:List (String×DataW Unit)} (hl:laidMetH Tryz.prog l W) (hp:(l.all fun x=>x.2.handleName?.isNone)=true) (hm:("internal/strconv.uint64pow10",Lib.tabData .u64 Lib.pow10Tab)∈l)
  {t e:TypeId} {n:Nat} (hty:(Tryz.prog.globals[3]?).map (·.type)=some t) (ht:Tryz.prog.underlying t=some (.array n e)) (he:Tryz.prog.underlying e=some (.int .u64)) (hce:Tryz.prog.cellsOf e=1) (hct:Tryz.prog.cellsOf t=n):SH W:=by
 rw[MakeChecks.laidMetH_plain _ _ _ hp] at hl
 obtain⟨ps,h1,_⟩:=hl
 obtain⟨g',t',cs,fuel,p,hg',ht',akT,hd⟩:=Hr h1 hm
 have hg:Tryz.prog.globalNamed "internal/strconv.uint64pow10"=some 3:=by kernel_rfl
 obtain rfl:=Option.some.inj (hg.symm.trans hg')
 obtain rfl:=Option.some.inj (hty.symm.trans ht')
 have MD:=Lib.cells_of_tab ht he hce hct hd
 intro x hx
 have I1:x=(3,(Lib.pow10Tab.map fun z=>Value.int .u64 z).toArray):=by simpa[atK] using hx
 subst I1
 unfold World.var? at akT
 rw[hg,Option.bind_some] at akT
 split at akT
 ·rename_i Cv e' fz' hh
  cases akT
  refine⟨e',fz',?_⟩
  rw[←MD]
  simpa using hh
 ·cases akT
end Go.PM