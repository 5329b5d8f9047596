/- Texts of a claim, in one: part 15. -/
import Derived.KernelRfl
import Derived.Lib.LaidTab
import Derived.LaidLaws
import Derived.LaidMore
import Derived.MakeChecks
import Derived.Handed
import Derived.Test.YtjmflicajplclaaGreatDoorKCn
open And renaming intro → aMd
open Bool renaming not_false → aOb,not_true → aOc
open List renaming append_assoc → aMj,cons_append → aLX,getD_eq_getElem?_getD → aKu,getElem?_append_right → aKP,getElem?_eq_getElem → aKE,length_append → aKI,length_cons → aKH,length_map → aMe,length_nil → aMa,mem_of_getElem? → aLr,nil_append → aLP,prefix_append → aMr,prefix_refl → aOh,replicate → aLn,set_cons_zero → aMb
open Nat renaming add_sub_cancel_left → aMo,le_of_ble_eq_true → aMl,le_refl → aKx,le_trans → aKy,mul_le_mul_left → aMw,mul_le_mul_right → aKY,not_lt_zero → aLO,sub_self → aKQ,zero_add → aL5,zero_le → aK1,zero_lt_one → aNP
set_option linter.unusedSimpArgs false
set_option linter.unusedVariables false
namespace Go.PM
open Go.Lib
theorem QR {k:Nat} {K:aA} {x:VV} {q:Rat} (hK:K[k]? = some (.row 0 [x] 3 true)):bL 0 3 (.ptr k 0 0 0) (aF q) K=some (K.set k (.row 0 [aF q] 3 true)):=by
 have hr:aG K k 0=some ([x],3,true):=by rw[cB];exact hK
 rw[bS (e:=3) hr (by exact aNP) (by omega) (dD q) (fM q)]
 rfl
section
variable {x:EY} (hx:mA x)
include hx
theorem mA.ups {K:Nat} (hK:K=43) {r:Rat} (h0:0≤r) (hr:aK r≤665) {b X:Nat→Rat} (hs:eU x.1.length (Qx x r) b X):XI x.1.length 0 (K*665+9) (Qx x r) b X :=
 ⟨hx.arE h0,⟨fun _ _ _ h _=>absurd h (aLO _),fun _ h=>absurd h (aLO _)⟩,hs,hx.scaled hK hr⟩
theorem mA.dgs {K:Nat} (hK:K=43) {r:Rat} (h0:0≤r) (hr:aK r≤665) {b X:Nat→Rat} (hs:eU x.1.length (Qx x r) b X):DgS x.1.length 0 (K*665+9) (Qx x r) b X :=
 ⟨hx.arE h0,⟨fun _ _ _ h _=>absurd h (aLO _),fun _ h=>absurd h (aLO _)⟩,hs,hx.scaled hK hr⟩
theorem mA.small {K:Nat} (hK:K=43):2^x.1.length*(K*665+9+1)≤68719476736:=by
 have hn:=hx.n
 have e1:2^x.1.length≤2^6:=Nat.pow_le_pow_right (by decide) hn.2
 have e2:2^x.1.length*(K*665+9+1)≤2^6*(K*665+9+1):=aKY _ e1
 have e3:(2:Nat)^6=64:=by decide
 omega
set_option maxHeartbeats 4000000 in
set_option maxRecDepth 20000 in
theorem Gp {lo B:Nat} {H:aA} {v:VV} {X:Nat→Rat} (hv:Rd aF 3 (vec x.1.length X) H v) (hX:∀i,i<x.1.length→aK (X i)≤B) (hB:B≤10000000000) (dR:lo≤H.length) :
  jE 121 [Ff x,v] lo H (RX (fun _ _ _ r=>r=aF (qW x.1 X x.1.length)) H):=by
 refine jE.walk ⟨true,false⟩ D9 (aMl rfl) ?_
 have hn:=hx.n
 have jW:(aB (Ff x)).all bO=true:=rfl
 have l0:∀K,bF false 1 (.cI (Ff x) 0) K=some (aC aF x.1):=fun K=>rfl
 have e1:TC 64 [VI 0] (aF 0):=kU 0 (by decide) (by decide)
 have s0:bL lo 3 (.ptr (H.length+1) 0 0 0) (aF 0) (H++[cell0,cell0])=some (H++[cell0,.row 0 [aF 0] 3 true]):=by
  have hr:aG (H++[cell0,cell0]) (H.length+1) 0=some ([VV.agg [VB false,.tree [] .nil,.tree [] .nil]],3,true):=by
   rw[cB,aKP (by omega),aMo]
   rfl
  rw[bS (e:=3) hr (by exact aNP) (by omega) (dD _) (fM _),List.set_append_right _ _ (by omega),aMo]
  rfl
 have r4:aG (H++[cell0,.row 0 [aF 0] 3 true]) H.length 0=some ([VV.agg [VB false,.tree [] .nil,.tree [] .nil]],3,true):=by
  rw[cB,aKP (by omega),aKQ]
  rfl
 have r5:aG (H++[cell0,.row 0 [aF 0] 3 true]) (H.length+1) 0=some ([aF 0],3,true):=by
  rw[cB,aKP (by omega),aMo]
  rfl
 simp only[zV,vS,jW,if_true,l0,e1,s0,aMe,aMj,aLX,aLP,aKI,aKH,aMa,aL5,dS,VX,Nat.reduceEqDiff,Nat.reduceAdd,Nat.reduceLeDiff,Nat.reduceLT,Nat.reduceSub]
 refine aP (fun(i:Nat) ρ H1=>i≤x.1.length∧H <+: H1∧aG H1 H.length 0=some ([VV.agg [VB false,.tree [] .nil,.tree [] .nil]],3,true)∧aG H1 (H.length+1) 0=some ([aF (qW x.1 X i)],3,true)∧ρ 1=v∧ρ 4 = .ptr H.length 0 0 0∧ρ 5 = .ptr (H.length+1) 0 0 0∧ρ 10=aC aF x.1∧ρ 11=VI x.1.length∧ρ 12=VI i) (fun i=>x.1.length-i) 0
  ⟨aK1 _,aMr _ _,r4,r5,by (repeat' apply aMd)<;>first | rfl | trivial | assumption⟩ ?_
 clear r4 r5 s0
 rintro i ρ H1 ⟨hi,hp,r4,r5,g1,g4,g5,g10,g11,g12⟩
 have CQ:=iR r5
 have Bo:∀m,m≤x.1.length→aK (qW x.1 X m)≤6*(B+667)+1:=fun m hm=>by
  have h1:=Ww (f:=fun i=>x.1.getD i 0*X i) (B:=665+B) (n:=x.1.length) (fun i hi=>by
   have h2:=fW (x.1.getD i 0) (X i)
   have h3:=hX i hi
   have h4:aK (x.1.getD i 0)≤665:=Bd (P:=fun q=>aK q≤665) hx.wb rz0 i
   omega) m hm
  have h2:m*(665+B+1)≤6*(665+B+1):=aKY _ (by omega)
  unfold qW
  omega
 by_cases bW:(i:Int)<(x.1.length:Int)
 ·obtain⟨q,hq⟩:∃q,x.1[i]? = some q:=⟨_,aKE (by omega)⟩
  have hqm:=hx.wb q (aLr hq)
  have hqd:x.1.getD i 0=q:=by rw[aKu,hq];rfl
  have a1:=fun H=>aH (f:=aF) (t := .op) (H:=H) (size:=3) (k := .i64) hq rfl
  have s1:=Jn (lo:=lo) (H:=H1) (q:=q) (by omega)
  have s2:bF true 3 (.ptr H1.length 0 0 0) (H1++[.row 0 [aF q] 3 true])=some (aF q):=aaX (K:=[])
  obtain⟨p,a2,a3⟩:=hv.get _ (Gh (L:=[.row 0 [aF q] 3 true]) hp) i (X i) (vV (by omega))
  have a3':=(a3 true).trans (bI _)
  have r5':=eT (L:=[.row 0 [aF q] 3 true]) r5
  have l5:bF true 3 (.ptr (H.length+1) 0 0 0) (H1++[.row 0 [aF q] 3 true])=some (aF (qW x.1 X i)):=by rw[bK,r5'];exact bI _
  have wi:IntKind.i64.wrap ((i:Int)+1)=((i+1:Nat):Int):=wN _ (by omega) (by omega)
  have hXi:=hX i (by omega)
  have em:=jO q (X i) (by omega) (by omega)
  have bm:=fW q (X i)
  have bo:=Bo i (by omega)
  have ea:=oD (qW x.1 X i) (q*X i) (by omega) (by omega)
  have vZ:qW x.1 X i+q*X i=qW x.1 X (i+1):=by unfold qW;rw[Sg,hqd]
  rw[vZ] at ea
  have s5:=bS (lo:=lo) (v:=aF (qW x.1 X (i+1))) (j:=0) r5' (by exact aNP) (by omega) (dD _) (fM _)
  rw[aMb] at s5
  simp only[nY,g1,g4,g5,g10,g11,g12,bW,a1,s1,s2,a2,a3',l5,em,ea,s5,wi,bI,dS,VX,Nat.reduceEqDiff,Nat.reduceAdd,Nat.reduceLeDiff,Nat.reduceLT,Nat.reduceSub]
  exact⟨i+1,by omega,by omega,lX (Gh hp) (by omega),aX (by omega) (eT r4),bQ r5',by (repeat' apply aMd)<;>first | rfl | trivial | assumption⟩
 ·have mI:i=x.1.length:=by omega
  subst mI
  have l5:bF true 3 (.ptr (H.length+1) 0 0 0) H1=some (aF (qW x.1 X x.1.length)):=by rw[bK,r5];exact bI _
  have s4:=bS (lo:=lo) (v:=aF (qW x.1 X x.1.length)) (j:=0) r4 (by exact aNP) dR (dD _) (fM _)
  rw[aMb] at s4
  have l4:bF true 3 (.ptr H.length 0 0 0) (H1.set H.length (.row 0 [aF (qW x.1 X x.1.length)] 3 true))=some (aF (qW x.1 X x.1.length)):=by rw[bK,bQ r4];exact bI _
  simp only[nY,g1,g4,g5,g10,g11,g12,bW,l5,s4,l4,dS,VX,Nat.reduceEqDiff,Nat.reduceAdd,Nat.reduceLeDiff,Nat.reduceLT,Nat.reduceSub]
  exact⟨lX hp (aKx _),rfl⟩
set_option maxHeartbeats 8000000 in
set_option maxRecDepth 20000 in
theorem xK (k:Nat) (hk:k≤6):TC 124 [Ff x,VI k] (aF (qX x k)):=by
 refine TC.walk ⟨true,false⟩ Dc rfl (aMl rfl) (Lr (La _ _ _) rfl) (pO _) ?_
 have hn:=hx.n
 obtain⟨γ,ZH⟩:∃γ,γ=132000000:=⟨132000000,rfl⟩
 obtain⟨K,hK⟩:∃K,K=43:=⟨43,rfl⟩
 have jW:(aB (Ff x)).all bO=true:=rfl
 have l0:∀K,bF false 1 (.cI (Ff x) 0) K=some (aC aF x.1):=fun K=>rfl
 have ls:∀K,bF true 3 (.cI (Ff x) 0) K=some (Ff x):=fun K=>rfl
 have e1:TC 64 [VI 1] (aF 1):=kU 1 (by decide) (by decide)
 have e0:TC 64 [VI 0] (aF 0):=kU 0 (by decide) (by decide)
 have eL:∀H,mR false [.bool false,.slice none 0 0,.slice none 0 0] 1 [(0,aF 1)] H=some (.tree [aF 1] (.cl 3),H):=fun H=>iX rfl rfl rfl
 simp only[xE,vA,jW,if_true,l0,e1,eL,aMe,aLP,dS,VX,Nat.reduceEqDiff,Nat.reduceAdd,Nat.reduceLeDiff,Nat.reduceLT,Nat.reduceSub]
 refine fV rfl ((Ao 1 x.1.length (by omega) (aKx _)).mono ?_)
 rintro _ _ ⟨rfl,rfl⟩
 have s2:bL 0 3 (.ptr 2 0 0 0) (aF 1) [cell0,.row 0 ((aLn x.1.length (1:Rat)).map aF) 3 true,cell0]=some [cell0,.row 0 ((aLn x.1.length (1:Rat)).map aF) 3 true,.row 0 [aF 1] 3 true]:=QR (k:=2) rfl
 simp only[e1,s2,aLX,aLP,aKH,aMa,aL5,dS,VX,Nat.reduceEqDiff,Nat.reduceAdd,Nat.reduceLeDiff,Nat.reduceLT,Nat.reduceSub]
 have aF7:VV := .agg [VB false,.tree [] .nil,.tree [] .nil]
 have r1:Rw aF 1 0 x.1.length (sL x 0) [cell0,.row 0 ((aLn x.1.length (1:Rat)).map aF) 3 true,.row 0 [aF 1] 3 true]:=by
  unfold Rw
  rw[Kr]
  rfl
 refine aP (fun(j:Nat) ρ H1=>j≤k∧Rw aF 1 0 x.1.length (sL x j) H1∧aG H1 0 0=some ([VV.agg [VB false,.tree [] .nil,.tree [] .nil]],3,true)∧aG H1 2 0=some ([aF (jY j)],3,true)∧ρ 2 = .cI (Ff x) 0∧ρ 4 = .ptr 0 0 0 0∧ρ 5 = .ref 1 0 0 x.1.length x.1.length∧ρ 6 = .ptr 2 0 0 0∧ρ 15=VI k∧ρ 16=VI j) (fun j=>k-j) 0
  ⟨aK1 _,r1,rfl,rfl,by (repeat' apply aMd)<;>first | rfl | trivial | assumption⟩ ?_
 clear r1 s2
 rintro j ρ H1 ⟨hj,hR,r0,r2,g2,g4,g5,g6,g15,g16⟩
 have IQ:=iR r2
 by_cases Eu:(j:Int)<(k:Int)
 ·have wj:IntKind.i64.wrap ((j:Int)+1)=((j+1:Nat):Int):=wN _ (by omega) (by omega)
  simp only[nG,g2,g4,g5,g6,g15,g16,Eu,ls,e0,dS,VX,Nat.reduceEqDiff,Nat.reduceAdd,Nat.reduceLeDiff,Nat.reduceLT,Nat.reduceSub]
  refine Cg rfl (Fa hx 0 rz0 (aKx _)) fun r H2 hl tT hTI => ?_
  obtain⟨b,g,c,rfl,hc,hT⟩:=hTI.tb
  simp only[g5,dS,VX,Nat.reduceEqDiff,Nat.reduceAdd,Nat.reduceLeDiff,Nat.reduceLT,Nat.reduceSub]
  have hS:Sy aF H1.length H2.length x.1.length b g 1 0 (Qx x 0) (sL x j) H2:=⟨hT,tT _ _ _ hR,.inl (by omega)⟩
  have awG:=hx.H8 j
  have hη:2+γ*(j+1)≤274877906944:=by
   have:γ*(j+1)≤γ*6:=aMw _ (by omega)
   omega
  refine fV rfl ((TM (lo:=0) (c:=c) (rc:=x.1.length) hS (hx.ups hK Rat.le_refl rz0 awG) (mA.mom ZH hx (j+1)) (by omega) (hx.small hK) hη (aK1 _) (aK1 _) (aK1 _) (aKx _) (by omega)).mono ?_)
  rintro _ H3 ⟨rfl,hO,hR3⟩
  have r2':=hO.2 _ _ _ (.inl (by omega)) (by decide) (tT _ _ _ r2)
  have r0':=hO.2 _ _ _ (.inl (by omega)) (by decide) (tT _ _ _ r0)
  have l6:bF true 3 (.ptr 2 0 0 0) H3=some (aF (jY j)):=by rw[bK,r2'];exact bI _
  have ew:=kU ((j+1:Nat):Int) (by omega) (by omega)
  have bw:=Db ((j+1:Nat):Int)
  have bl1:bl (j+1)≤5:=xL (by omega)
  rw[Int.natAbs_natCast] at bw
  have bf:=Bg j (by omega)
  have em:=jO (jY j) (((j+1:Nat):Int):Rat) (by omega) (by omega)
  have s6:=bS (lo:=0) (v:=aF (jY (j+1))) (j:=0) r2' (by exact aNP) (aK1 _) (dD _) (fM _)
  rw[aMb] at s6
  have em':TC 132 [aF (jY j),aF (((j+1:Nat):Int):Rat)] (aF (jY (j+1))):=em
  simp only[g6,g16,l6,wj,ew,em',s6,dS,VX,Nat.reduceEqDiff,Nat.reduceAdd,Nat.reduceLeDiff,Nat.reduceLT,Nat.reduceSub]
  exact⟨j+1,by omega,by omega,aX (by decide) hR3,aX (by decide) r0',bQ r2',by (repeat' apply aMd)<;>first | rfl | trivial | assumption⟩
 ·have S7:j=k:=by omega
  subst S7
  simp only[nG,g2,g4,g5,g6,g15,g16,Eu,ls,dS,VX,Nat.reduceEqDiff,Nat.reduceAdd,Nat.reduceLeDiff,Nat.reduceLT,Nat.reduceSub]
  have hη:2+γ*j≤10000000000:=by
   have:γ*j≤γ*6:=aMw _ (by omega)
   omega
  refine rZ rfl (Gp hx (X:=sL x j) (B:=2+γ*j) (Rd.row (c:=x.1.length) hR (by rw[jM])) (fun i hi=>(mA.mom ZH hx j).bits hi) hη (aKx _)) fun y L hy => ?_
  subst hy
  have r2':=eT (L:=L) r2
  have r0':=eT (L:=L) r0
  have l6:bF true 3 (.ptr 2 0 0 0) (H1++L)=some (aF (jY j)):=by rw[bK,r2'];exact bI _
  have bf:=Bg j (by omega)
  have bb:=hx.begun (mA.mom ZH hx j) x.1.length (aKx _)
  have em:=jO (qW x.1 (sL x j) x.1.length) (jY j) (by omega) (by omega)
  have em':TC 132 [aF (qW x.1 (sL x j) x.1.length),aF (jY j)] (aF (qX x j)):=em
  have s4:=bS (lo:=0) (v:=aF (qX x j)) (j:=0) r0' (by exact aNP) (aK1 _) (dD _) (fM _)
  rw[aMb] at s4
  have l4:bF true 3 (.ptr 0 0 0 0) ((H1++L).set 0 (.row 0 [aF (qX x j)] 3 true))=some (aF (qX x j)):=by rw[bK,bQ r0'];exact bI _
  simp only[g4,g6,l6,em',s4,l4,dS,VX,Nat.reduceEqDiff,Nat.reduceAdd,Nat.reduceLeDiff,Nat.reduceLT,Nat.reduceSub]
  exact aL (fZ _)
end
end Go.PM
namespace Go.PM
open Go.Lib
abbrev D3 (x:EY):VV:=Cv aM x.1 x.2.1 x.2.2
theorem aaL {x:EY} (hx:mA x) {r:Rat} {bb:Nat→Rat} {i:Nat}:∀j,Hv (Qx x r) bb x.1.length i j=if j<x.1.length then zK (fun j => -gE x.2.1 i j) i (Sg (gE x.2.1 i) x.1.length+eE x.2.2 i+r) j else bb i:=fun j=>by
 unfold Hv
 by_cases hj:j<x.1.length
 ·rw[if_pos hj,if_pos hj]
  unfold Qx svA zK
  by_cases h:j=i
  ·subst h
   rw[if_pos rfl,if_pos rfl,hx.gd j]
   grind
  ·rw[if_neg h,if_neg h]
   grind
 ·rw[if_neg hj,if_neg hj]
section
variable {x:EY} (hx:mA x)
include hx
set_option maxHeartbeats 16000000 in
set_option maxRecDepth 30000 in
theorem MW {lo sb η K:Nat} {H:aA} {w:Bool} {v:VV} {r:Rat} {bb X:Nat→Rat} (hK:K=43) (h0:0≤r) (hr:aK r≤665) (hs:aG H sb 0=some ([D3 x],3,w)) (hv:Rd aM 3 (vec x.1.length bb) H v) (hX:eU x.1.length (Qx x r) bb X) (hXs:dG η x.1.length X) (hη:η≤274877906944) (dR:lo≤H.length) :
  jE 114 [.ptr sb 0 0 0,aM r,v] lo H (SB (JE aM 3 (vec x.1.length X)) H):=by
 refine jE.walk ⟨true,false⟩ Nl (aMl rfl) ?_
 have hn:=hx.n
 have ck:∀ {K},aG K sb 0=some ([D3 x],3,w)→MU (.ptr sb 0 0 0) K=some (.ptr sb 0 0 0):=fun h=>by rw[MU,h];rfl
 have f0:∀ {K},aG K sb 0=some ([D3 x],3,w)→yG 0 (.ptr sb 0 0 0) K=some (.ptr sb 0 0 0):=fun h=>by rw[FH h]
 have f1:∀ {K},aG K sb 0=some ([D3 x],3,w)→yG 1 (.ptr sb 0 0 0) K=some (.ptr sb 0 0 1):=fun h=>by rw[FH h]
 have f2:∀ {K},aG K sb 0=some ([D3 x],3,w)→yG 2 (.ptr sb 0 0 0) K=some (.ptr sb 0 0 2):=fun h=>by rw[FH h]
 have l0:∀ {K},aG K sb 0=some ([D3 x],3,w)→bF false 1 (.ptr sb 0 0 0) K=some (aC aM x.1):=fun h=>by rw[bK,h];rfl
 have l1:∀ {K},aG K sb 0=some ([D3 x],3,w)→bF false 1 (.ptr sb 0 0 1) K=some (aC (aC aM) x.2.1):=fun h=>by rw[bK,h];rfl
 have l2:∀ {K},aG K sb 0=some ([D3 x],3,w)→bF false 1 (.ptr sb 0 0 2) K=some (aC aM x.2.2):=fun h=>by rw[bK,h];rfl
 have lr:∀K,bF true 3 (.cI (aM r) 0) K=some (aM r):=fun K=>cH r
 have e0:∀K,mR false [.slice none 0 0] 0 [] K=some (.ref K.length 0 0 0 0,K++[.row 0 [] 1 true]):=fun K=>mT rfl
 have e3:∀K,mR false [.bool false,.slice none 0 0,.slice none 0 0] 0 [] K=some (.ref K.length 0 0 0 0,K++[.row 0 [] 3 true]):=fun K=>mT rfl
 simp only[Ho,EX,pL,if_true,ck hs,f0 hs,l0 hs,e0,aMe,dS,VX,Nat.reduceEqDiff,Nat.reduceAdd,Nat.reduceLeDiff,Nat.reduceLT,Nat.reduceSub]
 have wn:∀k:Nat,k≤x.1.length→IntKind.i64.wrap ((k:Int)+1)=((k+1:Nat):Int):=fun k hk=>wN _ (by omega) (by omega)
 refine aP (fun(i:Nat) ρ H1=>i≤x.1.length∧H <+: H1∧(∃rs,rs.length=i∧rs.map (·.xs)=(Ql x.1.length (x.1.length+1) (Hv (Qx x r) bb x.1.length)).take i∧MG aM 3 H.length H1.length H.length i H1 rs)∧ρ 0 = .ptr sb 0 0 0∧ρ 2=v∧ρ 4 = .cI (aM r) 0∧ρ 7=VI x.1.length∧ρ 8 = .ref H.length i 0 i i∧ρ 9=VI i) (fun i=>x.1.length-i) 0
  ⟨aK1 _,aMr _ _,⟨[],rfl,rfl,lF,aKx _,by simp,by simp,by simp⟩,by (repeat' apply aMd)<;>first | rfl | trivial | assumption⟩ ?_
 rintro i ρ H1 ⟨hi,hp,⟨rs,BY,hrs,hM⟩,g0,g2,g4,g7,g8,g9⟩
 have F2:=cJ hp hs
 by_cases bW:(i:Int)<(x.1.length:Int)
 ·have uU:i<x.1.length:=by omega
  obtain⟨row,lL,W7⟩:=Xy (g:=x.2.1) (i:=i) (by rw[hx.g];exact uU)
  have Mh:=hx.gr row (aLr lL)
  have a1:=fun H=>aH (f:=aC aM) (t := .op) (H:=H) (size:=1) (k := .i64) lL rfl
  have atF:∀K,bF false 1 (.cI (aC aM row) 0) K=some (aC aM row):=fun K=>rfl
  simp only[yH,g0,g2,g4,g7,g8,g9,bW,e3,dS,VX,Nat.reduceEqDiff,Nat.reduceAdd,Nat.reduceLeDiff,Nat.reduceLT,Nat.reduceSub]
  refine aP (fun(j:Nat) ρ H2=>j≤x.1.length∧H1 <+: H2∧aG H2 H1.length j=some ((vec j fun j => -gE x.2.1 i j).map aM,3,true)∧ρ 0 = .ptr sb 0 0 0∧ρ 2=v∧ρ 4 = .cI (aM r) 0∧ρ 7=VI x.1.length∧ρ 8 = .ref H.length i 0 i i∧ρ 9=VI i∧ρ 10 = .ref H1.length j 0 j j∧ρ 11=VI j) (fun j=>x.1.length-j) 0
   ⟨aK1 _,aMr _ _,lF,by (repeat' apply aMd)<;>first | rfl | trivial | assumption⟩ ?_
  clear g0 g2 g4 g7 g8 g9
  rintro j ρ H2 ⟨hj,hp2,hR,g0,g2,g4,g7,g8,g9,g10,g11⟩
  have Z3:=cJ hp2 F2
  have CQ:H.length≤H1.length:=hp.length_le
  by_cases Eu:(j:Int)<(x.1.length:Int)
  ·have Hh:j<x.1.length:=by omega
   obtain⟨q,hq⟩:∃q,row[j]? = some q:=⟨_,aKE (by rw[Mh.1];exact Hh)⟩
   have hGq:gE x.2.1 i j=q:=by rw[W7,aKu,hq];rfl
   have a2:=fun H=>aH (f:=aM) (t := .op) (H:=H) (size:=3) (k := .i64) hq rfl
   have eo:=Bi q
   have eL:∀H,mR false [.bool false,.slice none 0 0,.slice none 0 0] 1 [(0,aM (-q))] H=some (.tree [aM (-q)] (.cl 3),H):=fun H=>iX rfl rfl rfl
   have eS:∀H,cW 3 (.tree [aM (-q)] (.cl 3)) H=some [aM (-q)]:=fun H=>eV rfl rfl
   have eP:=F3 (lo:=lo) (bytes:=56) (x := -q) hR (by rw[jM]) (by omega) (by decide) (by decide) (by omega)
   simp only[xX,g0,g7,g9,g10,g11,Eu,ck Z3,f1 Z3,l1 Z3,a1,a2,atF,cH,eo,eL,eS,eP,wn j hj,dS,VX,Nat.reduceEqDiff,Nat.reduceAdd,Nat.reduceLeDiff,Nat.reduceLT,Nat.reduceSub]
   exact⟨j+1,by omega,by omega,lX hp2 (aKx _),by rw[Bn,hGq];exact bQ hR,by (repeat' apply aMd)<;>first | rfl | trivial | assumption⟩
  ·have S7:j=x.1.length:=by omega
   subst S7
   obtain⟨q,hq⟩:∃q,x.2.2[i]? = some q:=⟨_,aKE (by rw[hx.e];exact uU)⟩
   have hqm:=hx.er q (aLr hq)
   have he:eE x.2.2 i=q:=by unfold eE;rw[aKu,hq];rfl
   have YJ:Sg (gE x.2.1 i) x.1.length=dL row:=by
    rw[YX,Mh.1]
    exact gU fun j _=>W7 j
   have a3:=fun H=>aH (f:=aM) (t := .op) (H:=H) (size:=3) (k := .i64) hq rfl
   have hsb:=El (B:=665) (n:=6) (fun q hq=>(Mh.2 q hq).2) (by omega)
   have aH5:=vF (dL row) q
   have c1:=tN (dL row) q (by omega) (by omega)
   have c2:=tN (dL row+q) r (by omega) (by omega)
   have IQ:=iR hR
   simp only[xX,g0,g2,g4,g7,g8,g9,g10,g11,Eu,ck Z3,f1 Z3,l1 Z3,a1,atF,dS,VX,Nat.reduceEqDiff,Nat.reduceAdd,Nat.reduceLeDiff,Nat.reduceLT,Nat.reduceSub]
   refine rZ rfl (EH (v:=aC aM row) row (B:=665) (Rd.tree iY) (aKx _) (fun q hq=>(Mh.2 q hq).2) (by omega) (by decide) (by omega)) fun y L hy => ?_
   subst hy
   have hp3:=Gh (L:=L) hp2
   have hs3:=eT (L:=L) Z3
   have hR3:Rw aM H1.length x.1.length x.1.length (fun j => -gE x.2.1 i j) (H2++L):=eT hR
   have hM3:=hM.pre hp3
   have hl3:H2.length≤(H2++L).length:=by rw[aKI];omega
   generalize H2++L=H3 at *
   have r1:=hR3.addr (c:=x.1.length) uU
   obtain⟨H4,s1,hH4⟩:∃H4,bL lo 3 (.ptr H1.length x.1.length i 0) (aM (dL row+q+r)) H3=some H4∧H4=H3.set H1.length (.row x.1.length ((vec x.1.length (zK (fun j => -gE x.2.1 i j) i (dL row+q+r))).map aM) 3 true):=by
    have s:=dQ (lo:=lo) (f:=aM) (x:=dL row+q+r) (j:=i) hR3 (by rw[jM];exact uU) (by omega) rfl rfl
    rw[NG] at s
    exact⟨_,s,rfl⟩
   have hR4:aG H4 H1.length x.1.length=some ((vec x.1.length (zK (fun j => -gE x.2.1 i j) i (dL row+q+r))).map aM,3,true):=by rw[hH4];exact bQ hR3
   have hp4:H <+: H4:=by rw[hH4];exact lX (hp.trans hp3) CQ
   have hM4:MG aM 3 H.length H1.length H.length i H4 rs:=by rw[hH4];exact hM3.dC (jV.set (.inr (aKx _)))
   obtain⟨p,p1,p2⟩:=hv.get H4 hp4 i (bb i) (vV uU)
   have p2:=(p2 true).trans (cH _)
   have eL:∀H,mR false [.bool false,.slice none 0 0,.slice none 0 0] 1 [(0,aM (bb i))] H=some (.tree [aM (bb i)] (.cl 3),H):=fun H=>iX rfl rfl rfl
   have eS:∀H,cW 3 (.tree [aM (bb i)] (.cl 3)) H=some [aM (bb i)]:=fun H=>eV rfl rfl
   have eP:=F3 (lo:=lo) (bytes:=56) (x:=bb i) hR4 (by rw[jM]) (by omega) (by decide) (by decide) (by omega)
   have hR5:=bQ (g:=x.1.length+1) (es:=(vec x.1.length (zK (fun j => -gE x.2.1 i j) i (dL row+q+r))++[bb i]).map aM) (e:=3) (w:=true) hR4
   have hM5:=hM4.dC (H':=H4.set H1.length (.row (x.1.length+1) ((vec x.1.length (zK (fun j => -gE x.2.1 i j) i (dL row+q+r))++[bb i]).map aM) 3 true)) (jV.set (.inr (aKx _)))
   have hp5:=lX (x := .row (x.1.length+1) ((vec x.1.length (zK (fun j => -gE x.2.1 i j) i (dL row+q+r))++[bb i]).map aM) 3 true) hp4 CQ
   have hel:(vec x.1.length (zK (fun j => -gE x.2.1 i j) i (dL row+q+r))++[bb i]).length=x.1.length+1:=by rw[aKI,jM];rfl
   obtain⟨ap,hM6⟩:=hM5.snoc (gB:=lo) BY.symm dR (by omega) ⟨H1.length,x.1.length+1,x.1.length+1,vec x.1.length (zK (fun j => -gE x.2.1 i j) i (dL row+q+r))++[bb i]⟩ (aKx _) (by simp only[hel];exact aKx _) hR5
   simp only[hel] at ap
   have eL1:∀K,mR false [.slice none 0 0] 1 [(0,.ref H1.length (x.1.length+1) 0 (x.1.length+1) (x.1.length+1))] K=some (.tree [.ref H1.length (x.1.length+1) 0 (x.1.length+1) (x.1.length+1)] (.cl 1),K):=fun K=>iX rfl rfl rfl
   have eS1:∀K,cW 1 (.tree [.ref H1.length (x.1.length+1) 0 (x.1.length+1) (x.1.length+1)] (.cl 1)) K=some [.ref H1.length (x.1.length+1) 0 (x.1.length+1) (x.1.length+1)]:=fun K=>eV rfl rfl
   simp only[g0,g2,g4,g8,g9,g10,ck hs3,f2 hs3,l2 hs3,a3,cH,lr,c1,c2,r1,s1,p1,p2,eL,eS,eP,eL1,eS1,ap,wn i hi,dS,VX,Nat.reduceEqDiff,Nat.reduceAdd,Nat.reduceLeDiff,Nat.reduceLT,Nat.reduceSub]
   refine⟨i+1,by omega,by omega,lX hp5 (aKx _),⟨_,by rw[aKI,BY];rfl,?_,hM6.wide (aKx _) (by simp)⟩,by (repeat' apply aMd)<;>first | rfl | trivial | assumption⟩
   have yR:(Ql x.1.length (x.1.length+1) (Hv (Qx x r) bb x.1.length))[i]? = some (vec x.1.length (zK (fun j => -gE x.2.1 i j) i (dL row+q+r))++[bb i]):=by
    rw[Ny uU,Bn,aaL hx,if_neg (Nat.lt_irrefl _)]
    refine congrArg some (congrArg (· ++ [bb i]) (uZ fun j hj => ?_))
    rw[aaL hx,if_pos hj,YJ,he]
   rw[sQ yR,List.map_append,hrs]
   rfl
 ·have mI:i=x.1.length:=by omega
  subst mI
  rw[List.take_of_length_le (by rw[B0];exact aKx _)] at hrs
  simp only[yH,g7,g8,g9,bW,dS,VX,Nat.reduceEqDiff,Nat.reduceAdd,Nat.reduceLeDiff,Nat.reduceLT,Nat.reduceSub]
  refine fV rfl ((MY (lo:=lo) (gB:=H.length) (hi:=H1.length) (c:=x.1.length) ⟨rs,hM,hrs⟩ (hx.dgs hK h0 hr hX) hXs (by omega) (hx.small hK) hη dR (aKy dR hp.length_le) (aKx _)).mono ?_)
  rintro _ H' ⟨u,rfl,h1,h2,h3⟩
  simp only[dS,VX,Nat.reduceEqDiff,Nat.reduceAdd,Nat.reduceLeDiff,Nat.reduceLT,Nat.reduceSub]
  obtain⟨b,g,c,k1,k2,k3,k4,k5⟩:=h2
  exact⟨aKy hp.length_le h1,fun b g y hy=>h3 _ _ _ (.inl (iR hy)) (cJ hp hy),b,g,c,aKy hp.length_le k1,k2,k3,k4,k5⟩
end
end Go.PM
namespace Go.PM
open Go.Lib
theorem eU.times {n:Nat} {A:Nat→Nat→Rat} {b X:Nat→Rat} (h:eU n A b X) (q:Rat):eU n A (fun i=>q*b i) fun i=>q*X i:=fun i hi=>by
 show Sg (fun j=>A i j*(q*X j)) n=q*b i
 rw[←h i hi,←DS]
 exact gU fun j _=>by grind
section
variable {x:EY} (hx:mA x)
include hx
set_option maxHeartbeats 4000000 in
set_option maxRecDepth 20000 in
theorem Nd {lo sb B:Nat} {H:aA} {w:Bool} {v:VV} {X:Nat→Rat} (hs:aG H sb 0=some ([D3 x],3,w)) (hv:Rd aM 3 (vec x.1.length X) H v) (hX:∀i,i<x.1.length→aK (X i)≤B) (hB:B≤10000000000) (dR:lo≤H.length) :
  jE 113 [.ptr sb 0 0 0,v] lo H (RX (fun _ _ _ r=>r=aM (qW x.1 X x.1.length)) H):=by
 refine jE.walk ⟨true,false⟩ Nk (aMl rfl) ?_
 have hn:=hx.n
 have ck:∀ {K},aG K sb 0=some ([D3 x],3,w)→MU (.ptr sb 0 0 0) K=some (.ptr sb 0 0 0):=fun h=>by rw[MU,h];rfl
 have f0:∀ {K},aG K sb 0=some ([D3 x],3,w)→yG 0 (.ptr sb 0 0 0) K=some (.ptr sb 0 0 0):=fun h=>by rw[FH h]
 have l0:∀ {K},aG K sb 0=some ([D3 x],3,w)→bF false 1 (.ptr sb 0 0 0) K=some (aC aM x.1):=fun h=>by rw[bK,h];rfl
 have e1:=Bw
 have s0:bL lo 3 (.ptr (H.length+1) 0 0 0) (aM 0) (H++[cell0,cell0])=some (H++[cell0,.row 0 [aM 0] 3 true]):=amS dR rfl
 have r4:aG (H++[cell0,.row 0 [aM 0] 3 true]) H.length 0=some ([VV.agg [VB false,.tree [] .nil,.tree [] .nil]],3,true):=by
  rw[cB,aKP (by omega),aKQ]
  rfl
 have r5:aG (H++[cell0,.row 0 [aM 0] 3 true]) (H.length+1) 0=some ([aM 0],3,true):=by
  rw[cB,aKP (by omega),aMo]
  rfl
 simp only[HE,EV,e1,s0,aMj,aLX,aLP,aKI,aKH,aMa,aL5,dS,VX,Nat.reduceEqDiff,Nat.reduceAdd,Nat.reduceLeDiff,Nat.reduceLT,Nat.reduceSub]
 refine aP (fun(i:Nat) ρ H1=>i≤x.1.length∧H <+: H1∧aG H1 H.length 0=some ([VV.agg [VB false,.tree [] .nil,.tree [] .nil]],3,true)∧aG H1 (H.length+1) 0=some ([aM (qW x.1 X i)],3,true)∧ρ 0 = .ptr sb 0 0 0∧ρ 1=v∧ρ 4 = .ptr H.length 0 0 0∧ρ 5 = .ptr (H.length+1) 0 0 0∧ρ 6=VI i) (fun i=>x.1.length-i) 0
  ⟨aK1 _,aMr _ _,r4,r5,by (repeat' apply aMd)<;>first | rfl | trivial | assumption⟩ ?_
 clear r4 r5 s0
 rintro i ρ H1 ⟨hi,hp,r4,r5,g0,g1,g4,g5,g6⟩
 have CQ:=iR r5
 have F2:=cJ hp hs
 have el:=hv.len H1 hp
 rw[jM] at el
 have l5:bF true 3 (.ptr (H.length+1) 0 0 0) H1=some (aM (qW x.1 X i)):=by rw[bK,r5];exact cH _
 have Bo:∀m,m≤x.1.length→aK (qW x.1 X m)≤6*(B+667)+1:=fun m hm=>by
  have h1:=Ww (f:=fun i=>x.1.getD i 0*X i) (B:=665+B) (n:=x.1.length) (fun i hi=>by
   have h2:=fW (x.1.getD i 0) (X i)
   have h3:=hX i hi
   have h4:aK (x.1.getD i 0)≤665:=Bd (P:=fun q=>aK q≤665) hx.wb rz0 i
   omega) m hm
  have h2:m*(665+B+1)≤6*(665+B+1):=aKY _ (by omega)
  unfold qW
  omega
 by_cases bW:(i:Int)<(x.1.length:Int)
 ·obtain⟨q,hq⟩:∃q,x.1[i]? = some q:=⟨_,aKE (by omega)⟩
  have hqm:=hx.wb q (aLr hq)
  have hqd:x.1.getD i 0=q:=by rw[aKu,hq];rfl
  have a1:=fun H=>aH (f:=aM) (t := .op) (H:=H) (size:=3) (k := .i64) hq rfl
  obtain⟨p,a2,a3⟩:=hv.get _ hp i (X i) (vV (by omega))
  have a3':=(a3 true).trans (cH _)
  have wi:IntKind.i64.wrap ((i:Int)+1)=((i+1:Nat):Int):=wN _ (by omega) (by omega)
  have hXi:=hX i (by omega)
  have em:=uF q (X i) (by omega) (by omega)
  have bm:=fW q (X i)
  have bo:=Bo i (by omega)
  have ea:=tN (qW x.1 X i) (q*X i) (by omega) (by omega)
  have vZ:qW x.1 X i+q*X i=qW x.1 X (i+1):=by unfold qW;rw[Sg,hqd]
  rw[vZ] at ea
  have s5:=bS (lo:=lo) (v:=aM (qW x.1 X (i+1))) (j:=0) r5 (by exact aNP) (by omega) (iY _) (pL _)
  rw[aMb] at s5
  simp only[yP,g0,g1,g5,g6,el,bW,a1,a2,a3',l5,em,ea,s5,wi,cH,ck F2,f0 F2,l0 F2,dS,VX,Nat.reduceEqDiff,Nat.reduceAdd,Nat.reduceLeDiff,Nat.reduceLT,Nat.reduceSub]
  exact⟨i+1,by omega,by omega,lX hp (by omega),aX (by omega) r4,bQ r5,by (repeat' apply aMd)<;>first | rfl | trivial | assumption⟩
 ·have mI:i=x.1.length:=by omega
  subst mI
  have s4:=bS (lo:=lo) (v:=aM (qW x.1 X x.1.length)) (j:=0) r4 (by exact aNP) dR (iY _) (pL _)
  rw[aMb] at s4
  have l4:bF true 3 (.ptr H.length 0 0 0) (H1.set H.length (.row 0 [aM (qW x.1 X x.1.length)] 3 true))=some (aM (qW x.1 X x.1.length)):=by rw[bK,bQ r4];exact cH _
  simp only[yP,g1,g4,g5,g6,el,bW,l5,s4,l4,dS,VX,Nat.reduceEqDiff,Nat.reduceAdd,Nat.reduceLeDiff,Nat.reduceLT,Nat.reduceSub]
  exact⟨lX hp (aKx _),rfl⟩
set_option maxHeartbeats 8000000 in
set_option maxRecDepth 20000 in
theorem Dq {lo sb:Nat} {H:aA} {w:Bool} (k:Nat) (hk:k≤6) (hs:aG H sb 0=some ([D3 x],3,w)) (dR:lo≤H.length) :
  jE 122 [.ptr sb 0 0 0,VI k] lo H (SB (fun _ _ _ r=>r=aM (qX x k)) H):=by
 refine jE.walk ⟨true,false⟩ K6 (aMl rfl) ?_
 have hn:=hx.n
 obtain⟨γ,ZH⟩:∃γ,γ=132000000:=⟨132000000,rfl⟩
 obtain⟨K,hK⟩:∃K,K=43:=⟨43,rfl⟩
 have ck:∀ {K},aG K sb 0=some ([D3 x],3,w)→MU (.ptr sb 0 0 0) K=some (.ptr sb 0 0 0):=fun h=>by rw[MU,h];rfl
 have f0:∀ {K},aG K sb 0=some ([D3 x],3,w)→yG 0 (.ptr sb 0 0 0) K=some (.ptr sb 0 0 0):=fun h=>by rw[FH h]
 have l0:∀ {K},aG K sb 0=some ([D3 x],3,w)→bF false 1 (.ptr sb 0 0 0) K=some (aC aM x.1):=fun h=>by rw[bK,h];rfl
 have e3:∀K,mR false [.bool false,.slice none 0 0,.slice none 0 0] 0 [] K=some (.ref K.length 0 0 0 0,K++[.row 0 [] 3 true]):=fun K=>mT rfl
 have eo:=HJ
 have ez:=Bw
 have r4:aG (H++[cell0,.row 0 [] 3 true]) H.length 0=some ([VV.agg [VB false,.tree [] .nil,.tree [] .nil]],3,true):=by
  rw[cB,aKP (by omega),aKQ]
  rfl
 have r5:aG (H++[cell0,.row 0 [] 3 true]) (H.length+1) 0=some ([],3,true):=by
  rw[cB,aKP (by omega),aMo]
  rfl
 have wn:∀k:Nat,k≤10→IntKind.i64.wrap ((k:Int)+1)=((k+1:Nat):Int):=fun k hk=>wN _ (by omega) (by omega)
 simp only[FB,C4,e3,aMj,aLX,aLP,aKI,aKH,aMa,aL5,dS,VX,Nat.reduceEqDiff,Nat.reduceAdd,Nat.reduceLeDiff,Nat.reduceLT,Nat.reduceSub]
 refine aP (fun(i:Nat) ρ H1=>i≤x.1.length∧H <+: H1∧aG H1 H.length 0=some ([VV.agg [VB false,.tree [] .nil,.tree [] .nil]],3,true)∧aG H1 (H.length+1) i=some ((vec i fun _=>(1:Rat)).map aM,3,true)∧ρ 0 = .ptr sb 0 0 0∧ρ 1=VI k∧ρ 4 = .ptr H.length 0 0 0∧ρ 5 = .ref (H.length+1) i 0 i i∧ρ 6=VI i) (fun i=>x.1.length-i) 0
  ⟨aK1 _,aMr _ _,r4,r5,by (repeat' apply aMd)<;>first | rfl | trivial | assumption⟩ ?_
 clear r4 r5
 rintro i ρ H1 ⟨hi,hp,r4,r5,g0,g1,g4,g5,g6⟩
 have CQ:=iR r5
 have F2:=cJ hp hs
 by_cases bW:(i:Int)<(x.1.length:Int)
 ·have eL:∀H,mR false [.bool false,.slice none 0 0,.slice none 0 0] 1 [(0,aM 1)] H=some (.tree [aM 1] (.cl 3),H):=fun H=>iX rfl rfl rfl
  have eS:∀H,cW 3 (.tree [aM 1] (.cl 3)) H=some [aM 1]:=fun H=>eV rfl rfl
  have eP:=F3 (lo:=lo) (bytes:=56) (x:=1) r5 (by rw[jM]) (by omega) (by decide) (by decide) (by omega)
  simp only[wM,g0,g5,g6,bW,ck F2,f0 F2,l0 F2,aMe,eo,eL,eS,eP,wn i (by omega),dS,VX,Nat.reduceEqDiff,Nat.reduceAdd,Nat.reduceLeDiff,Nat.reduceLT,Nat.reduceSub]
  exact⟨i+1,by omega,by omega,lX hp (by omega),aX (by omega) r4,by rw[Bn];exact bQ r5,by (repeat' apply aMd)<;>first | rfl | trivial | assumption⟩
 have mI:i=x.1.length:=by omega
 subst mI
 have hv0:Rd aM 3 (vec x.1.length fun i=>jY 0*sL x 0 i) H1 (.ref (H.length+1) x.1.length 0 x.1.length x.1.length):=by
  rw[show (vec x.1.length fun i=>jY 0*sL x 0 i)=vec x.1.length fun _=>(1:Rat) from uZ fun i _=>Rat.one_mul 1]
  exact Rd.row r5 (by rw[jM])
 simp only[wM,g0,g1,g4,g5,g6,bW,ck F2,f0 F2,l0 F2,aMe,dS,VX,Nat.reduceEqDiff,Nat.reduceAdd,Nat.reduceLeDiff,Nat.reduceLT,Nat.reduceSub]
 refine aP (fun(j:Nat) ρ H2=>j≤k∧(H.length+1≤H2.length∧(∀b g y,aG H b g=some y→aG H2 b g=some y))∧aG H2 H.length 0=some ([VV.agg [VB false,.tree [] .nil,.tree [] .nil]],3,true)∧(∃v,ρ 5=v∧Rd aM 3 (vec x.1.length fun i=>jY j*sL x j i) H2 v)∧ρ 0 = .ptr sb 0 0 0∧ρ 1=VI k∧ρ 4 = .ptr H.length 0 0 0∧ρ 7=VI (j+1:Nat)) (fun j=>k-j) 0
  ⟨aK1 _,⟨by omega,fun _ _ _ h=>cJ hp h⟩,r4,⟨.ref (H.length+1) x.1.length 0 x.1.length x.1.length,by (repeat' apply aMd)<;>first | rfl | trivial | assumption,hv0⟩,by (repeat' apply aMd)<;>first | rfl | trivial | assumption⟩ ?_
 clear hv0 r4 r5 g0 g1 g4 g5 g6 CQ F2 bW hi hp
 rintro j ρ H2 ⟨hj,⟨hl,tT⟩,r4,⟨v,g5,hv⟩,g0,g1,g4,g7⟩
 have Z3:=tT _ _ _ hs
 have hXj:=mA.mom ZH hx j
 have bf:=Bg j (by omega)
 have aIP:γ*j≤γ*6:=aMw _ (by omega)
 by_cases TO:((j+1:Nat):Int)≤(k:Int)
 ·have aGj:γ*(j+1)≤γ*6:=aMw _ (by omega)
  simp only[vR,g0,g1,g4,g5,g7,TO,e3,dS,VX,Nat.reduceEqDiff,Nat.reduceAdd,Nat.reduceLeDiff,Nat.reduceLT,Nat.reduceSub]
  have Y1:H2 <+: H2++[.row 0 [] 3 true]:=aMr _ _
  refine aP (fun(i:Nat) ρ H3=>i≤x.1.length∧H2 <+: H3∧aG H3 H2.length i=some ((vec i fun i=>jY (j+1)*sL x j i).map aM,3,true)∧ρ 0 = .ptr sb 0 0 0∧ρ 1=VI k∧ρ 4 = .ptr H.length 0 0 0∧ρ 5=v∧ρ 7=VI (j+1:Nat)∧ρ 8 = .ref H2.length i 0 i i∧ρ 9=VI i) (fun i=>x.1.length-i) 0
   ⟨aK1 _,Y1,lF,by (repeat' apply aMd)<;>first | rfl | trivial | assumption⟩ ?_
  clear g0 g1 g4 g5 g7 Y1
  rintro i ρ H3 ⟨hi,hp,hR,g0,g1,g4,g5,g7,g8,g9⟩
  have el:=hv.len H3 hp
  rw[jM] at el
  by_cases bW:(i:Int)<(x.1.length:Int)
  ·obtain⟨p,a2,a3⟩:=hv.get _ hp i _ (vV (by omega))
   have a3':=(a3 true).trans (cH _)
   have ei:=yU ((j+1:Nat):Int) (by omega) (by omega)
   have bw:=Db ((j+1:Nat):Int)
   have bl1:bl (j+1)≤5:=xL (by omega)
   rw[Int.natAbs_natCast] at bw
   have bX:=hXj.bits (i:=i) (by omega)
   have bm:=fW (jY j) (sL x j i)
   have em:=uF (((j+1:Nat):Int):Rat) (jY j*sL x j i) (by omega) (by omega)
   have vZ:(((j+1:Nat):Int):Rat)*(jY j*sL x j i)=jY (j+1)*sL x j i:=by
    show _=jY j*(((j+1:Nat):Int):Rat)*sL x j i
    grind
   rw[vZ] at em
   have eL:∀H,mR false [.bool false,.slice none 0 0,.slice none 0 0] 1 [(0,aM (jY (j+1)*sL x j i))] H=some (.tree [aM (jY (j+1)*sL x j i)] (.cl 3),H):=fun H=>iX rfl rfl rfl
   have eS:∀H,cW 3 (.tree [aM (jY (j+1)*sL x j i)] (.cl 3)) H=some [aM (jY (j+1)*sL x j i)]:=fun H=>eV rfl rfl
   have eP:=F3 (lo:=lo) (bytes:=56) (x:=jY (j+1)*sL x j i) hR (by rw[jM]) (by omega) (by decide) (by decide) (by omega)
   simp only[vU,g5,g7,g8,g9,el,bW,ei,a2,a3',em,eL,eS,eP,wn i (by omega),dS,VX,Nat.reduceEqDiff,Nat.reduceAdd,Nat.reduceLeDiff,Nat.reduceLT,Nat.reduceSub]
   exact⟨i+1,by omega,by omega,lX hp (aKx _),by rw[Bn];exact bQ hR,by (repeat' apply aMd)<;>first | rfl | trivial | assumption⟩
  ·have mI:i=x.1.length:=by omega
   subst mI
   simp only[vU,g0,g5,g7,g8,g9,el,bW,ez,dS,VX,Nat.reduceEqDiff,Nat.reduceAdd,Nat.reduceLeDiff,Nat.reduceLT,Nat.reduceSub]
   have bf1:=Bg (j+1) (by omega)
   have awG:=(hx.H8 j).times (jY (j+1))
   refine Cg rfl (MW hx (lo:=lo) hK Rat.le_refl rz0 (cJ hp Z3) (Rd.row hR (by rw[jM])) awG ((mA.mom ZH hx (j+1)).times bf1) (by omega) (by have:=hp.length_le;omega)) fun r H4 hl4 hk4 hr4 => ?_
   simp only[g7,wn (j+1) (by omega),dS,VX,Nat.reduceEqDiff,Nat.reduceAdd,Nat.reduceLeDiff,Nat.reduceLT,Nat.reduceSub]
   exact⟨j+1,by omega,by omega,⟨by have:=hp.length_le;omega,fun b g y h=>hk4 _ _ _ (cJ hp (tT _ _ _ h))⟩,hk4 _ _ _ (cJ hp r4),⟨r,by (repeat' apply aMd)<;>first | rfl | trivial | assumption,hr4.rd⟩,by (repeat' apply aMd)<;>first | rfl | trivial | assumption⟩
 ·have S7:j=k:=by omega
  subst S7
  have hb:∀i,i<x.1.length→aK (jY j*sL x j i)≤2+γ*j+40:=fun i hi=>(hXj.times bf).bits hi
  simp only[vR,g0,g1,g4,g5,g7,TO,dS,VX,Nat.reduceEqDiff,Nat.reduceAdd,Nat.reduceLeDiff,Nat.reduceLT,Nat.reduceSub]
  refine rZ rfl (Nd hx Z3 hv hb (by omega) (by omega)) fun y L hy => ?_
  subst hy
  have hmul:qW x.1 (fun i=>jY j*sL x j i) x.1.length=qX x j:=by
   unfold qX qW
   rw[Rat.mul_comm,←DS]
   exact gU fun i _=>by grind
  rw[hmul]
  have s4:=bS (lo:=lo) (v:=aM (qX x j)) (j:=0) (eT (L:=L) r4) (by exact aNP) dR (iY _) (pL _)
  rw[aMb] at s4
  have l4:bF true 3 (.ptr H.length 0 0 0) ((H2++L).set H.length (.row 0 [aM (qX x j)] 3 true))=some (aM (qX x j)):=by rw[bK,bQ (eT r4)];exact cH _
  simp only[g4,s4,l4,dS,VX,Nat.reduceEqDiff,Nat.reduceAdd,Nat.reduceLeDiff,Nat.reduceLT,Nat.reduceSub]
  exact⟨by rw[List.length_set,aKI];omega,fun b g y h=>aX (by have:=iR h;omega) (eT (tT _ _ _ h)),rfl⟩
end
end Go.PM
namespace Go.PM
open Go.Lib
theorem J6 {c:List (List ByteArray)}:∀ {i:Nat} {m:List (List Rat)},iS c i=some m→∀(k:Nat) (r:List Rat),m[k]? = some r→r.getD k 0=0
 | 0,m,h,k,r,hk=>by cases h;cases hk
 |
  i+1,m,h,k,r,hk=>by
  rw[iS] at h
  split at h
  ·rename_i out q h1 h2
   cases h
   obtain⟨l1,_⟩:=tM h1
   by_cases hki:k<out.length
   ·rw[List.getElem?_append_left hki] at hk
    exact J6 h1 k r hk
   ·rw[aKP (by omega)] at hk
    have hz:k-out.length=0:=by
     have:=(List.getElem?_eq_some_iff.1 hk).1
     simp only[aKH,aMa] at this
     omega
    rw[hz] at hk
    cases hk
    have Tr:k=i:=by omega
    subst Tr
    exact(Jr h2).2.2.2
  ·cases h
theorem V7 {s:vH} {x:EY} (h:eW s=some x):∀i,gE x.2.1 i i=0:=fun i=>by
 unfold eW at h
 split at h
 ·split at h
  ·split at h
   ·cases hm:iS s.g s.b.length with
    | none=>rw[hm] at h;cases h
    |
     some m =>
     rw[hm] at h
     cases h
     unfold gE
     rw[aKu (l:=m)]
     cases hr:m[i]? with
     | none=>rfl
     | some r=>exact J6 hm i r hr
   ·cases h
  ·cases h
 ·cases h
theorem mA.of {s:vH} {x:EY} (h:eW s=some x) (he:Fm x=true):mA x:=by
 obtain⟨h1,h2,h3,h4,h5,h6,h7⟩:=Tv h
 exact⟨h1,h2,h3,h4,h5,h6,h7,V7 h,he⟩
def W4 (s:vH) (val:EY→Rat):VV:=match eW s with
 | some x=>if Fm x=true then Cm (val x) else .eG [bD [],VB false]
 | none => .eG [bD [],VB false]
theorem Te (s:vH) (val:EY→Rat):gZ (W4 s val)=true:=by
 unfold W4
 split
 ·split
  ·exact Gv _
  ·rfl
 ·rfl
theorem WT {s:vH} {val:EY→Rat} (h:eW s=none):W4 s val = .eG [bD [],VB false]:=by unfold W4;rw[h]
theorem aaC {s:vH} {x:EY} {val:EY→Rat} (h:eW s=some x) (he:Fm x=false):W4 s val = .eG [bD [],VB false]:=by
 unfold W4
 simp only[h,he,Bool.false_eq_true,if_false]
theorem anO {s:vH} {x:EY} {val:EY→Rat} (h:eW s=some x) (he:Fm x=true):W4 s val=Cm (val x):=by
 unfold W4
 simp only[h,he,if_true]
theorem Lx (s:vH) (hb:Tl s) (f:Nat) (gD:List VV) (aBF:aO gD=true) (val:EY→Rat) (hf:∀x,mA x→TC f (Ff x::gD) (aF (val x))) (hv:∀x,mA x→aK (val x)≤1099511627776):TC 116 [vM s,.xT f gD] (W4 s val):=by
 refine TC.walk ⟨true,false⟩ Ll rfl (aMl rfl) (Lr (rP _) aBF) (Te _ _) ?_
 have e1:=KV s hb
 have st:∀v,(aB v).length=3→(aB v).all bO=true→bL 0 3 (.ptr 0 0 0 0) v [.row 0 [.agg [.tree [] .nil,.tree [] .nil,.tree [] .nil]] 3 true]=some [.row 0 [v] 3 true]:=fun v h1 h2=>by
  rw[bS (e:=3) aT (by exact aNP) (aKx _) h1 h2]
  rfl
 unfold Qw at e1
 cases h:eW s with
 |
  none =>
  rw[WT h]
  rw[h] at e1
  simp only[rN,nX,oR,kW,e1,st Y2 rfl rfl,if_true,aMa,aLP,aOb,dS,VX,Nat.reduceEqDiff,Nat.reduceAdd,Nat.reduceLeDiff,Nat.reduceLT,Nat.reduceSub]
  exact aL rfl
 |
  some x =>
  rw[h] at e1
  have ld:bF true 3 (.ptr 0 0 0 0) [.row 0 [Ff x] 3 true]=some (Ff x):=rfl
  cases he:Fm x with
  |
   false =>
   rw[aaC h he]
   simp only[he] at e1
   simp only[rN,nX,oR,kW,e1,st (Ff x) rfl rfl,if_true,aMa,aLP,aOb,dS,VX,Nat.reduceEqDiff,Nat.reduceAdd,Nat.reduceLeDiff,Nat.reduceLT,Nat.reduceSub]
   exact aL rfl
  |
   true =>
   have hx:=mA.of h he
   rw[anO h he]
   simp only[he] at e1
   have e2:=hf x hx
   have e3:=U2 (val x) (hv x hx)
   unfold Cm at e3 ⊢
   by_cases xB:Dj (val x)=true
   ·rw[if_pos xB] at e3
    rw[if_pos xB]
    simp only[rN,nX,oR,kW,e1,e2,e3,st (Ff x) rfl rfl,ld,if_true,aMa,aLP,aLX,aOc,dS,VX,Nat.reduceEqDiff,Nat.reduceAdd,Nat.reduceLeDiff,Nat.reduceLT,Nat.reduceSub]
    exact aL rfl
   ·rw[if_neg xB] at e3
    rw[if_neg xB]
    simp only[rN,nX,oR,kW,e1,e2,e3,st (Ff x) rfl rfl,ld,if_true,aMa,aLP,aLX,aOc,dS,VX,Nat.reduceEqDiff,Nat.reduceAdd,Nat.reduceLeDiff,Nat.reduceLT,Nat.reduceSub]
    exact aL rfl
theorem ayC {x:EY} {K:aA}:bF true 3 (.cI (Ff x) 0) K=some (Ff x):=rfl
theorem azI {x:EY}:dO true 3 (Ff x) 0=some (Ff x):=rfl
theorem apK {x:EY}:(aB (Ff x)).all bO=true:=rfl
theorem amG {q:Rat}:bL 0 3 (.ptr 0 0 0 0) (aF q) [cell0]=some [.row 0 [aF q] 3 true]:=QR (k:=0) rfl
theorem apW {q:Rat} {K:aA}:bF true 3 (.ptr 0 0 0 0) (.row 0 [aF q] 3 true::K)=some (aF q):=by
 rw[bK,aT]
 exact bI q
end Go.PM
namespace Go.PM
open Go.Lib
theorem atB (s:vH) (val:EY→Rat):∃t ok,W4 s val = .eG [.sc (.string t),VB ok]:=by
 unfold W4 Cm
 split
 ·split
  ·split<;>exact⟨_,_,rfl⟩
  ·exact⟨_,_,rfl⟩
 ·exact⟨_,_,rfl⟩
noncomputable def ED (x:EY):Rat:=qX x 2 / (qX x 1*2)
theorem rz2:aK (2:Rat)≤665:=by
 have h:=Db 2
 have h2:bl 2≤2:=xL (by decide)
 have h3:aK ((2:Int):Rat)≤665:=by
  have:(2:Int).natAbs=2:=rfl
  rw[this] at h
  omega
 exact h3
theorem mA.RM {x:EY} (hx:mA x):aK (ED x)≤1099511627776:=by
 have h1:=hx.zR (k:=1) (by decide)
 have h2:=hx.zR (k:=2) (by decide)
 have h3:=fW (qX x 1) 2
 have h4:=rz2
 have h5:=Dg (qX x 2) (qX x 1*2)
 unfold ED
 omega
set_option maxHeartbeats 1000000 in
theorem J0 {x:EY} (hx:mA x):TC 131 [Ff x] (aF (ED x)):=by
 refine TC.walk ⟨true,false⟩ Kf rfl (aMl rfl) (Al (La _ _ _)) (pO _) ?_
 have e1:TC 124 [Ff x,VI 1] (aF (qX x 1)):=xK hx 1 (by decide)
 have e2:TC 124 [Ff x,VI 2] (aF (qX x 2)):=xK hx 2 (by decide)
 have e3:TC 64 [VI 2] (aF 2):=kU 2 (by decide) (by decide)
 have h1:=hx.zR (k:=1) (by decide)
 have h2:=hx.zR (k:=2) (by decide)
 have h3:=fW (qX x 1) 2
 have h4:=rz2
 have kZ:=hx.U6
 have fS:qX x 1*2≠0:=fun h=>by grind
 have e4:=jO (qX x 1) 2 (by omega) (by omega)
 have e5:=Af (qX x 2) (qX x 1*2) fS (by omega) (by omega)
 have e5:TC 129 [aF (qX x 2),aF (qX x 1*2)] (aF (ED x)):=e5
 simp only[Ez,Ca,apK,ayC,azI,if_true,e1,e2,e3,e4,e5,amG,apW,aMa,aLP,dS,VX,Nat.reduceEqDiff,Nat.reduceAdd,Nat.reduceLeDiff,Nat.reduceLT,Nat.reduceSub]
 exact aL (fZ _)
theorem Nn (s:vH) (hb:Tl s):TC 54 [vM s] (W4 s ED):=by
 refine TC.walk ⟨true,false⟩ MV rfl (aMl rfl) (Al (rP _)) (Te _ _) ?_
 have e2:=Lx s hb 131 [] rfl ED (fun x hx=>J0 hx) (fun x hx=>hx.RM)
 obtain⟨t,ok,ht⟩:=atB s ED
 rw[ht] at e2 ⊢
 simp only[Hx,EP,oR,kW,e2,if_true,dS,VX,Nat.reduceEqDiff,Nat.reduceAdd,Nat.reduceLeDiff,Nat.reduceLT,Nat.reduceSub]
 exact aL rfl
end Go.PM
namespace Go.PM
open Go.Lib
end Go.PM
namespace Go.PM
open Go.Lib
theorem V5 {v:VV} (h1:(aB v).length=3) (h2:(aB v).all bO=true):bL 0 3 (.ptr 0 0 0 0) v [kR]=some [.row 0 [v] 3 true]:=by
 rw[bS (e:=3) aT (by exact aNP) (aKx _) h1 h2]
 rfl
theorem axH {x:EY}:bL 0 3 (.ptr 0 0 0 0) (D3 x) [kR]=some [.row 0 [D3 x] 3 true]:=V5 (v:=D3 x) rfl rfl
theorem noC {g:List (List Rat)}:bL 0 3 (.ptr 0 0 0 0) (.agg [.tree [] .op,aC (aC aM) g,.tree [] .op]) [kR]=some [.row 0 [.agg [.tree [] .op,aC (aC aM) g,.tree [] .op]] 3 true]:=V5 (v := .agg [.tree [] .op,aC (aC aM) g,.tree [] .op]) rfl rfl
set_option maxHeartbeats 1000000 in
theorem MM (s:vH) (hb:Tl s):TC 53 [vM s] (W4 s ED):=by
 refine TC.walk ⟨true,false⟩ M6 rfl (aMl rfl) (Al (rP _)) (Te _ _) ?_
 have e1:=MK s hb
 unfold No at e1
 cases h:eW s with
 |
  none =>
  rw[WT h]
  rw[h] at e1
  simp only at e1
  simp only[yY,uE,oR,kW,e1,axH,noC,if_true,aMa,aLP,aOb,dS,VX,Nat.reduceEqDiff,Nat.reduceAdd,Nat.reduceLeDiff,Nat.reduceLT,Nat.reduceSub]
  exact aL rfl
 |
  some x =>
  rw[h] at e1
  simp only at e1
  cases he:Fm x with
  |
   false =>
   rw[aaC h he]
   rw[he] at e1
   simp only[yY,uE,oR,kW,e1,axH,noC,if_true,aMa,aLP,aOb,dS,VX,Nat.reduceEqDiff,Nat.reduceAdd,Nat.reduceLeDiff,Nat.reduceLT,Nat.reduceSub]
   exact aL rfl
  |
   true =>
   rw[he] at e1
   have hx:=mA.of h he
   rw[anO h he]
   simp only[yY,uE,oR,kW,e1,axH,noC,if_true,aMa,aLP,aOc,dS,VX,Nat.reduceEqDiff,Nat.reduceAdd,Nat.reduceLeDiff,Nat.reduceLT,Nat.reduceSub]
   refine Cg rfl (Dq (w:=true) hx 2 (by omega) rfl (aK1 _)) fun r H1 CQ hk1 hr => ?_
   subst hr
   have h1:=hx.zR (k:=1) (by decide)
   have h2:=hx.zR (k:=2) (by decide)
   have h3:=fW (qX x 1) 2
   have h4:=rz2
   have kZ:=hx.U6
   have fS:qX x 1*2≠0:=fun h=>by grind
   have e2:TC 130 [VI 2] (aM 2):=yU 2 (by decide) (by decide)
   simp only[e2,dS,VX,Nat.reduceEqDiff,Nat.reduceAdd,Nat.reduceLeDiff,Nat.reduceLT,Nat.reduceSub]
   refine Cg rfl (Dq (w:=true) hx 1 (by omega) (hk1 _ _ _ rfl) (aK1 _)) fun r H2 IQ Yj hr => ?_
   subst hr
   have e3:=uF 2 (qX x 1) (by omega) (by omega)
   rw[Rat.mul_comm] at e3
   have e5:=AV (qX x 2) (qX x 1*2) fS (by omega) (by omega)
   have e5:TC 81 [aM (qX x 2),aM (qX x 1*2)] (aM (ED x)):=e5
   have e6:=O7 (ED x) hx.RM
   obtain⟨t,ok,ht⟩:=QZ (ED x)
   rw[ht] at e6 ⊢
   simp only[e3,e5,e6,dS,VX,Nat.reduceEqDiff,Nat.reduceAdd,Nat.reduceLeDiff,Nat.reduceLT,Nat.reduceSub]
   exact aL rfl
end Go.PM
namespace Go.PM
open Go.Lib
theorem amL (s:vH) (val:EY→Rat):∃t k,W4 s val = .eG [bD t,VB k]:=by
 unfold W4
 split
 ·split
  ·exact QZ _
  ·exact⟨_,_,rfl⟩
 ·exact⟨_,_,rfl⟩
noncomputable def ahI (s:vH):VV:=W4 s ED
theorem abG (s:vH):∃t k,ahI s = .eG [bD t,VB k]:=amL _ _
end Go.PM
namespace Go.PM
def pI:aE:=(LS [LO 1 (.box (LT 0)),LO 2 (.mv LF)] (LS [LO 3 (.mv (LI 1000000))] (LS [LO 11 (LK 1),LM 12 3,LO 13 (.call 44 [(LT 11),(LT 12)]),LM 3 13] (.seq (LS [LM 14 3,LO 15 (.bin .lss (LT 14) (LI 0))] (.cond (LT 15) (LS [LO 2 (.mv LG)] .ret) .skip)) (LS [LO 17 (LK 1),LO 18 (.call 46 [(LT 17),LF]),LO 19 (.call 53 [(LT 18)]),LM 16 19,LO 20 (LX 16 0),LO 21 (LX 16 1),LM 4 20,LM 5 21] (LS [LO 22 (LK 1),LO 23 (.call 46 [(LT 22),LF]),LO 6 (.new [(.slice none 0 0),(.slice none 0 0),(.slice none 0 0)]),LN (.store 3 (LT 6) (LT 23))] (LS [LO 25 (LK 6),LO 26 (.call 54 [(LT 25)]),LM 24 26,LO 27 (LX 24 0),LO 28 (LX 24 1),LM 7 27,LM 8 28] (.seq (LS [LM 29 7,LM 30 4,LO 31 (.bin .neq (LT 29) (LT 30)),LM 32 31,LZ 32 33 (.mv (LT 8)),LZ 32 34 (.mv (LT 5)),LZ 32 35 (.eqb true (LT 33) (LT 34)),LO 36 (.pick (LT 32) LG (LT 35))] (.cond (LT 36) (LS [LO 2 (.mv LF)] .ret) .skip)) (.seq (LS [LO 37 (LK 6),LO 38 (LK 1),LQ 39 (.call 46 [(LT 38),LF]),LQ 40 (.call 48 [(LT 37),(LT 39)]),LO 41 (.un .not (LT 40))] (.cond (LT 41) (LS [LO 2 (.mv LF)] .ret) .skip)) (LS [LO 43 (LK 1),LO 44 (.call 46 [(LT 43),LG]),LO 45 (.call 54 [(LT 44)]),LM 42 45,LO 46 (LX 42 0),LO 47 (LX 42 1),LM 9 46,LM 10 47] (.seq (LS [LM 48 9,LM 49 4,LO 50 (.bin .neq (LT 48) (LT 49)),LM 51 50,LZ 51 52 (.mv (LT 10)),LZ 51 53 (.mv (LT 5)),LZ 51 54 (.eqb true (LT 52) (LT 53)),LO 55 (.pick (LT 51) LG (LT 54))] (.cond (LT 55) (LS [LO 2 (.mv LF)] .ret) .skip)) (LS [LO 2 (.mv LG)] .ret))))))))))))
def rJ:aU:=⟨56,[(.tmp 2)],pI⟩
theorem Em:fQ 13=some rJ:=by kernel_rfl
end Go.PM
namespace Go.PM
theorem Ta {f lo:Nat} {args mB:List VV} {r:VV} {H:aA} {K:VV→aA→Prop} (h:TC f mB r) (CM:Fv.contains f=false) (ha':aO mB=true) (hf:args.mapM (fz depth H)=some mB) (hr:Ja r=true) (hk:K r H):dH f args lo H K:=by
 rw[h.flat CM ha' hf hr]
 exact hk
theorem J4 (l:List UInt8):dK .neq (.string ⟨l.toArray⟩) (.string ⟨l.toArray⟩)=some (.bool false):=by rw[S5];simp
theorem UU (b:Bool):Ol true (Value.bool b) (Value.bool b)=some (.bool false):=by cases b<;>rfl
end Go.PM
namespace Go.PM
set_option maxHeartbeats 2000000 in
theorem DR (s0:vH) (RQ:asQ s0):TC 13 [vM s0] (.sc (.bool true)):=by
 refine TC.walk ⟨true,false⟩ Em rfl (aMl rfl) (Al (rP _)) rfl ?_
 have afP:=Ki s0 (1000000) RQ (by omega)
 change TC _ _ (VI (PY s0 (1000000))) at afP
 by_cases aBt:PY s0 (1000000)<0
 ·rw[arV aBt] at afP
  simp only[rJ,pI,oR,kW,afP,Int.reduceNeg,Int.reduceLT,VX,Nat.reduceEqDiff,Nat.reduceAdd]
  exact aL rfl
 have aBH:=apU (s:=s0) (l:=1000000) (by omega) (by omega)
 have aIk:=aBH.1
 have Qp:Tl s0:=aBH.2
 have hg0:=Qp.g9
 have hi0:=Qp.g4
 have Y1:=Qp.b4
 have Kh:=Qp.e4
 simp only[rJ,pI,oR,kW,afP,aBt,VX,Nat.reduceEqDiff,Nat.reduceAdd]
 have cs:TC _ [vM s0] (ahI s0):=MM s0 Qp
 have ci:TC _ [vM s0] (ahI s0):=Nn s0 Qp
 obtain⟨s,k,hsk⟩:=abG s0
 rw[hsk] at cs ci
 have pa:aO [vM s0]=true:=Al (rP _)
 refine ZJ (by have:=Y1;omega) hg0 (by have:=Kh;omega) fun r1 H1 p1 s1' => ?_
 simp only[oR,kW,VX,Nat.reduceEqDiff,Nat.reduceAdd]
 refine Ta cs rfl pa (fz1 (s1'.pre (aOh _)).fz) rfl ?_
 simp only[oR,kW,VX,Nat.reduceEqDiff,Nat.reduceAdd]
 refine ZJ (by have:=Y1;omega) hg0 (by have:=Kh;omega) fun r2 H2 p2 s2' => ?_
 have w2:=aDP (lo:=0) s2' (aK1 _)
 simp only[oR,kW,w2,sA,VX,Nat.reduceEqDiff,Nat.reduceAdd]
 have p3:=aMr H2 [.row 0 [r2] 3 true]
 have q2:aG (H2++[.row 0 [r2] 3 true]) H2.length 0=some ([r2],3,true):=lF
 generalize eh3:H2++[.row 0 [r2] 3 true]=H3 at *
 simp only[oR,kW,ld3 s2' (cJ (aOh _) q2),VX,Nat.reduceEqDiff,Nat.reduceAdd]
 refine Ta ci rfl pa (fz1 (s2'.pre p3).fz) rfl ?_
 simp only[oR,kW,J4,UU,ld3 s2' (cJ (aOh _) q2),VX,Nat.reduceEqDiff,Nat.reduceAdd]
 refine ZJ (by have:=Y1;omega) hg0 (by have:=Kh;omega) fun r4 H4 p4 s4' => ?_
 simp only[oR,kW,ld3 s2' (cJ p4 q2),VX,Nat.reduceEqDiff,Nat.reduceAdd]
 refine Fh s0 Y1 hi0 Kh (s2'.pre (p3.trans p4)) s4' ?_
 simp only[oR,kW,ld3 s2' (cJ p4 q2),VX,Nat.reduceEqDiff,Nat.reduceAdd]
 refine ZJ (by have:=Y1;omega) hg0 (by have:=Kh;omega) fun r5 H5 p5 s5' => ?_
 simp only[oR,kW,VX,Nat.reduceEqDiff,Nat.reduceAdd]
 refine Ta ci rfl pa (fz1 (s5'.pre (aOh _)).fz) rfl ?_
 simp only[oR,kW,J4,UU,VX,Nat.reduceEqDiff,Nat.reduceAdd]
 exact aL rfl
end Go.PM
namespace Go.PM
open Go.Proofs
theorem Hu {P:Program} {w:World} {name:String} {d:DataW Unit}:∀ {l:List (String×DataW Unit)} {ps:List MemPlace},DataW.LaidVars P w l ps→(name,d)∈l →
  ∃g t cs fuel p,P.globalNamed name=some g∧(P.globals[g]?).map (·.type)=some t∧w.var? P name=some cs∧DataW.trod (fun _=>()) P w 0 (fun _=>true) false fuel t cs.toList=some (d,p)
 | [],_,_,hm=>by cases hm
 |
  (n,e)::r,ps,h,hm=>by
  obtain⟨g,t,cs,fuel,p,q,h1,h2,h3,h4,h5,_⟩:=h
  rcases List.mem_cons.1 hm with he | hm
  ·cases he
   exact⟨g,t,cs,fuel,p,h1,h2,h3,h4⟩
  ·exact Hu h5 hm
theorem Of {W:World} {l:List (String×DataW Unit)} (hl:laidMetH Tryz.prog l W) (hp:(l.all fun x=>x.2.handleName?.isNone)=true) (hm:("internal/strconv.uint64pow10",Lib.tabData .u64 Lib.pow10Tab)∈l)
  {t e:TypeId} {n:Nat} (hty:(Tryz.prog.globals[3]?).map (·.type)=some t) (ht:Tryz.prog.underlying t=some (.array n e)) (he:Tryz.prog.underlying e=some (.int .u64)) (hce:Tryz.prog.cellsOf e=1) (hct:Tryz.prog.cellsOf t=n):Tc W:=by
 rw[MakeChecks.laidMetH_plain _ _ _ hp] at hl
 obtain⟨ps,h1,_⟩:=hl
 obtain⟨g',t',cs,fuel,p,hg',ht',akI,hd⟩:=Hu h1 hm
 have hg:Tryz.prog.globalNamed "internal/strconv.uint64pow10"=some 3:=by kernel_rfl
 obtain rfl:=Option.some.inj (hg.symm.trans hg')
 obtain rfl:=Option.some.inj (hty.symm.trans ht')
 have PO:=Lib.cells_of_tab ht he hce hct hd
 intro x hx
 have JK:x=(3,(Lib.pow10Tab.map fun z=>Value.int .u64 z).toArray):=by simpa[asW] using hx
 subst JK
 unfold World.var? at akI
 rw[hg,Option.bind_some] at akI
 split at akI
 ·rename_i CN e' fz' hh
  cases akI
  refine⟨e',fz',?_⟩
  rw[←PO]
  simpa using hh
 ·cases akI
end Go.PM