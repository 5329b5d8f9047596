/- Texts of a claim, in one: part 15. -/
import Derived.KernelRfl
import Derived.Lib.LaidTab
import Derived.LaidLaws
import Derived.LaidMore
import Derived.MakeChecks
import Derived.Handed
import Derived.Test.YtjmflicajplclaaGreatDoorKAn
open And renaming intro → aMk
open Bool renaming not_false → aOi,not_true → aOj
open List renaming append_assoc → aMq,cons_append → aL4,getD_eq_getElem?_getD → aKB,getElem?_append_right → aKW,getElem?_eq_getElem → aKL,length_append → aKP,length_cons → aKO,length_map → aMl,length_nil → aMh,mem_of_getElem? → aLy,nil_append → aLW,prefix_append → aMy,prefix_refl → aOo,replicate → aLu,set_cons_zero → aMi
open Nat renaming add_sub_cancel_left → aMv,le_of_ble_eq_true → aMs,le_refl → aKE,le_trans → aKF,mul_le_mul_left → aMD,mul_le_mul_right → aK5,not_lt_zero → aLV,sub_self → aKX,zero_add → aMc,zero_le → aK8,zero_lt_one → aNW
set_option linter.unusedSimpArgs false
set_option linter.unusedVariables false
namespace Go.PM
open Go.Lib
theorem RZ {k:Nat} {K:aA} {x:VV} {q:Rat} (hK:K[k]? = some (.row 0 [x] 3 true)):bL 0 3 (.ptr k 0 0 0) (aF q) K=some (K.set k (.row 0 [aF q] 3 true)):=by
 have hr:aG K k 0=some ([x],3,true):=by rw[cB];exact hK
 rw[bS (e:=3) hr (by exact aNW) (by omega) (dD q) (fM q)]
 rfl
section
variable {x:FP} (hx:nN x)
include hx
theorem nN.ups {K:Nat} (hK:K=43) {r:Rat} (h0:0≤r) (hr:aL r≤665) {b X:Nat→Rat} (hs:fL x.1.length (Qs x r) b X):XS x.1.length 0 (K*665+9) (Qs x r) b X :=
 ⟨hx.apM h0,⟨fun _ _ _ h _=>absurd h (aLV _),fun _ h=>absurd h (aLV _)⟩,hs,hx.scaled hK hr⟩
theorem nN.dgs {K:Nat} (hK:K=43) {r:Rat} (h0:0≤r) (hr:aL r≤665) {b X:Nat→Rat} (hs:fL x.1.length (Qs x r) b X):DgS x.1.length 0 (K*665+9) (Qs x r) b X :=
 ⟨hx.apM h0,⟨fun _ _ _ h _=>absurd h (aLV _),fun _ h=>absurd h (aLV _)⟩,hs,hx.scaled hK hr⟩
theorem nN.small {K:Nat} (hK:K=43):2^x.1.length*(K*665+9+1)≤68719476736:=by
 have hn:=hx.n
 have e1:2^x.1.length≤2^6:=Nat.pow_le_pow_right (by decide) hn.2
 have e2:2^x.1.length*(K*665+9+1)≤2^6*(K*665+9+1):=aK5 _ e1
 have e3:(2:Nat)^6=64:=by decide
 omega
set_option maxHeartbeats 4000000 in
set_option maxRecDepth 20000 in
theorem FQ {lo B:Nat} {H:aA} {v:VV} {X:Nat→Rat} (hv:Rd aF 3 (vec x.1.length X) H v) (hX:∀i,i<x.1.length→aL (X i)≤B) (hB:B≤10000000000) (dS:lo≤H.length) :
  jD 121 [GF x,v] lo H (Sa (fun _ _ _ r=>r=aF (rZ x.1 X x.1.length)) H):=by
 refine jD.walk ⟨true,false⟩ D9 (aMs rfl) ?_
 have hn:=hx.n
 have jO:(aB (GF x)).all bP=true:=rfl
 have l0:∀K,bF false 1 (.cG (GF x) 0) K=some (aC aF x.1):=fun K=>rfl
 have e1:TC 64 [VI 0] (aF 0):=nB 0 (by decide) (by decide)
 have s0:bL lo 3 (.ptr (H.length+1) 0 0 0) (aF 0) (H++[cell0,cell0])=some (H++[cell0,.row 0 [aF 0] 3 true]):=by
  have hr:aG (H++[cell0,cell0]) (H.length+1) 0=some ([VV.agg [VB false,.tree [] .nil,.tree [] .nil]],3,true):=by
   rw[cB,aKW (by omega),aMv]
   rfl
  rw[bS (e:=3) hr (by exact aNW) (by omega) (dD _) (fM _),List.set_append_right _ _ (by omega),aMv]
  rfl
 have r4:aG (H++[cell0,.row 0 [aF 0] 3 true]) H.length 0=some ([VV.agg [VB false,.tree [] .nil,.tree [] .nil]],3,true):=by
  rw[cB,aKW (by omega),aKX]
  rfl
 have r5:aG (H++[cell0,.row 0 [aF 0] 3 true]) (H.length+1) 0=some ([aF 0],3,true):=by
  rw[cB,aKW (by omega),aMv]
  rfl
 simp only[zU,wV,jO,if_true,l0,e1,s0,aMl,aMq,aL4,aLW,aKP,aKO,aMh,aMc,dR,VX,Nat.reduceEqDiff,Nat.reduceAdd,Nat.reduceLeDiff,Nat.reduceLT,Nat.reduceSub]
 refine aP (fun(i:Nat) ρ H1=>i≤x.1.length∧H <+: H1∧aG H1 H.length 0=some ([VV.agg [VB false,.tree [] .nil,.tree [] .nil]],3,true)∧aG H1 (H.length+1) 0=some ([aF (rZ x.1 X i)],3,true)∧ρ 1=v∧ρ 4 = .ptr H.length 0 0 0∧ρ 5 = .ptr (H.length+1) 0 0 0∧ρ 10=aC aF x.1∧ρ 11=VI x.1.length∧ρ 12=VI i) (fun i=>x.1.length-i) 0
  ⟨aK8 _,aMy _ _,r4,r5,by (repeat' apply aMk)<;>first | rfl | trivial | assumption⟩ ?_
 clear r4 r5 s0
 rintro i ρ H1 ⟨hi,hp,r4,r5,g1,g4,g5,g10,g11,g12⟩
 have Dx:=iS r5
 have A2:∀m,m≤x.1.length→aL (rZ x.1 X m)≤6*(B+667)+1:=fun m hm=>by
  have h1:=Vm (f:=fun i=>x.1.getD i 0*X i) (B:=665+B) (n:=x.1.length) (fun i hi=>by
   have h2:=jA (x.1.getD i 0) (X i)
   have h3:=hX i hi
   have h4:aL (x.1.getD i 0)≤665:=CV (P:=fun q=>aL q≤665) hx.wb rz0 i
   omega) m hm
  have h2:m*(665+B+1)≤6*(665+B+1):=aK5 _ (by omega)
  unfold rZ
  omega
 by_cases bW:(i:Int)<(x.1.length:Int)
 ·obtain⟨q,hq⟩:∃q,x.1[i]? = some q:=⟨_,aKL (by omega)⟩
  have hqm:=hx.wb q (aLy hq)
  have hqd:x.1.getD i 0=q:=by rw[aKB,hq];rfl
  have a1:=fun H=>aH (f:=aF) (t := .op) (H:=H) (size:=3) (k := .i64) hq rfl
  have s1:=Jm (lo:=lo) (H:=H1) (q:=q) (by omega)
  have s2:bF true 3 (.ptr H1.length 0 0 0) (H1++[.row 0 [aF q] 3 true])=some (aF q):=Ze (K:=[])
  obtain⟨p,a2,a3⟩:=hv.get _ (F1 (L:=[.row 0 [aF q] 3 true]) hp) i (X i) (wW (by omega))
  have a3':=(a3 true).trans (bH _)
  have r5':=eV (L:=[.row 0 [aF q] 3 true]) r5
  have l5:bF true 3 (.ptr (H.length+1) 0 0 0) (H1++[.row 0 [aF q] 3 true])=some (aF (rZ x.1 X i)):=by rw[bK,r5'];exact bH _
  have wi:IntKind.i64.wrap ((i:Int)+1)=((i+1:Nat):Int):=wN _ (by omega) (by omega)
  have hXi:=hX i (by omega)
  have em:=lJ q (X i) (by omega) (by omega)
  have bm:=jA q (X i)
  have bo:=A2 i (by omega)
  have ea:=oJ (rZ x.1 X i) (q*X i) (by omega) (by omega)
  have vL:rZ x.1 X i+q*X i=rZ x.1 X (i+1):=by unfold rZ;rw[Sg,hqd]
  rw[vL] at ea
  have s5:=bS (lo:=lo) (v:=aF (rZ x.1 X (i+1))) (j:=0) r5' (by exact aNW) (by omega) (dD _) (fM _)
  rw[aMi] at s5
  simp only[oE,g1,g4,g5,g10,g11,g12,bW,a1,s1,s2,a2,a3',l5,em,ea,s5,wi,bH,dR,VX,Nat.reduceEqDiff,Nat.reduceAdd,Nat.reduceLeDiff,Nat.reduceLT,Nat.reduceSub]
  exact⟨i+1,by omega,by omega,lX (F1 hp) (by omega),aX (by omega) (eV r4),bQ r5',by (repeat' apply aMk)<;>first | rfl | trivial | assumption⟩
 ·have mH:i=x.1.length:=by omega
  subst mH
  have l5:bF true 3 (.ptr (H.length+1) 0 0 0) H1=some (aF (rZ x.1 X x.1.length)):=by rw[bK,r5];exact bH _
  have s4:=bS (lo:=lo) (v:=aF (rZ x.1 X x.1.length)) (j:=0) r4 (by exact aNW) dS (dD _) (fM _)
  rw[aMi] at s4
  have l4:bF true 3 (.ptr H.length 0 0 0) (H1.set H.length (.row 0 [aF (rZ x.1 X x.1.length)] 3 true))=some (aF (rZ x.1 X x.1.length)):=by rw[bK,bQ r4];exact bH _
  simp only[oE,g1,g4,g5,g10,g11,g12,bW,l5,s4,l4,dR,VX,Nat.reduceEqDiff,Nat.reduceAdd,Nat.reduceLeDiff,Nat.reduceLT,Nat.reduceSub]
  exact⟨lX hp (aKE _),rfl⟩
set_option maxHeartbeats 8000000 in
set_option maxRecDepth 20000 in
theorem E3 (k:Nat) (hk:k≤6):TC 124 [GF x,VI k] (aF (C5 x k)):=by
 refine TC.walk ⟨true,false⟩ Di rfl (aMs rfl) (Ak (K0 _ _ _) rfl) (pX _) ?_
 have hn:=hx.n
 obtain⟨γ,Zc⟩:∃γ,γ=132000000:=⟨132000000,rfl⟩
 obtain⟨K,hK⟩:∃K,K=43:=⟨43,rfl⟩
 have jO:(aB (GF x)).all bP=true:=rfl
 have l0:∀K,bF false 1 (.cG (GF x) 0) K=some (aC aF x.1):=fun K=>rfl
 have ls:∀K,bF true 3 (.cG (GF x) 0) K=some (GF x):=fun K=>rfl
 have e1:TC 64 [VI 1] (aF 1):=nB 1 (by decide) (by decide)
 have e0:TC 64 [VI 0] (aF 0):=nB 0 (by decide) (by decide)
 have eL:∀H,mV false [.bool false,.slice none 0 0,.slice none 0 0] 1 [(0,aF 1)] H=some (.tree [aF 1] (.cl 3),H):=fun H=>iU rfl rfl rfl
 simp only[xO,vE,jO,if_true,l0,e1,eL,aMl,aLW,dR,VX,Nat.reduceEqDiff,Nat.reduceAdd,Nat.reduceLeDiff,Nat.reduceLT,Nat.reduceSub]
 refine fU rfl ((As 1 x.1.length (by omega) (aKE _)).mono ?_)
 rintro _ _ ⟨rfl,rfl⟩
 have s2:bL 0 3 (.ptr 2 0 0 0) (aF 1) [cell0,.row 0 ((aLu x.1.length (1:Rat)).map aF) 3 true,cell0]=some [cell0,.row 0 ((aLu x.1.length (1:Rat)).map aF) 3 true,.row 0 [aF 1] 3 true]:=RZ (k:=2) rfl
 simp only[e1,s2,aL4,aLW,aKO,aMh,aMc,dR,VX,Nat.reduceEqDiff,Nat.reduceAdd,Nat.reduceLeDiff,Nat.reduceLT,Nat.reduceSub]
 have aGl:VV := .agg [VB false,.tree [] .nil,.tree [] .nil]
 have r1:Rw aF 1 0 x.1.length (xH x 0) [cell0,.row 0 ((aLu x.1.length (1:Rat)).map aF) 3 true,.row 0 [aF 1] 3 true]:=by
  unfold Rw
  rw[KQ]
  rfl
 refine aP (fun(j:Nat) ρ H1=>j≤k∧Rw aF 1 0 x.1.length (xH x j) H1∧aG H1 0 0=some ([VV.agg [VB false,.tree [] .nil,.tree [] .nil]],3,true)∧aG H1 2 0=some ([aF (kS j)],3,true)∧ρ 2 = .cG (GF x) 0∧ρ 4 = .ptr 0 0 0 0∧ρ 5 = .ref 1 0 0 x.1.length x.1.length∧ρ 6 = .ptr 2 0 0 0∧ρ 15=VI k∧ρ 16=VI j) (fun j=>k-j) 0
  ⟨aK8 _,r1,rfl,rfl,by (repeat' apply aMk)<;>first | rfl | trivial | assumption⟩ ?_
 clear r1 s2
 rintro j ρ H1 ⟨hj,hR,r0,r2,g2,g4,g5,g6,g15,g16⟩
 have Jl:=iS r2
 by_cases Eo:(j:Int)<(k:Int)
 ·have wj:IntKind.i64.wrap ((j:Int)+1)=((j+1:Nat):Int):=wN _ (by omega) (by omega)
  simp only[nF,g2,g4,g5,g6,g15,g16,Eo,ls,e0,dR,VX,Nat.reduceEqDiff,Nat.reduceAdd,Nat.reduceLeDiff,Nat.reduceLT,Nat.reduceSub]
  refine Fw rfl (E8 hx 0 rz0 (aKE _)) fun r H2 hl tX hTI => ?_
  obtain⟨b,g,c,rfl,hc,hT⟩:=hTI.tb
  simp only[g5,dR,VX,Nat.reduceEqDiff,Nat.reduceAdd,Nat.reduceLeDiff,Nat.reduceLT,Nat.reduceSub]
  have hS:Sy aF H1.length H2.length x.1.length b g 1 0 (Qs x 0) (xH x j) H2:=⟨hT,tX _ _ _ hR,.inl (by omega)⟩
  have axB:=hx.O8 j
  have hη:2+γ*(j+1)≤274877906944:=by
   have:γ*(j+1)≤γ*6:=aMD _ (by omega)
   omega
  refine fU rfl ((Sl (lo:=0) (c:=c) (rc:=x.1.length) hS (hx.ups hK Rat.le_refl rz0 axB) (nN.mom Zc hx (j+1)) (by omega) (hx.small hK) hη (aK8 _) (aK8 _) (aK8 _) (aKE _) (by omega)).mono ?_)
  rintro _ H3 ⟨rfl,hO,hR3⟩
  have r2':=hO.2 _ _ _ (.inl (by omega)) (by decide) (tX _ _ _ r2)
  have r0':=hO.2 _ _ _ (.inl (by omega)) (by decide) (tX _ _ _ r0)
  have l6:bF true 3 (.ptr 2 0 0 0) H3=some (aF (kS j)):=by rw[bK,r2'];exact bH _
  have ew:=nB ((j+1:Nat):Int) (by omega) (by omega)
  have bw:=Gw ((j+1:Nat):Int)
  have bl1:bl (j+1)≤5:=zS (by omega)
  rw[Int.natAbs_natCast] at bw
  have bf:=Br j (by omega)
  have em:=lJ (kS j) (((j+1:Nat):Int):Rat) (by omega) (by omega)
  have s6:=bS (lo:=0) (v:=aF (kS (j+1))) (j:=0) r2' (by exact aNW) (aK8 _) (dD _) (fM _)
  rw[aMi] at s6
  have em':TC 132 [aF (kS j),aF (((j+1:Nat):Int):Rat)] (aF (kS (j+1))):=em
  simp only[g6,g16,l6,wj,ew,em',s6,dR,VX,Nat.reduceEqDiff,Nat.reduceAdd,Nat.reduceLeDiff,Nat.reduceLT,Nat.reduceSub]
  exact⟨j+1,by omega,by omega,aX (by decide) hR3,aX (by decide) r0',bQ r2',by (repeat' apply aMk)<;>first | rfl | trivial | assumption⟩
 ·have Tw:j=k:=by omega
  subst Tw
  simp only[nF,g2,g4,g5,g6,g15,g16,Eo,ls,dR,VX,Nat.reduceEqDiff,Nat.reduceAdd,Nat.reduceLeDiff,Nat.reduceLT,Nat.reduceSub]
  have hη:2+γ*j≤10000000000:=by
   have:γ*j≤γ*6:=aMD _ (by omega)
   omega
  refine sA rfl (FQ hx (X:=xH x j) (B:=2+γ*j) (Rd.row (c:=x.1.length) hR (by rw[jK])) (fun i hi=>(nN.mom Zc hx j).bits hi) hη (aKE _)) fun y L hy => ?_
  subst hy
  have r2':=eV (L:=L) r2
  have r0':=eV (L:=L) r0
  have l6:bF true 3 (.ptr 2 0 0 0) (H1++L)=some (aF (kS j)):=by rw[bK,r2'];exact bH _
  have bf:=Br j (by omega)
  have bb:=hx.begun (nN.mom Zc hx j) x.1.length (aKE _)
  have em:=lJ (rZ x.1 (xH x j) x.1.length) (kS j) (by omega) (by omega)
  have em':TC 132 [aF (rZ x.1 (xH x j) x.1.length),aF (kS j)] (aF (C5 x j)):=em
  have s4:=bS (lo:=0) (v:=aF (C5 x j)) (j:=0) r0' (by exact aNW) (aK8 _) (dD _) (fM _)
  rw[aMi] at s4
  have l4:bF true 3 (.ptr 0 0 0 0) ((H1++L).set 0 (.row 0 [aF (C5 x j)] 3 true))=some (aF (C5 x j)):=by rw[bK,bQ r0'];exact bH _
  simp only[g4,g6,l6,em',s4,l4,dR,VX,Nat.reduceEqDiff,Nat.reduceAdd,Nat.reduceLeDiff,Nat.reduceLT,Nat.reduceSub]
  exact aJ (fV _)
end
end Go.PM
namespace Go.PM
open Go.Lib
abbrev Ed (x:FP):VV:=CJ aN x.1 x.2.1 x.2.2
theorem Zo {x:FP} (hx:nN x) {r:Rat} {bb:Nat→Rat} {i:Nat}:∀j,Hx (Qs x r) bb x.1.length i j=if j<x.1.length then zL (fun j => -gE x.2.1 i j) i (Sg (gE x.2.1 i) x.1.length+eE x.2.2 i+r) j else bb i:=fun j=>by
 unfold Hx
 by_cases hj:j<x.1.length
 ·rw[if_pos hj,if_pos hj]
  unfold Qs svA zL
  by_cases h:j=i
  ·subst h
   rw[if_pos rfl,if_pos rfl,hx.gd j]
   grind
  ·rw[if_neg h,if_neg h]
   grind
 ·rw[if_neg hj,if_neg hj]
section
variable {x:FP} (hx:nN x)
include hx
set_option maxHeartbeats 16000000 in
set_option maxRecDepth 30000 in
theorem Np {lo sb η K:Nat} {H:aA} {w:Bool} {v:VV} {r:Rat} {bb X:Nat→Rat} (hK:K=43) (h0:0≤r) (hr:aL r≤665) (hs:aG H sb 0=some ([Ed x],3,w)) (hv:Rd aN 3 (vec x.1.length bb) H v) (hX:fL x.1.length (Qs x r) bb X) (hXs:dG η x.1.length X) (hη:η≤274877906944) (dS:lo≤H.length) :
  jD 114 [.ptr sb 0 0 0,aN r,v] lo H (Tr (JR aN 3 (vec x.1.length X)) H):=by
 refine jD.walk ⟨true,false⟩ MR (aMs rfl) ?_
 have hn:=hx.n
 have ck:∀ {K},aG K sb 0=some ([Ed x],3,w)→MV (.ptr sb 0 0 0) K=some (.ptr sb 0 0 0):=fun h=>by rw[MV,h];rfl
 have f0:∀ {K},aG K sb 0=some ([Ed x],3,w)→yP 0 (.ptr sb 0 0 0) K=some (.ptr sb 0 0 0):=fun h=>by rw[FF h]
 have f1:∀ {K},aG K sb 0=some ([Ed x],3,w)→yP 1 (.ptr sb 0 0 0) K=some (.ptr sb 0 0 1):=fun h=>by rw[FF h]
 have f2:∀ {K},aG K sb 0=some ([Ed x],3,w)→yP 2 (.ptr sb 0 0 0) K=some (.ptr sb 0 0 2):=fun h=>by rw[FF h]
 have l0:∀ {K},aG K sb 0=some ([Ed x],3,w)→bF false 1 (.ptr sb 0 0 0) K=some (aC aN x.1):=fun h=>by rw[bK,h];rfl
 have l1:∀ {K},aG K sb 0=some ([Ed x],3,w)→bF false 1 (.ptr sb 0 0 1) K=some (aC (aC aN) x.2.1):=fun h=>by rw[bK,h];rfl
 have l2:∀ {K},aG K sb 0=some ([Ed x],3,w)→bF false 1 (.ptr sb 0 0 2) K=some (aC aN x.2.2):=fun h=>by rw[bK,h];rfl
 have lr:∀K,bF true 3 (.cG (aN r) 0) K=some (aN r):=fun K=>cI r
 have e0:∀K,mV false [.slice none 0 0] 0 [] K=some (.ref K.length 0 0 0 0,K++[.row 0 [] 1 true]):=fun K=>mX rfl
 have e3:∀K,mV false [.bool false,.slice none 0 0,.slice none 0 0] 0 [] K=some (.ref K.length 0 0 0 0,K++[.row 0 [] 3 true]):=fun K=>mX rfl
 simp only[H6,EL,pV,if_true,ck hs,f0 hs,l0 hs,e0,aMl,dR,VX,Nat.reduceEqDiff,Nat.reduceAdd,Nat.reduceLeDiff,Nat.reduceLT,Nat.reduceSub]
 have wn:∀k:Nat,k≤x.1.length→IntKind.i64.wrap ((k:Int)+1)=((k+1:Nat):Int):=fun k hk=>wN _ (by omega) (by omega)
 refine aP (fun(i:Nat) ρ H1=>i≤x.1.length∧H <+: H1∧(∃rs,rs.length=i∧rs.map (·.xs)=(Qr x.1.length (x.1.length+1) (Hx (Qs x r) bb x.1.length)).take i∧MG aN 3 H.length H1.length H.length i H1 rs)∧ρ 0 = .ptr sb 0 0 0∧ρ 2=v∧ρ 4 = .cG (aN r) 0∧ρ 7=VI x.1.length∧ρ 8 = .ref H.length i 0 i i∧ρ 9=VI i) (fun i=>x.1.length-i) 0
  ⟨aK8 _,aMy _ _,⟨[],rfl,rfl,lG,aKE _,by simp,by simp,by simp⟩,by (repeat' apply aMk)<;>first | rfl | trivial | assumption⟩ ?_
 rintro i ρ H1 ⟨hi,hp,⟨rs,BZ,hrs,hM⟩,g0,g2,g4,g7,g8,g9⟩
 have Fv:=cJ hp hs
 by_cases bW:(i:Int)<(x.1.length:Int)
 ·have vA:i<x.1.length:=by omega
  obtain⟨row,mA,W9⟩:=XA (g:=x.2.1) (i:=i) (by rw[hx.g];exact vA)
  have Md:=hx.gr row (aLy mA)
  have a1:=fun H=>aH (f:=aC aN) (t := .op) (H:=H) (size:=1) (k := .i64) mA rfl
  have aqP:∀K,bF false 1 (.cG (aC aN row) 0) K=some (aC aN row):=fun K=>rfl
  simp only[yH,g0,g2,g4,g7,g8,g9,bW,e3,dR,VX,Nat.reduceEqDiff,Nat.reduceAdd,Nat.reduceLeDiff,Nat.reduceLT,Nat.reduceSub]
  refine aP (fun(j:Nat) ρ H2=>j≤x.1.length∧H1 <+: H2∧aG H2 H1.length j=some ((vec j fun j => -gE x.2.1 i j).map aN,3,true)∧ρ 0 = .ptr sb 0 0 0∧ρ 2=v∧ρ 4 = .cG (aN r) 0∧ρ 7=VI x.1.length∧ρ 8 = .ref H.length i 0 i i∧ρ 9=VI i∧ρ 10 = .ref H1.length j 0 j j∧ρ 11=VI j) (fun j=>x.1.length-j) 0
   ⟨aK8 _,aMy _ _,lG,by (repeat' apply aMk)<;>first | rfl | trivial | assumption⟩ ?_
  clear g0 g2 g4 g7 g8 g9
  rintro j ρ H2 ⟨hj,hp2,hR,g0,g2,g4,g7,g8,g9,g10,g11⟩
  have ZE:=cJ hp2 Fv
  have Dx:H.length≤H1.length:=hp.length_le
  by_cases Eo:(j:Int)<(x.1.length:Int)
  ·have Hg:j<x.1.length:=by omega
   obtain⟨q,hq⟩:∃q,row[j]? = some q:=⟨_,aKL (by rw[Md.1];exact Hg)⟩
   have hGq:gE x.2.1 i j=q:=by rw[W9,aKB,hq];rfl
   have a2:=fun H=>aH (f:=aN) (t := .op) (H:=H) (size:=3) (k := .i64) hq rfl
   have eo:=A1 q
   have eL:∀H,mV false [.bool false,.slice none 0 0,.slice none 0 0] 1 [(0,aN (-q))] H=some (.tree [aN (-q)] (.cl 3),H):=fun H=>iU rfl rfl rfl
   have eS:∀H,cW 3 (.tree [aN (-q)] (.cl 3)) H=some [aN (-q)]:=fun H=>eU rfl rfl
   have eP:=FJ (lo:=lo) (bytes:=56) (x := -q) hR (by rw[jK]) (by omega) (by decide) (by decide) (by omega)
   simp only[xR,g0,g7,g9,g10,g11,Eo,ck ZE,f1 ZE,l1 ZE,a1,a2,aqP,cI,eo,eL,eS,eP,wn j hj,dR,VX,Nat.reduceEqDiff,Nat.reduceAdd,Nat.reduceLeDiff,Nat.reduceLT,Nat.reduceSub]
   exact⟨j+1,by omega,by omega,lX hp2 (aKE _),by rw[CS,hGq];exact bQ hR,by (repeat' apply aMk)<;>first | rfl | trivial | assumption⟩
  ·have Tw:j=x.1.length:=by omega
   subst Tw
   obtain⟨q,hq⟩:∃q,x.2.2[i]? = some q:=⟨_,aKL (by rw[hx.e];exact vA)⟩
   have hqm:=hx.er q (aLy hq)
   have he:eE x.2.2 i=q:=by unfold eE;rw[aKB,hq];rfl
   have Xz:Sg (gE x.2.1 i) x.1.length=dN row:=by
    rw[ZC,Md.1]
    exact iI fun j _=>W9 j
   have a3:=fun H=>aH (f:=aN) (t := .op) (H:=H) (size:=3) (k := .i64) hq rfl
   have hsb:=D2 (B:=665) (n:=6) (fun q hq=>(Md.2 q hq).2) (by omega)
   have aHf:=vD (dN row) q
   have c1:=tR (dN row) q (by omega) (by omega)
   have c2:=tR (dN row+q) r (by omega) (by omega)
   have Jl:=iS hR
   simp only[xR,g0,g2,g4,g7,g8,g9,g10,g11,Eo,ck ZE,f1 ZE,l1 ZE,a1,aqP,dR,VX,Nat.reduceEqDiff,Nat.reduceAdd,Nat.reduceLeDiff,Nat.reduceLT,Nat.reduceSub]
   refine sA rfl (EP (v:=aC aN row) row (B:=665) (Rd.tree jE) (aKE _) (fun q hq=>(Md.2 q hq).2) (by omega) (by decide) (by omega)) fun y L hy => ?_
   subst hy
   have hp3:=F1 (L:=L) hp2
   have hs3:=eV (L:=L) ZE
   have hR3:Rw aN H1.length x.1.length x.1.length (fun j => -gE x.2.1 i j) (H2++L):=eV hR
   have hM3:=hM.pre hp3
   have hl3:H2.length≤(H2++L).length:=by rw[aKP];omega
   generalize H2++L=H3 at *
   have r1:=hR3.addr (c:=x.1.length) vA
   obtain⟨H4,s1,hH4⟩:∃H4,bL lo 3 (.ptr H1.length x.1.length i 0) (aN (dN row+q+r)) H3=some H4∧H4=H3.set H1.length (.row x.1.length ((vec x.1.length (zL (fun j => -gE x.2.1 i j) i (dN row+q+r))).map aN) 3 true):=by
    have s:=dP (lo:=lo) (f:=aN) (x:=dN row+q+r) (j:=i) hR3 (by rw[jK];exact vA) (by omega) rfl rfl
    rw[NB] at s
    exact⟨_,s,rfl⟩
   have hR4:aG H4 H1.length x.1.length=some ((vec x.1.length (zL (fun j => -gE x.2.1 i j) i (dN row+q+r))).map aN,3,true):=by rw[hH4];exact bQ hR3
   have hp4:H <+: H4:=by rw[hH4];exact lX (hp.trans hp3) Dx
   have hM4:MG aN 3 H.length H1.length H.length i H4 rs:=by rw[hH4];exact hM3.dB (jQ.set (.inr (aKE _)))
   obtain⟨p,p1,p2⟩:=hv.get H4 hp4 i (bb i) (wW vA)
   have p2:=(p2 true).trans (cI _)
   have eL:∀H,mV false [.bool false,.slice none 0 0,.slice none 0 0] 1 [(0,aN (bb i))] H=some (.tree [aN (bb i)] (.cl 3),H):=fun H=>iU rfl rfl rfl
   have eS:∀H,cW 3 (.tree [aN (bb i)] (.cl 3)) H=some [aN (bb i)]:=fun H=>eU rfl rfl
   have eP:=FJ (lo:=lo) (bytes:=56) (x:=bb i) hR4 (by rw[jK]) (by omega) (by decide) (by decide) (by omega)
   have hR5:=bQ (g:=x.1.length+1) (es:=(vec x.1.length (zL (fun j => -gE x.2.1 i j) i (dN row+q+r))++[bb i]).map aN) (e:=3) (w:=true) hR4
   have hM5:=hM4.dB (H':=H4.set H1.length (.row (x.1.length+1) ((vec x.1.length (zL (fun j => -gE x.2.1 i j) i (dN row+q+r))++[bb i]).map aN) 3 true)) (jQ.set (.inr (aKE _)))
   have hp5:=lX (x := .row (x.1.length+1) ((vec x.1.length (zL (fun j => -gE x.2.1 i j) i (dN row+q+r))++[bb i]).map aN) 3 true) hp4 Dx
   have hel:(vec x.1.length (zL (fun j => -gE x.2.1 i j) i (dN row+q+r))++[bb i]).length=x.1.length+1:=by rw[aKP,jK];rfl
   obtain⟨ap,hM6⟩:=hM5.snoc (fW:=lo) BZ.symm dS (by omega) ⟨H1.length,x.1.length+1,x.1.length+1,vec x.1.length (zL (fun j => -gE x.2.1 i j) i (dN row+q+r))++[bb i]⟩ (aKE _) (by simp only[hel];exact aKE _) hR5
   simp only[hel] at ap
   have eL1:∀K,mV false [.slice none 0 0] 1 [(0,.ref H1.length (x.1.length+1) 0 (x.1.length+1) (x.1.length+1))] K=some (.tree [.ref H1.length (x.1.length+1) 0 (x.1.length+1) (x.1.length+1)] (.cl 1),K):=fun K=>iU rfl rfl rfl
   have eS1:∀K,cW 1 (.tree [.ref H1.length (x.1.length+1) 0 (x.1.length+1) (x.1.length+1)] (.cl 1)) K=some [.ref H1.length (x.1.length+1) 0 (x.1.length+1) (x.1.length+1)]:=fun K=>eU rfl rfl
   simp only[g0,g2,g4,g8,g9,g10,ck hs3,f2 hs3,l2 hs3,a3,cI,lr,c1,c2,r1,s1,p1,p2,eL,eS,eP,eL1,eS1,ap,wn i hi,dR,VX,Nat.reduceEqDiff,Nat.reduceAdd,Nat.reduceLeDiff,Nat.reduceLT,Nat.reduceSub]
   refine⟨i+1,by omega,by omega,lX hp5 (aKE _),⟨_,by rw[aKP,BZ];rfl,?_,hM6.wide (aKE _) (by simp)⟩,by (repeat' apply aMk)<;>first | rfl | trivial | assumption⟩
   have xQ:(Qr x.1.length (x.1.length+1) (Hx (Qs x r) bb x.1.length))[i]? = some (vec x.1.length (zL (fun j => -gE x.2.1 i j) i (dN row+q+r))++[bb i]):=by
    rw[Ns vA,CS,Zo hx,if_neg (Nat.lt_irrefl _)]
    refine congrArg some (congrArg (· ++ [bb i]) (vB fun j hj => ?_))
    rw[Zo hx,if_pos hj,Xz,he]
   rw[sP xQ,List.map_append,hrs]
   rfl
 ·have mH:i=x.1.length:=by omega
  subst mH
  rw[List.take_of_length_le (by rw[Cb];exact aKE _)] at hrs
  simp only[yH,g7,g8,g9,bW,dR,VX,Nat.reduceEqDiff,Nat.reduceAdd,Nat.reduceLeDiff,Nat.reduceLT,Nat.reduceSub]
  refine fU rfl ((M5 (lo:=lo) (fW:=H.length) (hi:=H1.length) (c:=x.1.length) ⟨rs,hM,hrs⟩ (hx.dgs hK h0 hr hX) hXs (by omega) (hx.small hK) hη dS (aKF dS hp.length_le) (aKE _)).mono ?_)
  rintro _ H' ⟨u,rfl,h1,h2,h3⟩
  simp only[dR,VX,Nat.reduceEqDiff,Nat.reduceAdd,Nat.reduceLeDiff,Nat.reduceLT,Nat.reduceSub]
  obtain⟨b,g,c,k1,k2,k3,k4,k5⟩:=h2
  exact⟨aKF hp.length_le h1,fun b g y hy=>h3 _ _ _ (.inl (iS hy)) (cJ hp hy),b,g,c,aKF hp.length_le k1,k2,k3,k4,k5⟩
end
end Go.PM
namespace Go.PM
open Go.Lib
theorem fL.times {n:Nat} {A:Nat→Nat→Rat} {b X:Nat→Rat} (h:fL n A b X) (q:Rat):fL n A (fun i=>q*b i) fun i=>q*X i:=fun i hi=>by
 show Sg (fun j=>A i j*(q*X j)) n=q*b i
 rw[←h i hi,←IF]
 exact iI fun j _=>by grind
section
variable {x:FP} (hx:nN x)
include hx
set_option maxHeartbeats 4000000 in
set_option maxRecDepth 20000 in
theorem MT {lo sb B:Nat} {H:aA} {w:Bool} {v:VV} {X:Nat→Rat} (hs:aG H sb 0=some ([Ed x],3,w)) (hv:Rd aN 3 (vec x.1.length X) H v) (hX:∀i,i<x.1.length→aL (X i)≤B) (hB:B≤10000000000) (dS:lo≤H.length) :
  jD 113 [.ptr sb 0 0 0,v] lo H (Sa (fun _ _ _ r=>r=aN (rZ x.1 X x.1.length)) H):=by
 refine jD.walk ⟨true,false⟩ MW (aMs rfl) ?_
 have hn:=hx.n
 have ck:∀ {K},aG K sb 0=some ([Ed x],3,w)→MV (.ptr sb 0 0 0) K=some (.ptr sb 0 0 0):=fun h=>by rw[MV,h];rfl
 have f0:∀ {K},aG K sb 0=some ([Ed x],3,w)→yP 0 (.ptr sb 0 0 0) K=some (.ptr sb 0 0 0):=fun h=>by rw[FF h]
 have l0:∀ {K},aG K sb 0=some ([Ed x],3,w)→bF false 1 (.ptr sb 0 0 0) K=some (aC aN x.1):=fun h=>by rw[bK,h];rfl
 have e1:=BJ
 have s0:bL lo 3 (.ptr (H.length+1) 0 0 0) (aN 0) (H++[cell0,cell0])=some (H++[cell0,.row 0 [aN 0] 3 true]):=amU dS rfl
 have r4:aG (H++[cell0,.row 0 [aN 0] 3 true]) H.length 0=some ([VV.agg [VB false,.tree [] .nil,.tree [] .nil]],3,true):=by
  rw[cB,aKW (by omega),aKX]
  rfl
 have r5:aG (H++[cell0,.row 0 [aN 0] 3 true]) (H.length+1) 0=some ([aN 0],3,true):=by
  rw[cB,aKW (by omega),aMv]
  rfl
 simp only[HI,EX,e1,s0,aMq,aL4,aLW,aKP,aKO,aMh,aMc,dR,VX,Nat.reduceEqDiff,Nat.reduceAdd,Nat.reduceLeDiff,Nat.reduceLT,Nat.reduceSub]
 refine aP (fun(i:Nat) ρ H1=>i≤x.1.length∧H <+: H1∧aG H1 H.length 0=some ([VV.agg [VB false,.tree [] .nil,.tree [] .nil]],3,true)∧aG H1 (H.length+1) 0=some ([aN (rZ x.1 X i)],3,true)∧ρ 0 = .ptr sb 0 0 0∧ρ 1=v∧ρ 4 = .ptr H.length 0 0 0∧ρ 5 = .ptr (H.length+1) 0 0 0∧ρ 6=VI i) (fun i=>x.1.length-i) 0
  ⟨aK8 _,aMy _ _,r4,r5,by (repeat' apply aMk)<;>first | rfl | trivial | assumption⟩ ?_
 clear r4 r5 s0
 rintro i ρ H1 ⟨hi,hp,r4,r5,g0,g1,g4,g5,g6⟩
 have Dx:=iS r5
 have Fv:=cJ hp hs
 have el:=hv.len H1 hp
 rw[jK] at el
 have l5:bF true 3 (.ptr (H.length+1) 0 0 0) H1=some (aN (rZ x.1 X i)):=by rw[bK,r5];exact cI _
 have A2:∀m,m≤x.1.length→aL (rZ x.1 X m)≤6*(B+667)+1:=fun m hm=>by
  have h1:=Vm (f:=fun i=>x.1.getD i 0*X i) (B:=665+B) (n:=x.1.length) (fun i hi=>by
   have h2:=jA (x.1.getD i 0) (X i)
   have h3:=hX i hi
   have h4:aL (x.1.getD i 0)≤665:=CV (P:=fun q=>aL q≤665) hx.wb rz0 i
   omega) m hm
  have h2:m*(665+B+1)≤6*(665+B+1):=aK5 _ (by omega)
  unfold rZ
  omega
 by_cases bW:(i:Int)<(x.1.length:Int)
 ·obtain⟨q,hq⟩:∃q,x.1[i]? = some q:=⟨_,aKL (by omega)⟩
  have hqm:=hx.wb q (aLy hq)
  have hqd:x.1.getD i 0=q:=by rw[aKB,hq];rfl
  have a1:=fun H=>aH (f:=aN) (t := .op) (H:=H) (size:=3) (k := .i64) hq rfl
  obtain⟨p,a2,a3⟩:=hv.get _ hp i (X i) (wW (by omega))
  have a3':=(a3 true).trans (cI _)
  have wi:IntKind.i64.wrap ((i:Int)+1)=((i+1:Nat):Int):=wN _ (by omega) (by omega)
  have hXi:=hX i (by omega)
  have em:=Ad q (X i) (by omega) (by omega)
  have bm:=jA q (X i)
  have bo:=A2 i (by omega)
  have ea:=tR (rZ x.1 X i) (q*X i) (by omega) (by omega)
  have vL:rZ x.1 X i+q*X i=rZ x.1 X (i+1):=by unfold rZ;rw[Sg,hqd]
  rw[vL] at ea
  have s5:=bS (lo:=lo) (v:=aN (rZ x.1 X (i+1))) (j:=0) r5 (by exact aNW) (by omega) (jE _) (pV _)
  rw[aMi] at s5
  simp only[yR,g0,g1,g5,g6,el,bW,a1,a2,a3',l5,em,ea,s5,wi,cI,ck Fv,f0 Fv,l0 Fv,dR,VX,Nat.reduceEqDiff,Nat.reduceAdd,Nat.reduceLeDiff,Nat.reduceLT,Nat.reduceSub]
  exact⟨i+1,by omega,by omega,lX hp (by omega),aX (by omega) r4,bQ r5,by (repeat' apply aMk)<;>first | rfl | trivial | assumption⟩
 ·have mH:i=x.1.length:=by omega
  subst mH
  have s4:=bS (lo:=lo) (v:=aN (rZ x.1 X x.1.length)) (j:=0) r4 (by exact aNW) dS (jE _) (pV _)
  rw[aMi] at s4
  have l4:bF true 3 (.ptr H.length 0 0 0) (H1.set H.length (.row 0 [aN (rZ x.1 X x.1.length)] 3 true))=some (aN (rZ x.1 X x.1.length)):=by rw[bK,bQ r4];exact cI _
  simp only[yR,g1,g4,g5,g6,el,bW,l5,s4,l4,dR,VX,Nat.reduceEqDiff,Nat.reduceAdd,Nat.reduceLeDiff,Nat.reduceLT,Nat.reduceSub]
  exact⟨lX hp (aKE _),rfl⟩
set_option maxHeartbeats 8000000 in
set_option maxRecDepth 20000 in
theorem Lm {lo sb:Nat} {H:aA} {w:Bool} (k:Nat) (hk:k≤6) (hs:aG H sb 0=some ([Ed x],3,w)) (dS:lo≤H.length) :
  jD 122 [.ptr sb 0 0 0,VI k] lo H (Tr (fun _ _ _ r=>r=aN (C5 x k)) H):=by
 refine jD.walk ⟨true,false⟩ K6 (aMs rfl) ?_
 have hn:=hx.n
 obtain⟨γ,Zc⟩:∃γ,γ=132000000:=⟨132000000,rfl⟩
 obtain⟨K,hK⟩:∃K,K=43:=⟨43,rfl⟩
 have ck:∀ {K},aG K sb 0=some ([Ed x],3,w)→MV (.ptr sb 0 0 0) K=some (.ptr sb 0 0 0):=fun h=>by rw[MV,h];rfl
 have f0:∀ {K},aG K sb 0=some ([Ed x],3,w)→yP 0 (.ptr sb 0 0 0) K=some (.ptr sb 0 0 0):=fun h=>by rw[FF h]
 have l0:∀ {K},aG K sb 0=some ([Ed x],3,w)→bF false 1 (.ptr sb 0 0 0) K=some (aC aN x.1):=fun h=>by rw[bK,h];rfl
 have e3:∀K,mV false [.bool false,.slice none 0 0,.slice none 0 0] 0 [] K=some (.ref K.length 0 0 0 0,K++[.row 0 [] 3 true]):=fun K=>mX rfl
 have eo:=HU
 have ez:=BJ
 have r4:aG (H++[cell0,.row 0 [] 3 true]) H.length 0=some ([VV.agg [VB false,.tree [] .nil,.tree [] .nil]],3,true):=by
  rw[cB,aKW (by omega),aKX]
  rfl
 have r5:aG (H++[cell0,.row 0 [] 3 true]) (H.length+1) 0=some ([],3,true):=by
  rw[cB,aKW (by omega),aMv]
  rfl
 have wn:∀k:Nat,k≤10→IntKind.i64.wrap ((k:Int)+1)=((k+1:Nat):Int):=fun k hk=>wN _ (by omega) (by omega)
 simp only[FG,C9,e3,aMq,aL4,aLW,aKP,aKO,aMh,aMc,dR,VX,Nat.reduceEqDiff,Nat.reduceAdd,Nat.reduceLeDiff,Nat.reduceLT,Nat.reduceSub]
 refine aP (fun(i:Nat) ρ H1=>i≤x.1.length∧H <+: H1∧aG H1 H.length 0=some ([VV.agg [VB false,.tree [] .nil,.tree [] .nil]],3,true)∧aG H1 (H.length+1) i=some ((vec i fun _=>(1:Rat)).map aN,3,true)∧ρ 0 = .ptr sb 0 0 0∧ρ 1=VI k∧ρ 4 = .ptr H.length 0 0 0∧ρ 5 = .ref (H.length+1) i 0 i i∧ρ 6=VI i) (fun i=>x.1.length-i) 0
  ⟨aK8 _,aMy _ _,r4,r5,by (repeat' apply aMk)<;>first | rfl | trivial | assumption⟩ ?_
 clear r4 r5
 rintro i ρ H1 ⟨hi,hp,r4,r5,g0,g1,g4,g5,g6⟩
 have Dx:=iS r5
 have Fv:=cJ hp hs
 by_cases bW:(i:Int)<(x.1.length:Int)
 ·have eL:∀H,mV false [.bool false,.slice none 0 0,.slice none 0 0] 1 [(0,aN 1)] H=some (.tree [aN 1] (.cl 3),H):=fun H=>iU rfl rfl rfl
  have eS:∀H,cW 3 (.tree [aN 1] (.cl 3)) H=some [aN 1]:=fun H=>eU rfl rfl
  have eP:=FJ (lo:=lo) (bytes:=56) (x:=1) r5 (by rw[jK]) (by omega) (by decide) (by decide) (by omega)
  simp only[xB,g0,g5,g6,bW,ck Fv,f0 Fv,l0 Fv,aMl,eo,eL,eS,eP,wn i (by omega),dR,VX,Nat.reduceEqDiff,Nat.reduceAdd,Nat.reduceLeDiff,Nat.reduceLT,Nat.reduceSub]
  exact⟨i+1,by omega,by omega,lX hp (by omega),aX (by omega) r4,by rw[CS];exact bQ r5,by (repeat' apply aMk)<;>first | rfl | trivial | assumption⟩
 have mH:i=x.1.length:=by omega
 subst mH
 have hv0:Rd aN 3 (vec x.1.length fun i=>kS 0*xH x 0 i) H1 (.ref (H.length+1) x.1.length 0 x.1.length x.1.length):=by
  rw[show (vec x.1.length fun i=>kS 0*xH x 0 i)=vec x.1.length fun _=>(1:Rat) from vB fun i _=>Rat.one_mul 1]
  exact Rd.row r5 (by rw[jK])
 simp only[xB,g0,g1,g4,g5,g6,bW,ck Fv,f0 Fv,l0 Fv,aMl,dR,VX,Nat.reduceEqDiff,Nat.reduceAdd,Nat.reduceLeDiff,Nat.reduceLT,Nat.reduceSub]
 refine aP (fun(j:Nat) ρ H2=>j≤k∧(H.length+1≤H2.length∧(∀b g y,aG H b g=some y→aG H2 b g=some y))∧aG H2 H.length 0=some ([VV.agg [VB false,.tree [] .nil,.tree [] .nil]],3,true)∧(∃v,ρ 5=v∧Rd aN 3 (vec x.1.length fun i=>kS j*xH x j i) H2 v)∧ρ 0 = .ptr sb 0 0 0∧ρ 1=VI k∧ρ 4 = .ptr H.length 0 0 0∧ρ 7=VI (j+1:Nat)) (fun j=>k-j) 0
  ⟨aK8 _,⟨by omega,fun _ _ _ h=>cJ hp h⟩,r4,⟨.ref (H.length+1) x.1.length 0 x.1.length x.1.length,by (repeat' apply aMk)<;>first | rfl | trivial | assumption,hv0⟩,by (repeat' apply aMk)<;>first | rfl | trivial | assumption⟩ ?_
 clear hv0 r4 r5 g0 g1 g4 g5 g6 Dx Fv bW hi hp
 rintro j ρ H2 ⟨hj,⟨hl,tX⟩,r4,⟨v,g5,hv⟩,g0,g1,g4,g7⟩
 have ZE:=tX _ _ _ hs
 have hXj:=nN.mom Zc hx j
 have bf:=Br j (by omega)
 have aIR:γ*j≤γ*6:=aMD _ (by omega)
 by_cases SQ:((j+1:Nat):Int)≤(k:Int)
 ·have aGh:γ*(j+1)≤γ*6:=aMD _ (by omega)
  simp only[vW,g0,g1,g4,g5,g7,SQ,e3,dR,VX,Nat.reduceEqDiff,Nat.reduceAdd,Nat.reduceLeDiff,Nat.reduceLT,Nat.reduceSub]
  have Zf:H2 <+: H2++[.row 0 [] 3 true]:=aMy _ _
  refine aP (fun(i:Nat) ρ H3=>i≤x.1.length∧H2 <+: H3∧aG H3 H2.length i=some ((vec i fun i=>kS (j+1)*xH x j i).map aN,3,true)∧ρ 0 = .ptr sb 0 0 0∧ρ 1=VI k∧ρ 4 = .ptr H.length 0 0 0∧ρ 5=v∧ρ 7=VI (j+1:Nat)∧ρ 8 = .ref H2.length i 0 i i∧ρ 9=VI i) (fun i=>x.1.length-i) 0
   ⟨aK8 _,Zf,lG,by (repeat' apply aMk)<;>first | rfl | trivial | assumption⟩ ?_
  clear g0 g1 g4 g5 g7 Zf
  rintro i ρ H3 ⟨hi,hp,hR,g0,g1,g4,g5,g7,g8,g9⟩
  have el:=hv.len H3 hp
  rw[jK] at el
  by_cases bW:(i:Int)<(x.1.length:Int)
  ·obtain⟨p,a2,a3⟩:=hv.get _ hp i _ (wW (by omega))
   have a3':=(a3 true).trans (cI _)
   have ei:=CF ((j+1:Nat):Int) (by omega) (by omega)
   have bw:=Gw ((j+1:Nat):Int)
   have bl1:bl (j+1)≤5:=zS (by omega)
   rw[Int.natAbs_natCast] at bw
   have bX:=hXj.bits (i:=i) (by omega)
   have bm:=jA (kS j) (xH x j i)
   have em:=Ad (((j+1:Nat):Int):Rat) (kS j*xH x j i) (by omega) (by omega)
   have vL:(((j+1:Nat):Int):Rat)*(kS j*xH x j i)=kS (j+1)*xH x j i:=by
    show _=kS j*(((j+1:Nat):Int):Rat)*xH x j i
    grind
   rw[vL] at em
   have eL:∀H,mV false [.bool false,.slice none 0 0,.slice none 0 0] 1 [(0,aN (kS (j+1)*xH x j i))] H=some (.tree [aN (kS (j+1)*xH x j i)] (.cl 3),H):=fun H=>iU rfl rfl rfl
   have eS:∀H,cW 3 (.tree [aN (kS (j+1)*xH x j i)] (.cl 3)) H=some [aN (kS (j+1)*xH x j i)]:=fun H=>eU rfl rfl
   have eP:=FJ (lo:=lo) (bytes:=56) (x:=kS (j+1)*xH x j i) hR (by rw[jK]) (by omega) (by decide) (by decide) (by omega)
   simp only[vR,g5,g7,g8,g9,el,bW,ei,a2,a3',em,eL,eS,eP,wn i (by omega),dR,VX,Nat.reduceEqDiff,Nat.reduceAdd,Nat.reduceLeDiff,Nat.reduceLT,Nat.reduceSub]
   exact⟨i+1,by omega,by omega,lX hp (aKE _),by rw[CS];exact bQ hR,by (repeat' apply aMk)<;>first | rfl | trivial | assumption⟩
  ·have mH:i=x.1.length:=by omega
   subst mH
   simp only[vR,g0,g5,g7,g8,g9,el,bW,ez,dR,VX,Nat.reduceEqDiff,Nat.reduceAdd,Nat.reduceLeDiff,Nat.reduceLT,Nat.reduceSub]
   have bf1:=Br (j+1) (by omega)
   have axB:=(hx.O8 j).times (kS (j+1))
   refine Fw rfl (Np hx (lo:=lo) hK Rat.le_refl rz0 (cJ hp ZE) (Rd.row hR (by rw[jK])) axB ((nN.mom Zc hx (j+1)).times bf1) (by omega) (by have:=hp.length_le;omega)) fun r H4 hl4 hk4 hr4 => ?_
   simp only[g7,wn (j+1) (by omega),dR,VX,Nat.reduceEqDiff,Nat.reduceAdd,Nat.reduceLeDiff,Nat.reduceLT,Nat.reduceSub]
   exact⟨j+1,by omega,by omega,⟨by have:=hp.length_le;omega,fun b g y h=>hk4 _ _ _ (cJ hp (tX _ _ _ h))⟩,hk4 _ _ _ (cJ hp r4),⟨r,by (repeat' apply aMk)<;>first | rfl | trivial | assumption,hr4.rd⟩,by (repeat' apply aMk)<;>first | rfl | trivial | assumption⟩
 ·have Tw:j=k:=by omega
  subst Tw
  have hb:∀i,i<x.1.length→aL (kS j*xH x j i)≤2+γ*j+40:=fun i hi=>(hXj.times bf).bits hi
  simp only[vW,g0,g1,g4,g5,g7,SQ,dR,VX,Nat.reduceEqDiff,Nat.reduceAdd,Nat.reduceLeDiff,Nat.reduceLT,Nat.reduceSub]
  refine sA rfl (MT hx ZE hv hb (by omega) (by omega)) fun y L hy => ?_
  subst hy
  have hmul:rZ x.1 (fun i=>kS j*xH x j i) x.1.length=C5 x j:=by
   unfold C5 rZ
   rw[Rat.mul_comm,←IF]
   exact iI fun i _=>by grind
  rw[hmul]
  have s4:=bS (lo:=lo) (v:=aN (C5 x j)) (j:=0) (eV (L:=L) r4) (by exact aNW) dS (jE _) (pV _)
  rw[aMi] at s4
  have l4:bF true 3 (.ptr H.length 0 0 0) ((H2++L).set H.length (.row 0 [aN (C5 x j)] 3 true))=some (aN (C5 x j)):=by rw[bK,bQ (eV r4)];exact cI _
  simp only[g4,s4,l4,dR,VX,Nat.reduceEqDiff,Nat.reduceAdd,Nat.reduceLeDiff,Nat.reduceLT,Nat.reduceSub]
  exact⟨by rw[List.length_set,aKP];omega,fun b g y h=>aX (by have:=iS h;omega) (eV (tX _ _ _ h)),rfl⟩
end
end Go.PM
namespace Go.PM
open Go.Lib
theorem Jw {c:List (List ByteArray)}:∀ {i:Nat} {m:List (List Rat)},iR c i=some m→∀(k:Nat) (r:List Rat),m[k]? = some r→r.getD k 0=0
 | 0,m,h,k,r,hk=>by cases h;cases hk
 |
  i+1,m,h,k,r,hk=>by
  rw[iR] at h
  split at h
  ·rename_i out q h1 h2
   cases h
   obtain⟨l1,_⟩:=tZ h1
   by_cases hki:k<out.length
   ·rw[List.getElem?_append_left hki] at hk
    exact Jw h1 k r hk
   ·rw[aKW (by omega)] at hk
    have hz:k-out.length=0:=by
     have:=(List.getElem?_eq_some_iff.1 hk).1
     simp only[aKO,aMh] at this
     omega
    rw[hz] at hk
    cases hk
    have SB:k=i:=by omega
    subst SB
    exact(J1 h2).2.2.2
  ·cases h
theorem WI {s:vJ} {x:FP} (h:eH s=some x):∀i,gE x.2.1 i i=0:=fun i=>by
 unfold eH at h
 split at h
 ·split at h
  ·split at h
   ·cases hm:iR s.g s.b.length with
    | none=>rw[hm] at h;cases h
    |
     some m =>
     rw[hm] at h
     cases h
     unfold gE
     rw[aKB (l:=m)]
     cases hr:m[i]? with
     | none=>rfl
     | some r=>exact Jw hm i r hr
   ·cases h
  ·cases h
 ·cases h
theorem nN.of {s:vJ} {x:FP} (h:eH s=some x) (he:EW x=true):nN x:=by
 obtain⟨h1,h2,h3,h4,h5,h6,h7⟩:=TR h
 exact⟨h1,h2,h3,h4,h5,h6,h7,WI h,he⟩
def ofV (s:vJ) (val:FP→Rat):VV:=match eH s with
 | some x=>if EW x=true then Bv (val x) else .dW [bD [],VB false]
 | none => .dW [bD [],VB false]
theorem Z9 (s:vJ) (val:FP→Rat):gU (ofV s val)=true:=by
 unfold ofV
 split
 ·split
  ·exact G4 _
  ·rfl
 ·rfl
theorem Vn {s:vJ} {val:FP→Rat} (h:eH s=none):ofV s val = .dW [bD [],VB false]:=by unfold ofV;rw[h]
theorem Zr {s:vJ} {x:FP} {val:FP→Rat} (h:eH s=some x) (he:EW x=false):ofV s val = .dW [bD [],VB false]:=by
 unfold ofV
 simp only[h,he,Bool.false_eq_true,if_false]
theorem amJ {s:vJ} {x:FP} {val:FP→Rat} (h:eH s=some x) (he:EW x=true):ofV s val=Bv (val x):=by
 unfold ofV
 simp only[h,he,if_true]
theorem Kp (s:vJ) (hb:Sx s) (f:Nat) (gB:List VV) (aAI:aO gB=true) (val:FP→Rat) (hf:∀x,nN x→TC f (GF x::gB) (aF (val x))) (hv:∀x,nN x→aL (val x)≤1099511627776):TC 116 [vU s,.xZ f gB] (ofV s val):=by
 refine TC.walk ⟨true,false⟩ Lo rfl (aMs rfl) (Ak (rE _) aAI) (Z9 _ _) ?_
 have e1:=Kn s hb
 have st:∀v,(aB v).length=3→(aB v).all bP=true→bL 0 3 (.ptr 0 0 0 0) v [.row 0 [.agg [.tree [] .nil,.tree [] .nil,.tree [] .nil]] 3 true]=some [.row 0 [v] 3 true]:=fun v h1 h2=>by
  rw[bS (e:=3) aU (by exact aNW) (aKE _) h1 h2]
  rfl
 unfold QC at e1
 cases h:eH s with
 |
  none =>
  rw[Vn h]
  rw[h] at e1
  simp only[sC,oI,nE,jL,e1,st ZQ rfl rfl,if_true,aMh,aLW,aOi,dR,VX,Nat.reduceEqDiff,Nat.reduceAdd,Nat.reduceLeDiff,Nat.reduceLT,Nat.reduceSub]
  exact aJ rfl
 |
  some x =>
  rw[h] at e1
  have ld:bF true 3 (.ptr 0 0 0 0) [.row 0 [GF x] 3 true]=some (GF x):=rfl
  cases he:EW x with
  |
   false =>
   rw[Zr h he]
   simp only[he] at e1
   simp only[sC,oI,nE,jL,e1,st (GF x) rfl rfl,if_true,aMh,aLW,aOi,dR,VX,Nat.reduceEqDiff,Nat.reduceAdd,Nat.reduceLeDiff,Nat.reduceLT,Nat.reduceSub]
   exact aJ rfl
  |
   true =>
   have hx:=nN.of h he
   rw[amJ h he]
   simp only[he] at e1
   have e2:=hf x hx
   have e3:=Uf (val x) (hv x hx)
   unfold Bv at e3 ⊢
   by_cases xE:CW (val x)=true
   ·rw[if_pos xE] at e3
    rw[if_pos xE]
    simp only[sC,oI,nE,jL,e1,e2,e3,st (GF x) rfl rfl,ld,if_true,aMh,aLW,aL4,aOj,dR,VX,Nat.reduceEqDiff,Nat.reduceAdd,Nat.reduceLeDiff,Nat.reduceLT,Nat.reduceSub]
    exact aJ rfl
   ·rw[if_neg xE] at e3
    rw[if_neg xE]
    simp only[sC,oI,nE,jL,e1,e2,e3,st (GF x) rfl rfl,ld,if_true,aMh,aLW,aL4,aOj,dR,VX,Nat.reduceEqDiff,Nat.reduceAdd,Nat.reduceLeDiff,Nat.reduceLT,Nat.reduceSub]
    exact aJ rfl
theorem ayX {x:FP} {K:aA}:bF true 3 (.cG (GF x) 0) K=some (GF x):=rfl
theorem awD {x:FP}:dQ true 3 (GF x) 0=some (GF x):=rfl
theorem arI {x:FP}:(aB (GF x)).all bP=true:=rfl
theorem ahW {q:Rat}:bL 0 3 (.ptr 0 0 0 0) (aF q) [cell0]=some [.row 0 [aF q] 3 true]:=RZ (k:=0) rfl
theorem apZ {q:Rat} {K:aA}:bF true 3 (.ptr 0 0 0 0) (.row 0 [aF q] 3 true::K)=some (aF q):=by
 rw[bK,aU]
 exact bH q
theorem CD {x:FP} (hx:nN x) (k:Nat) (hk:k≤6):TC 123 [GF x,.cG (VI k) 0] (aF (C5 x k)):=by
 refine TC.walk ⟨true,false⟩ Cy rfl (aMs rfl) (Ak (K0 _ _ _) rfl) (pX _) ?_
 have e1:=E3 hx k hk
 have l1:∀K,bF false 1 (.cG (VI k) 0) K=some (VI k):=fun K=>rfl
 simp only[wU,tO,arI,ayX,awD,if_true,l1,e1,ahW,apZ,aMh,aLW,dR,VX,Nat.reduceEqDiff,Nat.reduceAdd,Nat.reduceLeDiff,Nat.reduceLT,Nat.reduceSub]
 exact aJ (fV _)
end Go.PM
namespace Go.PM
open Go.Lib
noncomputable def pN (s:vJ) (n:Int):VV:=if 0≤n∧n≤6 then ofV s fun x=>C5 x n.toNat else .dW [bD [],VB false]
theorem Ml (s:vJ) (n:Int):gU (pN s n)=true:=by
 unfold pN
 split
 ·exact Z9 _ _
 ·rfl
theorem asJ (s:vJ) (val:FP→Rat):∃t ok,ofV s val = .dW [.sc (.string t),VB ok]:=by
 unfold ofV Bv
 split
 ·split
  ·split<;>exact⟨_,_,rfl⟩
  ·exact⟨_,_,rfl⟩
 ·exact⟨_,_,rfl⟩
theorem Eu (s:vJ) (n:Int) (hb:Sx s):TC 50 [vU s,VI n] (pN s n):=by
 refine TC.walk ⟨true,false⟩ DM rfl (aMs rfl) (Ak (rE _) rfl) (Ml _ _) ?_
 have e1:=adD n 0 6
 have l1:∀K,bF false 1 (.cG (VI n) 0) K=some (VI n):=fun K=>rfl
 unfold pN
 by_cases h:0≤n∧n≤6
 ·rw[decide_eq_true h] at e1
  rw[if_pos h]
  obtain⟨k,rfl⟩:∃k:Nat,n=k:=⟨n.toNat,by omega⟩
  simp only[Int.toNat_natCast]
  have e2:=Kp s hb 123 [.cG (VI k) 0] rfl (fun x=>C5 x k) (fun x hx=>CD hx k (by omega)) (fun x hx=>aKF (hx.Kg (by omega)) (by decide))
  obtain⟨t,ok,ht⟩:=asJ s fun x=>C5 x k
  rw[ht] at e2 ⊢
  simp only[rD,oY,nE,jL,l1,e1,e2,if_true,aOj,dR,VX,Nat.reduceEqDiff,Nat.reduceAdd,Nat.reduceLeDiff,Nat.reduceLT,Nat.reduceSub]
  exact aJ rfl
 ·rw[decide_eq_false h] at e1
  rw[if_neg h]
  simp only[rD,oY,nE,jL,l1,e1,if_true,aOi,dR,VX,Nat.reduceEqDiff,Nat.reduceAdd,Nat.reduceLeDiff,Nat.reduceLT,Nat.reduceSub]
  exact aJ rfl
end Go.PM
namespace Go.PM
open Go.Lib
end Go.PM
namespace Go.PM
open Go.Lib
theorem Uv {v:VV} (h1:(aB v).length=3) (h2:(aB v).all bP=true):bL 0 3 (.ptr 0 0 0 0) v [kQ]=some [.row 0 [v] 3 true]:=by
 rw[bS (e:=3) aU (by exact aNW) (aKE _) h1 h2]
 rfl
theorem aqB {x:FP}:bL 0 3 (.ptr 0 0 0 0) (Ed x) [kQ]=some [.row 0 [Ed x] 3 true]:=Uv (v:=Ed x) rfl rfl
theorem noC {g:List (List Rat)}:bL 0 3 (.ptr 0 0 0 0) (.agg [.tree [] .op,aC (aC aN) g,.tree [] .op]) [kQ]=some [.row 0 [.agg [.tree [] .op,aC (aC aN) g,.tree [] .op]] 3 true]:=Uv (v := .agg [.tree [] .op,aC (aC aN) g,.tree [] .op]) rfl rfl
set_option maxHeartbeats 1000000 in
theorem Es (s:vJ) (n:Int) (hb:Sx s):TC 49 [vU s,VI n] (pN s n):=by
 refine TC.walk ⟨true,false⟩ Eb rfl (aMs rfl) (Ak (rE _) rfl) (Ml _ _) ?_
 have e1:=MQ s hb
 have ei:=SU n 0 6
 unfold M7 at e1
 have bad:(∀x,eH s=some x→EW x=false)→pN s n = .dW [bD [],VB false]:=fun h=>by
  unfold pN
  split
  ·cases hr:eH s with
   | none=>exact Vn hr
   | some x=>exact Zr hr (h x hr)
  ·rfl
 cases h:eH s with
 |
  none =>
  rw[bad (fun x hx=>by rw[h] at hx;cases hx)]
  rw[h] at e1
  simp only at e1
  simp only[jX,iJ,nE,jL,e1,aqB,noC,if_true,aMh,aLW,aOi,dR,VX,Nat.reduceEqDiff,Nat.reduceAdd,Nat.reduceLeDiff,Nat.reduceLT,Nat.reduceSub]
  exact aJ rfl
 |
  some x =>
  rw[h] at e1
  simp only at e1
  cases he:EW x with
  |
   false =>
   rw[bad (fun y hy=>by rw[h] at hy;cases hy;exact he)]
   rw[he] at e1
   simp only[jX,iJ,nE,jL,e1,aqB,noC,if_true,aMh,aLW,aOi,dR,VX,Nat.reduceEqDiff,Nat.reduceAdd,Nat.reduceLeDiff,Nat.reduceLT,Nat.reduceSub]
   exact aJ rfl
  |
   true =>
   rw[he] at e1
   have hx:=nN.of h he
   by_cases hn:0≤n∧n≤6
   ·rw[decide_eq_true hn] at ei
    have hv:pN s n=Bv (C5 x n.toNat):=by
     unfold pN
     rw[if_pos hn]
     exact amJ h he
    rw[hv]
    obtain⟨k,rfl⟩:∃k:Nat,n=k:=⟨n.toNat,by omega⟩
    simp only[Int.toNat_natCast]
    simp only[jX,iJ,nE,jL,e1,ei,aqB,noC,if_true,aMh,aLW,aOj,dR,VX,Nat.reduceEqDiff,Nat.reduceAdd,Nat.reduceLeDiff,Nat.reduceLT,Nat.reduceSub]
    refine Fw rfl (Lm (w:=true) hx k (by omega) rfl (aK8 _)) fun r H1 _ _ hr => ?_
    subst hr
    have e3:=OU (C5 x k) (aKF (hx.Kg (by omega)) (by decide))
    obtain⟨t,ok,ht⟩:=Sd (C5 x k)
    rw[ht] at e3 ⊢
    simp only[e3,dR,VX,Nat.reduceEqDiff,Nat.reduceAdd,Nat.reduceLeDiff,Nat.reduceLT,Nat.reduceSub]
    exact aJ rfl
   ·rw[decide_eq_false hn] at ei
    have hv:pN s n = .dW [bD [],VB false]:=by
     unfold pN
     rw[if_neg hn]
    rw[hv]
    simp only[jX,iJ,nE,jL,e1,ei,aqB,noC,if_true,aMh,aLW,aOj,aOi,dR,VX,Nat.reduceEqDiff,Nat.reduceAdd,Nat.reduceLeDiff,Nat.reduceLT,Nat.reduceSub]
    exact aJ rfl
end Go.PM
namespace Go.PM
open Go.Lib
theorem aiP (s:vJ) (val:FP→Rat):∃t k,ofV s val = .dW [bD t,VB k]:=by
 unfold ofV
 split
 ·split
  ·exact Sd _
  ·exact⟨_,_,rfl⟩
 ·exact⟨_,_,rfl⟩
theorem V5 (s:vJ) (n:Int):∃t k,pN s n = .dW [bD t,VB k]:=by
 unfold pN
 split
 ·exact aiP _ _
 ·exact⟨_,_,rfl⟩
end Go.PM
namespace Go.PM
def jU:aE:=(LS [LO 2 (.box (LT 0)),LO 4 (.mv LF)] (LS [LO 5 (.mv (LI 1000000))] (LS [LO 13 (LK 2),LM 14 5,LO 15 (.call 44 [(LT 13),(LT 14)]),LM 5 15] (.seq (LS [LM 16 5,LO 17 (.bin .lss (LT 16) (LI 0))] (.cond (LT 17) (LS [LO 4 (.mv LG)] .ret) .skip)) (LS [LO 19 (LK 2),LO 20 (.call 46 [(LT 19),LF]),LM 21 1,LO 22 (.call 49 [(LT 20),(LT 21)]),LM 18 22,LO 23 (LX 18 0),LO 24 (LX 18 1),LM 6 23,LM 7 24] (LS [LO 25 (LK 2),LO 26 (.call 46 [(LT 25),LF]),LO 8 (.new [(.slice none 0 0),(.slice none 0 0),(.slice none 0 0)]),LN (.store 3 (LT 8) (LT 26))] (LS [LO 28 (LK 8),LM 29 1,LO 30 (.call 50 [(LT 28),(LT 29)]),LM 27 30,LO 31 (LX 27 0),LO 32 (LX 27 1),LM 9 31,LM 10 32] (.seq (LS [LM 33 9,LM 34 6,LO 35 (.bin .neq (LT 33) (LT 34)),LM 36 35,LZ 36 37 (.mv (LT 10)),LZ 36 38 (.mv (LT 7)),LZ 36 39 (.eqb true (LT 37) (LT 38)),LO 40 (.pick (LT 36) LG (LT 39))] (.cond (LT 40) (LS [LO 4 (.mv LF)] .ret) .skip)) (.seq (LS [LO 41 (LK 8),LO 42 (LK 2),LQ 43 (.call 46 [(LT 42),LF]),LQ 44 (.call 48 [(LT 41),(LT 43)]),LO 45 (.un .not (LT 44))] (.cond (LT 45) (LS [LO 4 (.mv LF)] .ret) .skip)) (LS [LO 47 (LK 2),LO 48 (.call 46 [(LT 47),LG]),LM 49 1,LO 50 (.call 50 [(LT 48),(LT 49)]),LM 46 50,LO 51 (LX 46 0),LO 52 (LX 46 1),LM 11 51,LM 12 52] (.seq (LS [LM 53 11,LM 54 6,LO 55 (.bin .neq (LT 53) (LT 54)),LM 56 55,LZ 56 57 (.mv (LT 12)),LZ 56 58 (.mv (LT 7)),LZ 56 59 (.eqb true (LT 57) (LT 58)),LO 60 (.pick (LT 56) LG (LT 59))] (.cond (LT 60) (LS [LO 4 (.mv LF)] .ret) .skip)) (LS [LO 4 (.mv LG)] .ret))))))))))))
def lA:aT:=⟨61,[(.tmp 4)],jU⟩
theorem zK:fP 11=some lA:=by kernel_rfl
end Go.PM
namespace Go.PM
theorem TN {f lo:Nat} {args mF:List VV} {r:VV} {H:aA} {K:VV→aA→Prop} (h:TC f mF r) (CO:Gi.contains f=false) (ha':aO mF=true) (hf:args.mapM (fz depth H)=some mF) (hr:Jh r=true) (hk:K r H):dH f args lo H K:=by
 rw[h.flat CO ha' hf hr]
 exact hk
theorem JB (l:List UInt8):dK .neq (.string ⟨l.toArray⟩) (.string ⟨l.toArray⟩)=some (.bool false):=by rw[TD];simp
theorem VD (b:Bool):OO true (Value.bool b) (Value.bool b)=some (.bool false):=by cases b<;>rfl
end Go.PM
namespace Go.PM
set_option maxHeartbeats 2000000 in
theorem zI (s0:vJ) (t1:Int) (RH:arJ s0):TC 11 [vU s0,VI t1] (.sc (.bool true)):=by
 refine TC.walk ⟨true,false⟩ zK rfl (aMs rfl) (Ak (rE _) rfl) rfl ?_
 have adN:=Kz s0 (1000000) RH (by omega)
 change TC _ _ (VI (Om s0 (1000000))) at adN
 by_cases aCp:Om s0 (1000000)<0
 ·rw[aqI aCp] at adN
  simp only[lA,jU,nE,jL,adN,Int.reduceNeg,Int.reduceLT,VX,Nat.reduceEqDiff,Nat.reduceAdd]
  exact aJ rfl
 have aAW:=atE (s:=s0) (l:=1000000) (by omega) (by omega)
 have aH5:=aAW.1
 have Qn:Sx s0:=aAW.2
 have hg0:=Qn.g9
 have hi0:=Qn.g4
 have Zf:=Qn.b4
 have Kk:=Qn.e4
 simp only[lA,jU,nE,jL,adN,aCp,VX,Nat.reduceEqDiff,Nat.reduceAdd]
 have cs:TC _ [vU s0,VI t1] (pN s0 t1):=Es s0 t1 Qn
 have ci:TC _ [vU s0,VI t1] (pN s0 t1):=Eu s0 t1 Qn
 obtain⟨s,k,hsk⟩:=V5 s0 t1
 rw[hsk] at cs ci
 have pa:aO [vU s0,VI t1]=true:=Ak (rE _) rfl
 refine Y6 (by have:=Zf;omega) hg0 (by have:=Kk;omega) fun r1 H1 p1 s1' => ?_
 simp only[nE,jL,VX,Nat.reduceEqDiff,Nat.reduceAdd]
 refine TN cs rfl pa (fz2 (s1'.pre (aOo _)).fz (aJ rfl)) rfl ?_
 simp only[nE,jL,VX,Nat.reduceEqDiff,Nat.reduceAdd]
 refine Y6 (by have:=Zf;omega) hg0 (by have:=Kk;omega) fun r2 H2 p2 s2' => ?_
 have w2:=aDB (lo:=0) s2' (aK8 _)
 simp only[nE,jL,w2,sI,VX,Nat.reduceEqDiff,Nat.reduceAdd]
 have p3:=aMy H2 [.row 0 [r2] 3 true]
 have q2:aG (H2++[.row 0 [r2] 3 true]) H2.length 0=some ([r2],3,true):=lG
 generalize eh3:H2++[.row 0 [r2] 3 true]=H3 at *
 simp only[nE,jL,ld3 s2' (cJ (aOo _) q2),VX,Nat.reduceEqDiff,Nat.reduceAdd]
 refine TN ci rfl pa (fz2 (s2'.pre p3).fz (aJ rfl)) rfl ?_
 simp only[nE,jL,JB,VD,ld3 s2' (cJ (aOo _) q2),VX,Nat.reduceEqDiff,Nat.reduceAdd]
 refine Y6 (by have:=Zf;omega) hg0 (by have:=Kk;omega) fun r4 H4 p4 s4' => ?_
 simp only[nE,jL,ld3 s2' (cJ p4 q2),VX,Nat.reduceEqDiff,Nat.reduceAdd]
 refine Gp s0 Zf hi0 Kk (s2'.pre (p3.trans p4)) s4' ?_
 simp only[nE,jL,ld3 s2' (cJ p4 q2),VX,Nat.reduceEqDiff,Nat.reduceAdd]
 refine Y6 (by have:=Zf;omega) hg0 (by have:=Kk;omega) fun r5 H5 p5 s5' => ?_
 simp only[nE,jL,VX,Nat.reduceEqDiff,Nat.reduceAdd]
 refine TN ci rfl pa (fz2 (s5'.pre (aOo _)).fz (aJ rfl)) rfl ?_
 simp only[nE,jL,JB,VD,VX,Nat.reduceEqDiff,Nat.reduceAdd]
 exact aJ rfl
end Go.PM
namespace Go.PM
open Go.Proofs
theorem HX {P:Program} {w:World} {name:String} {d:DataW Unit}:∀ {l:List (String×DataW Unit)} {ps:List MemPlace},DataW.LaidVars P w l ps→(name,d)∈l →
  ∃g t cs fuel p,P.globalNamed name=some g∧(P.globals[g]?).map (·.type)=some t∧w.var? P name=some cs∧DataW.trod (fun _=>()) P w 0 (fun _=>true) false fuel t cs.toList=some (d,p)
 | [],_,_,hm=>by cases hm
 |
  (n,e)::r,ps,h,hm=>by
  obtain⟨g,t,cs,fuel,p,q,h1,h2,h3,h4,h5,_⟩:=h
  rcases List.mem_cons.1 hm with he | hm
  ·cases he
   exact⟨g,t,cs,fuel,p,h1,h2,h3,h4⟩
  ·exact HX h5 hm
theorem P4 {W:World} {l:List (String×DataW Unit)} (hl:laidMetH Tryz.prog l W) (hp:(l.all fun x=>x.2.handleName?.isNone)=true) (hm:("internal/strconv.uint64pow10",Lib.tabData .u64 Lib.pow10Tab)∈l)
  {t e:TypeId} {n:Nat} (hty:(Tryz.prog.globals[3]?).map (·.type)=some t) (ht:Tryz.prog.underlying t=some (.array n e)) (he:Tryz.prog.underlying e=some (.int .u64)) (hce:Tryz.prog.cellsOf e=1) (hct:Tryz.prog.cellsOf t=n):SL W:=by
 rw[MakeChecks.laidMetH_plain _ _ _ hp] at hl
 obtain⟨ps,h1,_⟩:=hl
 obtain⟨g',t',cs,fuel,p,hg',ht',ahR,hd⟩:=HX h1 hm
 have hg:Tryz.prog.globalNamed "internal/strconv.uint64pow10"=some 3:=by kernel_rfl
 obtain rfl:=Option.some.inj (hg.symm.trans hg')
 obtain rfl:=Option.some.inj (hty.symm.trans ht')
 have OR:=Lib.cells_of_tab ht he hce hct hd
 intro x hx
 have I4:x=(3,(Lib.pow10Tab.map fun z=>Value.int .u64 z).toArray):=by simpa[asB] using hx
 subst I4
 unfold World.var? at ahR
 rw[hg,Option.bind_some] at ahR
 split at ahR
 ·rename_i Cx e' fz' hh
  cases ahR
  refine⟨e',fz',?_⟩
  rw[←OR]
  simpa using hh
 ·cases ahR
end Go.PM