/- Texts of a claim, in one: part 15. -/
import Derived.KernelRfl
import Derived.Lib.LaidTab
import Derived.LaidLaws
import Derived.LaidMore
import Derived.MakeChecks
import Derived.Handed
import Derived.Test.YtjmflicajplclaaGreatDoorKBn
open And renaming intro → aMh
open Bool renaming not_false → aOf,not_true → aOg
open List renaming append_assoc → aMn,cons_append → aL1,getD_eq_getElem?_getD → aKy,getElem?_append_right → aKT,getElem?_eq_getElem → aKI,length_append → aKM,length_cons → aKL,length_map → aMi,length_nil → aMe,mem_of_getElem? → aLv,nil_append → aLT,prefix_append → aMv,prefix_refl → aOm,replicate → aLr,set_cons_zero → aMf
open Nat renaming add_sub_cancel_left → aMs,le_of_ble_eq_true → aMp,le_refl → aKB,le_trans → aKC,mul_le_mul_left → aMA,mul_le_mul_right → aK2,not_lt_zero → aLS,sub_self → aKU,zero_add → aL9,zero_le → aK5,zero_lt_one → aNT
open Rat renaming pow_succ → aOl
set_option linter.unusedSimpArgs false
set_option linter.unusedVariables false
namespace Go.PM
open Go.Lib
theorem Ln {k:Nat} {K:aA} {x:VV} {q:Rat} (hK:K[k]? = some (.row 0 [x] 3 true)):bL 0 3 (.ptr k 0 0 0) (aF q) K=some (K.set k (.row 0 [aF q] 3 true)):=by
 have hr:aG K k 0=some ([x],3,true):=by rw[cB];exact hK
 rw[bS (e:=3) hr (by exact aNT) (by omega) (dC q) (fR q)]
 rfl
section
variable {x:EI} (hx:mE x)
include hx
theorem mE.ups {K:Nat} (hK:K=43) {r:Rat} (h0:0≤r) (hr:aK r≤665) {b X:Nat→Rat} (hs:eU x.1.length (Qy x r) b X):X6 x.1.length 0 (K*665+9) (Qy x r) b X :=
 ⟨hx.aqA h0,⟨fun _ _ _ h _=>absurd h (aLS _),fun _ h=>absurd h (aLS _)⟩,hs,hx.scaled hK hr⟩
theorem mE.dgs {K:Nat} (hK:K=43) {r:Rat} (h0:0≤r) (hr:aK r≤665) {b X:Nat→Rat} (hs:eU x.1.length (Qy x r) b X):DgS x.1.length 0 (K*665+9) (Qy x r) b X :=
 ⟨hx.aqA h0,⟨fun _ _ _ h _=>absurd h (aLS _),fun _ h=>absurd h (aLS _)⟩,hs,hx.scaled hK hr⟩
theorem mE.small {K:Nat} (hK:K=43):2^x.1.length*(K*665+9+1)≤68719476736:=by
 have hn:=hx.n
 have e1:2^x.1.length≤2^6:=Nat.pow_le_pow_right (by decide) hn.2
 have e2:2^x.1.length*(K*665+9+1)≤2^6*(K*665+9+1):=aK2 _ e1
 have e3:(2:Nat)^6=64:=by decide
 omega
set_option maxHeartbeats 4000000 in
set_option maxRecDepth 20000 in
theorem Gr {lo B:Nat} {H:aA} {v:VV} {X:Nat→Rat} (hv:Rd aF 3 (vec x.1.length X) H v) (hX:∀i,i<x.1.length→aK (X i)≤B) (hB:B≤10000000000) (dS:lo≤H.length) :
  jH 121 [Fi x,v] lo H (Q3 (fun _ _ _ r=>r=aF (qZ x.1 X x.1.length)) H):=by
 refine jH.walk ⟨true,false⟩ DS (aMp rfl) ?_
 have hn:=hx.n
 have jP:(aB (Fi x)).all bN=true:=rfl
 have l0:∀K,bH false 1 (.cJ (Fi x) 0) K=some (aC aF x.1):=fun K=>rfl
 have e1:TC 64 [VI 0] (aF 0):=kY 0 (by decide) (by decide)
 have s0:bL lo 3 (.ptr (H.length+1) 0 0 0) (aF 0) (H++[cell0,cell0])=some (H++[cell0,.row 0 [aF 0] 3 true]):=by
  have hr:aG (H++[cell0,cell0]) (H.length+1) 0=some ([VV.agg [VB false,.tree [] .nil,.tree [] .nil]],3,true):=by
   rw[cB,aKT (by omega),aMs]
   rfl
  rw[bS (e:=3) hr (by exact aNT) (by omega) (dC _) (fR _),List.set_append_right _ _ (by omega),aMs]
  rfl
 have r4:aG (H++[cell0,.row 0 [aF 0] 3 true]) H.length 0=some ([VV.agg [VB false,.tree [] .nil,.tree [] .nil]],3,true):=by
  rw[cB,aKT (by omega),aKU]
  rfl
 have r5:aG (H++[cell0,.row 0 [aF 0] 3 true]) (H.length+1) 0=some ([aF 0],3,true):=by
  rw[cB,aKT (by omega),aMs]
  rfl
 simp only[Aa,wS,jP,if_true,l0,e1,s0,aMi,aMn,aL1,aLT,aKM,aKL,aMe,aL9,dT,VX,Nat.reduceEqDiff,Nat.reduceAdd,Nat.reduceLeDiff,Nat.reduceLT,Nat.reduceSub]
 refine aP (fun(i:Nat) ρ H1=>i≤x.1.length∧H <+: H1∧aG H1 H.length 0=some ([VV.agg [VB false,.tree [] .nil,.tree [] .nil]],3,true)∧aG H1 (H.length+1) 0=some ([aF (qZ x.1 X i)],3,true)∧ρ 1=v∧ρ 4 = .ptr H.length 0 0 0∧ρ 5 = .ptr (H.length+1) 0 0 0∧ρ 10=aC aF x.1∧ρ 11=VI x.1.length∧ρ 12=VI i) (fun i=>x.1.length-i) 0
  ⟨aK5 _,aMv _ _,r4,r5,by (repeat' apply aMh)<;>first | rfl | trivial | assumption⟩ ?_
 clear r4 r5 s0
 rintro i ρ H1 ⟨hi,hp,r4,r5,g1,g4,g5,g10,g11,g12⟩
 have CU:=iT r5
 have Bm:∀m,m≤x.1.length→aK (qZ x.1 X m)≤6*(B+667)+1:=fun m hm=>by
  have h1:=U6 (f:=fun i=>x.1.getD i 0*X i) (B:=665+B) (n:=x.1.length) (fun i hi=>by
   have h2:=gB (x.1.getD i 0) (X i)
   have h3:=hX i hi
   have h4:aK (x.1.getD i 0)≤665:=BI (P:=fun q=>aK q≤665) hx.wb rz0 i
   omega) m hm
  have h2:m*(665+B+1)≤6*(665+B+1):=aK2 _ (by omega)
  unfold qZ
  omega
 by_cases bZ:(i:Int)<(x.1.length:Int)
 ·obtain⟨q,hq⟩:∃q,x.1[i]? = some q:=⟨_,aKI (by omega)⟩
  have hqm:=hx.wb q (aLv hq)
  have hqd:x.1.getD i 0=q:=by rw[aKy,hq];rfl
  have a1:=fun H=>aI (f:=aF) (t := .op) (H:=H) (size:=3) (k := .i64) hq rfl
  have s1:=JK (lo:=lo) (H:=H1) (q:=q) (by omega)
  have s2:bH true 3 (.ptr H1.length 0 0 0) (H1++[.row 0 [aF q] 3 true])=some (aF q):=Y5 (K:=[])
  obtain⟨p,a2,a3⟩:=hv.get _ (FT (L:=[.row 0 [aF q] 3 true]) hp) i (X i) (wL (by omega))
  have a3':=(a3 true).trans (bF _)
  have r5':=dU (L:=[.row 0 [aF q] 3 true]) r5
  have l5:bH true 3 (.ptr (H.length+1) 0 0 0) (H1++[.row 0 [aF q] 3 true])=some (aF (qZ x.1 X i)):=by rw[bJ,r5'];exact bF _
  have wi:IntKind.i64.wrap ((i:Int)+1)=((i+1:Nat):Int):=wN _ (by omega) (by omega)
  have hXi:=hX i (by omega)
  have em:=jW q (X i) (by omega) (by omega)
  have bm:=gB q (X i)
  have bo:=Bm i (by omega)
  have ea:=nQ (qZ x.1 X i) (q*X i) (by omega) (by omega)
  have wU:qZ x.1 X i+q*X i=qZ x.1 X (i+1):=by unfold qZ;rw[Sg,hqd]
  rw[wU] at ea
  have s5:=bS (lo:=lo) (v:=aF (qZ x.1 X (i+1))) (j:=0) r5' (by exact aNT) (by omega) (dC _) (fR _)
  rw[aMf] at s5
  simp only[oH,g1,g4,g5,g10,g11,g12,bZ,a1,s1,s2,a2,a3',l5,em,ea,s5,wi,bF,dT,VX,Nat.reduceEqDiff,Nat.reduceAdd,Nat.reduceLeDiff,Nat.reduceLT,Nat.reduceSub]
  exact⟨i+1,by omega,by omega,lR (FT hp) (by omega),aZ (by omega) (dU r4),bQ r5',by (repeat' apply aMh)<;>first | rfl | trivial | assumption⟩
 ·have mC:i=x.1.length:=by omega
  subst mC
  have l5:bH true 3 (.ptr (H.length+1) 0 0 0) H1=some (aF (qZ x.1 X x.1.length)):=by rw[bJ,r5];exact bF _
  have s4:=bS (lo:=lo) (v:=aF (qZ x.1 X x.1.length)) (j:=0) r4 (by exact aNT) dS (dC _) (fR _)
  rw[aMf] at s4
  have l4:bH true 3 (.ptr H.length 0 0 0) (H1.set H.length (.row 0 [aF (qZ x.1 X x.1.length)] 3 true))=some (aF (qZ x.1 X x.1.length)):=by rw[bJ,bQ r4];exact bF _
  simp only[oH,g1,g4,g5,g10,g11,g12,bZ,l5,s4,l4,dT,VX,Nat.reduceEqDiff,Nat.reduceAdd,Nat.reduceLeDiff,Nat.reduceLT,Nat.reduceSub]
  exact⟨lR hp (aKB _),rfl⟩
set_option maxHeartbeats 8000000 in
set_option maxRecDepth 20000 in
theorem xO (k:Nat) (hk:k≤6):TC 124 [Fi x,VI k] (aF (cP x k)):=by
 refine TC.walk ⟨true,false⟩ C2 rfl (aMp rfl) (Lw (KJ _ _ _) rfl) (oF _) ?_
 have hn:=hx.n
 obtain⟨γ,Z5⟩:∃γ,γ=132000000:=⟨132000000,rfl⟩
 obtain⟨K,hK⟩:∃K,K=43:=⟨43,rfl⟩
 have jP:(aB (Fi x)).all bN=true:=rfl
 have l0:∀K,bH false 1 (.cJ (Fi x) 0) K=some (aC aF x.1):=fun K=>rfl
 have ls:∀K,bH true 3 (.cJ (Fi x) 0) K=some (Fi x):=fun K=>rfl
 have e1:TC 64 [VI 1] (aF 1):=kY 1 (by decide) (by decide)
 have e0:TC 64 [VI 0] (aF 0):=kY 0 (by decide) (by decide)
 have eL:∀H,mW false [.bool false,.slice none 0 0,.slice none 0 0] 1 [(0,aF 1)] H=some (.tree [aF 1] (.cl 3),H):=fun H=>iY rfl rfl rfl
 simp only[xN,vG,jP,if_true,l0,e1,eL,aMi,aLT,dT,VX,Nat.reduceEqDiff,Nat.reduceAdd,Nat.reduceLeDiff,Nat.reduceLT,Nat.reduceSub]
 refine gC rfl ((Aq 1 x.1.length (by omega) (aKB _)).mono ?_)
 rintro _ _ ⟨rfl,rfl⟩
 have s2:bL 0 3 (.ptr 2 0 0 0) (aF 1) [cell0,.row 0 ((aLr x.1.length (1:Rat)).map aF) 3 true,cell0]=some [cell0,.row 0 ((aLr x.1.length (1:Rat)).map aF) 3 true,.row 0 [aF 1] 3 true]:=Ln (k:=2) rfl
 simp only[e1,s2,aL1,aLT,aKL,aMe,aL9,dT,VX,Nat.reduceEqDiff,Nat.reduceAdd,Nat.reduceLeDiff,Nat.reduceLT,Nat.reduceSub]
 have aF0:VV := .agg [VB false,.tree [] .nil,.tree [] .nil]
 have r1:Rw aF 1 0 x.1.length (sK x 0) [cell0,.row 0 ((aLr x.1.length (1:Rat)).map aF) 3 true,.row 0 [aF 1] 3 true]:=by
  unfold Rw
  rw[KM]
  rfl
 refine aP (fun(j:Nat) ρ H1=>j≤k∧Rw aF 1 0 x.1.length (sK x j) H1∧aG H1 0 0=some ([VV.agg [VB false,.tree [] .nil,.tree [] .nil]],3,true)∧aG H1 2 0=some ([aF (kJ j)],3,true)∧ρ 2 = .cJ (Fi x) 0∧ρ 4 = .ptr 0 0 0 0∧ρ 5 = .ref 1 0 0 x.1.length x.1.length∧ρ 6 = .ptr 2 0 0 0∧ρ 15=VI k∧ρ 16=VI j) (fun j=>k-j) 0
  ⟨aK5 _,r1,rfl,rfl,by (repeat' apply aMh)<;>first | rfl | trivial | assumption⟩ ?_
 clear r1 s2
 rintro j ρ H1 ⟨hj,hR,r0,r2,g2,g4,g5,g6,g15,g16⟩
 have JN:=iT r2
 by_cases Ew:(j:Int)<(k:Int)
 ·have wj:IntKind.i64.wrap ((j:Int)+1)=((j+1:Nat):Int):=wN _ (by omega) (by omega)
  simp only[nE,g2,g4,g5,g6,g15,g16,Ew,ls,e0,dT,VX,Nat.reduceEqDiff,Nat.reduceAdd,Nat.reduceLeDiff,Nat.reduceLT,Nat.reduceSub]
  refine Cn rfl (Fe hx 0 rz0 (aKB _)) fun r H2 hl tW hTI => ?_
  obtain⟨b,g,c,rfl,hc,hT⟩:=hTI.tb
  simp only[g5,dT,VX,Nat.reduceEqDiff,Nat.reduceAdd,Nat.reduceLeDiff,Nat.reduceLT,Nat.reduceSub]
  have hS:Sy aF H1.length H2.length x.1.length b g 1 0 (Qy x 0) (sK x j) H2:=⟨hT,tW _ _ _ hR,.inl (by omega)⟩
  have avZ:=hx.Ij j
  have hη:2+γ*(j+1)≤274877906944:=by
   have:γ*(j+1)≤γ*6:=aMA _ (by omega)
   omega
  refine gC rfl ((TM (lo:=0) (c:=c) (rc:=x.1.length) hS (hx.ups hK Rat.le_refl rz0 avZ) (mE.mom Z5 hx (j+1)) (by omega) (hx.small hK) hη (aK5 _) (aK5 _) (aK5 _) (aKB _) (by omega)).mono ?_)
  rintro _ H3 ⟨rfl,hO,hR3⟩
  have r2':=hO.2 _ _ _ (.inl (by omega)) (by decide) (tW _ _ _ r2)
  have r0':=hO.2 _ _ _ (.inl (by omega)) (by decide) (tW _ _ _ r0)
  have l6:bH true 3 (.ptr 2 0 0 0) H3=some (aF (kJ j)):=by rw[bJ,r2'];exact bF _
  have ew:=kY ((j+1:Nat):Int) (by omega) (by omega)
  have bw:=G4 ((j+1:Nat):Int)
  have bl1:bl (j+1)≤5:=zO (by omega)
  rw[Int.natAbs_natCast] at bw
  have bf:=Bh j (by omega)
  have em:=jW (kJ j) (((j+1:Nat):Int):Rat) (by omega) (by omega)
  have s6:=bS (lo:=0) (v:=aF (kJ (j+1))) (j:=0) r2' (by exact aNT) (aK5 _) (dC _) (fR _)
  rw[aMf] at s6
  have em':TC 132 [aF (kJ j),aF (((j+1:Nat):Int):Rat)] (aF (kJ (j+1))):=em
  simp only[g6,g16,l6,wj,ew,em',s6,dT,VX,Nat.reduceEqDiff,Nat.reduceAdd,Nat.reduceLeDiff,Nat.reduceLT,Nat.reduceSub]
  exact⟨j+1,by omega,by omega,aZ (by decide) hR3,aZ (by decide) r0',bQ r2',by (repeat' apply aMh)<;>first | rfl | trivial | assumption⟩
 ·have Sp:j=k:=by omega
  subst Sp
  simp only[nE,g2,g4,g5,g6,g15,g16,Ew,ls,dT,VX,Nat.reduceEqDiff,Nat.reduceAdd,Nat.reduceLeDiff,Nat.reduceLT,Nat.reduceSub]
  have hη:2+γ*j≤10000000000:=by
   have:γ*j≤γ*6:=aMA _ (by omega)
   omega
  refine rK rfl (Gr hx (X:=sK x j) (B:=2+γ*j) (Rd.row (c:=x.1.length) hR (by rw[jM])) (fun i hi=>(mE.mom Z5 hx j).bits hi) hη (aKB _)) fun y L hy => ?_
  subst hy
  have r2':=dU (L:=L) r2
  have r0':=dU (L:=L) r0
  have l6:bH true 3 (.ptr 2 0 0 0) (H1++L)=some (aF (kJ j)):=by rw[bJ,r2'];exact bF _
  have bf:=Bh j (by omega)
  have bb:=hx.begun (mE.mom Z5 hx j) x.1.length (aKB _)
  have em:=jW (qZ x.1 (sK x j) x.1.length) (kJ j) (by omega) (by omega)
  have em':TC 132 [aF (qZ x.1 (sK x j) x.1.length),aF (kJ j)] (aF (cP x j)):=em
  have s4:=bS (lo:=0) (v:=aF (cP x j)) (j:=0) r0' (by exact aNT) (aK5 _) (dC _) (fR _)
  rw[aMf] at s4
  have l4:bH true 3 (.ptr 0 0 0 0) ((H1++L).set 0 (.row 0 [aF (cP x j)] 3 true))=some (aF (cP x j)):=by rw[bJ,bQ r0'];exact bF _
  simp only[g4,g6,l6,em',s4,l4,dT,VX,Nat.reduceEqDiff,Nat.reduceAdd,Nat.reduceLeDiff,Nat.reduceLT,Nat.reduceSub]
  exact aL (eR _)
end
end Go.PM
namespace Go.PM
open Go.Lib
abbrev Di (x:EI):VV:=CE aM x.1 x.2.1 x.2.2
theorem abD {x:EI} (hx:mE x) {r:Rat} {bb:Nat→Rat} {i:Nat}:∀j,H6 (Qy x r) bb x.1.length i j=if j<x.1.length then zR (fun j => -gE x.2.1 i j) i (Sg (gE x.2.1 i) x.1.length+eE x.2.2 i+r) j else bb i:=fun j=>by
 unfold H6
 by_cases hj:j<x.1.length
 ·rw[if_pos hj,if_pos hj]
  unfold Qy Y7 zR
  by_cases h:j=i
  ·subst h
   rw[if_pos rfl,if_pos rfl,hx.gd j]
   grind
  ·rw[if_neg h,if_neg h]
   grind
 ·rw[if_neg hj,if_neg hj]
section
variable {x:EI} (hx:mE x)
include hx
set_option maxHeartbeats 16000000 in
set_option maxRecDepth 30000 in
theorem Nf {lo sb η K:Nat} {H:aA} {w:Bool} {v:VV} {r:Rat} {bb X:Nat→Rat} (hK:K=43) (h0:0≤r) (hr:aK r≤665) (hs:aG H sb 0=some ([Di x],3,w)) (hv:Rd aM 3 (vec x.1.length bb) H v) (hX:eU x.1.length (Qy x r) bb X) (hXs:dH η x.1.length X) (hη:η≤274877906944) (dS:lo≤H.length) :
  jH 114 [.ptr sb 0 0 0,aM r,v] lo H (SQ (JT aM 3 (vec x.1.length X)) H):=by
 refine jH.walk ⟨true,false⟩ Nl (aMp rfl) ?_
 have hn:=hx.n
 have ck:∀ {K},aG K sb 0=some ([Di x],3,w)→Nx (.ptr sb 0 0 0) K=some (.ptr sb 0 0 0):=fun h=>by rw[Nx,h];rfl
 have f0:∀ {K},aG K sb 0=some ([Di x],3,w)→xW 0 (.ptr sb 0 0 0) K=some (.ptr sb 0 0 0):=fun h=>by rw[Gp h]
 have f1:∀ {K},aG K sb 0=some ([Di x],3,w)→xW 1 (.ptr sb 0 0 0) K=some (.ptr sb 0 0 1):=fun h=>by rw[Gp h]
 have f2:∀ {K},aG K sb 0=some ([Di x],3,w)→xW 2 (.ptr sb 0 0 0) K=some (.ptr sb 0 0 2):=fun h=>by rw[Gp h]
 have l0:∀ {K},aG K sb 0=some ([Di x],3,w)→bH false 1 (.ptr sb 0 0 0) K=some (aC aM x.1):=fun h=>by rw[bJ,h];rfl
 have l1:∀ {K},aG K sb 0=some ([Di x],3,w)→bH false 1 (.ptr sb 0 0 1) K=some (aC (aC aM) x.2.1):=fun h=>by rw[bJ,h];rfl
 have l2:∀ {K},aG K sb 0=some ([Di x],3,w)→bH false 1 (.ptr sb 0 0 2) K=some (aC aM x.2.2):=fun h=>by rw[bJ,h];rfl
 have lr:∀K,bH true 3 (.cJ (aM r) 0) K=some (aM r):=fun K=>cI r
 have e0:∀K,mW false [.slice none 0 0] 0 [] K=some (.ref K.length 0 0 0 0,K++[.row 0 [] 1 true]):=fun K=>mX rfl
 have e3:∀K,mW false [.bool false,.slice none 0 0,.slice none 0 0] 0 [] K=some (.ref K.length 0 0 0 0,K++[.row 0 [] 3 true]):=fun K=>mX rfl
 simp only[HS,ES,pT,if_true,ck hs,f0 hs,l0 hs,e0,aMi,dT,VX,Nat.reduceEqDiff,Nat.reduceAdd,Nat.reduceLeDiff,Nat.reduceLT,Nat.reduceSub]
 have wn:∀k:Nat,k≤x.1.length→IntKind.i64.wrap ((k:Int)+1)=((k+1:Nat):Int):=fun k hk=>wN _ (by omega) (by omega)
 refine aP (fun(i:Nat) ρ H1=>i≤x.1.length∧H <+: H1∧(∃rs,rs.length=i∧rs.map (·.xs)=(QH x.1.length (x.1.length+1) (H6 (Qy x r) bb x.1.length)).take i∧MG aM 3 H.length H1.length H.length i H1 rs)∧ρ 0 = .ptr sb 0 0 0∧ρ 2=v∧ρ 4 = .cJ (aM r) 0∧ρ 7=VI x.1.length∧ρ 8 = .ref H.length i 0 i i∧ρ 9=VI i) (fun i=>x.1.length-i) 0
  ⟨aK5 _,aMv _ _,⟨[],rfl,rfl,jD,aKB _,by simp,by simp,by simp⟩,by (repeat' apply aMh)<;>first | rfl | trivial | assumption⟩ ?_
 rintro i ρ H1 ⟨hi,hp,⟨rs,BX,hrs,hM⟩,g0,g2,g4,g7,g8,g9⟩
 have FP:=cL hp hs
 by_cases bZ:(i:Int)<(x.1.length:Int)
 ·have uW:i<x.1.length:=by omega
  obtain⟨row,lT,Xg⟩:=YI (g:=x.2.1) (i:=i) (by rw[hx.g];exact uW)
  have Mm:=hx.gr row (aLv lT)
  have a1:=fun H=>aI (f:=aC aM) (t := .op) (H:=H) (size:=1) (k := .i64) lT rfl
  have arL:∀K,bH false 1 (.cJ (aC aM row) 0) K=some (aC aM row):=fun K=>rfl
  simp only[xS,g0,g2,g4,g7,g8,g9,bZ,e3,dT,VX,Nat.reduceEqDiff,Nat.reduceAdd,Nat.reduceLeDiff,Nat.reduceLT,Nat.reduceSub]
  refine aP (fun(j:Nat) ρ H2=>j≤x.1.length∧H1 <+: H2∧aG H2 H1.length j=some ((vec j fun j => -gE x.2.1 i j).map aM,3,true)∧ρ 0 = .ptr sb 0 0 0∧ρ 2=v∧ρ 4 = .cJ (aM r) 0∧ρ 7=VI x.1.length∧ρ 8 = .ref H.length i 0 i i∧ρ 9=VI i∧ρ 10 = .ref H1.length j 0 j j∧ρ 11=VI j) (fun j=>x.1.length-j) 0
   ⟨aK5 _,aMv _ _,jD,by (repeat' apply aMh)<;>first | rfl | trivial | assumption⟩ ?_
  clear g0 g2 g4 g7 g8 g9
  rintro j ρ H2 ⟨hj,hp2,hR,g0,g2,g4,g7,g8,g9,g10,g11⟩
  have Xj:=cL hp2 FP
  have CU:H.length≤H1.length:=hp.length_le
  by_cases Ew:(j:Int)<(x.1.length:Int)
  ·have Hu:j<x.1.length:=by omega
   obtain⟨q,hq⟩:∃q,row[j]? = some q:=⟨_,aKI (by rw[Mm.1];exact Hu)⟩
   have hGq:gE x.2.1 i j=q:=by rw[Xg,aKy,hq];rfl
   have a2:=fun H=>aI (f:=aM) (t := .op) (H:=H) (size:=3) (k := .i64) hq rfl
   have eo:=BG q
   have eL:∀H,mW false [.bool false,.slice none 0 0,.slice none 0 0] 1 [(0,aM (-q))] H=some (.tree [aM (-q)] (.cl 3),H):=fun H=>iY rfl rfl rfl
   have eS:∀H,cZ 3 (.tree [aM (-q)] (.cl 3)) H=some [aM (-q)]:=fun H=>eV rfl rfl
   have eP:=Fq (lo:=lo) (bytes:=56) (x := -q) hR (by rw[jM]) (by omega) (by decide) (by decide) (by omega)
   simp only[yR,g0,g7,g9,g10,g11,Ew,ck Xj,f1 Xj,l1 Xj,a1,a2,arL,cI,eo,eL,eS,eP,wn j hj,dT,VX,Nat.reduceEqDiff,Nat.reduceAdd,Nat.reduceLeDiff,Nat.reduceLT,Nat.reduceSub]
   exact⟨j+1,by omega,by omega,lR hp2 (aKB _),by rw[Bt,hGq];exact bQ hR,by (repeat' apply aMh)<;>first | rfl | trivial | assumption⟩
  ·have Sp:j=x.1.length:=by omega
   subst Sp
   obtain⟨q,hq⟩:∃q,x.2.2[i]? = some q:=⟨_,aKI (by rw[hx.e];exact uW)⟩
   have hqm:=hx.er q (aLv hq)
   have he:eE x.2.2 i=q:=by unfold eE;rw[aKy,hq];rfl
   have X2:Sg (gE x.2.1 i) x.1.length=dM row:=by
    rw[Y9,Mm.1]
    exact gT fun j _=>Xg j
   have a3:=fun H=>aI (f:=aM) (t := .op) (H:=H) (size:=3) (k := .i64) hq rfl
   have hsb:=En (B:=665) (n:=6) (fun q hq=>(Mm.2 q hq).2) (by omega)
   have aHA:=vE (dM row) q
   have c1:=tS (dM row) q (by omega) (by omega)
   have c2:=tS (dM row+q) r (by omega) (by omega)
   have JN:=iT hR
   simp only[yR,g0,g2,g4,g7,g8,g9,g10,g11,Ew,ck Xj,f1 Xj,l1 Xj,a1,arL,dT,VX,Nat.reduceEqDiff,Nat.reduceAdd,Nat.reduceLeDiff,Nat.reduceLT,Nat.reduceSub]
   refine rK rfl (E3 (v:=aC aM row) row (B:=665) (Rd.tree jA) (aKB _) (fun q hq=>(Mm.2 q hq).2) (by omega) (by decide) (by omega)) fun y L hy => ?_
   subst hy
   have hp3:=FT (L:=L) hp2
   have hs3:=dU (L:=L) Xj
   have hR3:Rw aM H1.length x.1.length x.1.length (fun j => -gE x.2.1 i j) (H2++L):=dU hR
   have hM3:=hM.pre hp3
   have hl3:H2.length≤(H2++L).length:=by rw[aKM];omega
   generalize H2++L=H3 at *
   have r1:=hR3.addr (c:=x.1.length) uW
   obtain⟨H4,s1,hH4⟩:∃H4,bL lo 3 (.ptr H1.length x.1.length i 0) (aM (dM row+q+r)) H3=some H4∧H4=H3.set H1.length (.row x.1.length ((vec x.1.length (zR (fun j => -gE x.2.1 i j) i (dM row+q+r))).map aM) 3 true):=by
    have s:=dQ (lo:=lo) (f:=aM) (x:=dM row+q+r) (j:=i) hR3 (by rw[jM];exact uW) (by omega) rfl rfl
    rw[ND] at s
    exact⟨_,s,rfl⟩
   have hR4:aG H4 H1.length x.1.length=some ((vec x.1.length (zR (fun j => -gE x.2.1 i j) i (dM row+q+r))).map aM,3,true):=by rw[hH4];exact bQ hR3
   have hp4:H <+: H4:=by rw[hH4];exact lR (hp.trans hp3) CU
   have hM4:MG aM 3 H.length H1.length H.length i H4 rs:=by rw[hH4];exact hM3.dB (jY.set (.inr (aKB _)))
   obtain⟨p,p1,p2⟩:=hv.get H4 hp4 i (bb i) (wL uW)
   have p2:=(p2 true).trans (cI _)
   have eL:∀H,mW false [.bool false,.slice none 0 0,.slice none 0 0] 1 [(0,aM (bb i))] H=some (.tree [aM (bb i)] (.cl 3),H):=fun H=>iY rfl rfl rfl
   have eS:∀H,cZ 3 (.tree [aM (bb i)] (.cl 3)) H=some [aM (bb i)]:=fun H=>eV rfl rfl
   have eP:=Fq (lo:=lo) (bytes:=56) (x:=bb i) hR4 (by rw[jM]) (by omega) (by decide) (by decide) (by omega)
   have hR5:=bQ (g:=x.1.length+1) (es:=(vec x.1.length (zR (fun j => -gE x.2.1 i j) i (dM row+q+r))++[bb i]).map aM) (e:=3) (w:=true) hR4
   have hM5:=hM4.dB (H':=H4.set H1.length (.row (x.1.length+1) ((vec x.1.length (zR (fun j => -gE x.2.1 i j) i (dM row+q+r))++[bb i]).map aM) 3 true)) (jY.set (.inr (aKB _)))
   have hp5:=lR (x := .row (x.1.length+1) ((vec x.1.length (zR (fun j => -gE x.2.1 i j) i (dM row+q+r))++[bb i]).map aM) 3 true) hp4 CU
   have hel:(vec x.1.length (zR (fun j => -gE x.2.1 i j) i (dM row+q+r))++[bb i]).length=x.1.length+1:=by rw[aKM,jM];rfl
   obtain⟨ap,hM6⟩:=hM5.snoc (gF:=lo) BX.symm dS (by omega) ⟨H1.length,x.1.length+1,x.1.length+1,vec x.1.length (zR (fun j => -gE x.2.1 i j) i (dM row+q+r))++[bb i]⟩ (aKB _) (by simp only[hel];exact aKB _) hR5
   simp only[hel] at ap
   have eL1:∀K,mW false [.slice none 0 0] 1 [(0,.ref H1.length (x.1.length+1) 0 (x.1.length+1) (x.1.length+1))] K=some (.tree [.ref H1.length (x.1.length+1) 0 (x.1.length+1) (x.1.length+1)] (.cl 1),K):=fun K=>iY rfl rfl rfl
   have eS1:∀K,cZ 1 (.tree [.ref H1.length (x.1.length+1) 0 (x.1.length+1) (x.1.length+1)] (.cl 1)) K=some [.ref H1.length (x.1.length+1) 0 (x.1.length+1) (x.1.length+1)]:=fun K=>eV rfl rfl
   simp only[g0,g2,g4,g8,g9,g10,ck hs3,f2 hs3,l2 hs3,a3,cI,lr,c1,c2,r1,s1,p1,p2,eL,eS,eP,eL1,eS1,ap,wn i hi,dT,VX,Nat.reduceEqDiff,Nat.reduceAdd,Nat.reduceLeDiff,Nat.reduceLT,Nat.reduceSub]
   refine⟨i+1,by omega,by omega,lR hp5 (aKB _),⟨_,by rw[aKM,BX];rfl,?_,hM6.wide (aKB _) (by simp)⟩,by (repeat' apply aMh)<;>first | rfl | trivial | assumption⟩
   have xQ:(QH x.1.length (x.1.length+1) (H6 (Qy x r) bb x.1.length))[i]? = some (vec x.1.length (zR (fun j => -gE x.2.1 i j) i (dM row+q+r))++[bb i]):=by
    rw[NM uW,Bt,abD hx,if_neg (Nat.lt_irrefl _)]
    refine congrArg some (congrArg (· ++ [bb i]) (vB fun j hj => ?_))
    rw[abD hx,if_pos hj,X2,he]
   rw[sH xQ,List.map_append,hrs]
   rfl
 ·have mC:i=x.1.length:=by omega
  subst mC
  rw[List.take_of_length_le (by rw[Cf];exact aKB _)] at hrs
  simp only[xS,g7,g8,g9,bZ,dT,VX,Nat.reduceEqDiff,Nat.reduceAdd,Nat.reduceLeDiff,Nat.reduceLT,Nat.reduceSub]
  refine gC rfl ((M7 (lo:=lo) (gF:=H.length) (hi:=H1.length) (c:=x.1.length) ⟨rs,hM,hrs⟩ (hx.dgs hK h0 hr hX) hXs (by omega) (hx.small hK) hη dS (aKC dS hp.length_le) (aKB _)).mono ?_)
  rintro _ H' ⟨u,rfl,h1,h2,h3⟩
  simp only[dT,VX,Nat.reduceEqDiff,Nat.reduceAdd,Nat.reduceLeDiff,Nat.reduceLT,Nat.reduceSub]
  obtain⟨b,g,c,k1,k2,k3,k4,k5⟩:=h2
  exact⟨aKC hp.length_le h1,fun b g y hy=>h3 _ _ _ (.inl (iT hy)) (cL hp hy),b,g,c,aKC hp.length_le k1,k2,k3,k4,k5⟩
end
end Go.PM
namespace Go.PM
open Go.Lib
theorem eU.times {n:Nat} {A:Nat→Nat→Rat} {b X:Nat→Rat} (h:eU n A b X) (q:Rat):eU n A (fun i=>q*b i) fun i=>q*X i:=fun i hi=>by
 show Sg (fun j=>A i j*(q*X j)) n=q*b i
 rw[←h i hi,←DR]
 exact gT fun j _=>by grind
section
variable {x:EI} (hx:mE x)
include hx
set_option maxHeartbeats 4000000 in
set_option maxRecDepth 20000 in
theorem No {lo sb B:Nat} {H:aA} {w:Bool} {v:VV} {X:Nat→Rat} (hs:aG H sb 0=some ([Di x],3,w)) (hv:Rd aM 3 (vec x.1.length X) H v) (hX:∀i,i<x.1.length→aK (X i)≤B) (hB:B≤10000000000) (dS:lo≤H.length) :
  jH 113 [.ptr sb 0 0 0,v] lo H (Q3 (fun _ _ _ r=>r=aM (qZ x.1 X x.1.length)) H):=by
 refine jH.walk ⟨true,false⟩ Nw (aMp rfl) ?_
 have hn:=hx.n
 have ck:∀ {K},aG K sb 0=some ([Di x],3,w)→Nx (.ptr sb 0 0 0) K=some (.ptr sb 0 0 0):=fun h=>by rw[Nx,h];rfl
 have f0:∀ {K},aG K sb 0=some ([Di x],3,w)→xW 0 (.ptr sb 0 0 0) K=some (.ptr sb 0 0 0):=fun h=>by rw[Gp h]
 have l0:∀ {K},aG K sb 0=some ([Di x],3,w)→bH false 1 (.ptr sb 0 0 0) K=some (aC aM x.1):=fun h=>by rw[bJ,h];rfl
 have e1:=BU
 have s0:bL lo 3 (.ptr (H.length+1) 0 0 0) (aM 0) (H++[cell0,cell0])=some (H++[cell0,.row 0 [aM 0] 3 true]):=alT dS rfl
 have r4:aG (H++[cell0,.row 0 [aM 0] 3 true]) H.length 0=some ([VV.agg [VB false,.tree [] .nil,.tree [] .nil]],3,true):=by
  rw[cB,aKT (by omega),aKU]
  rfl
 have r5:aG (H++[cell0,.row 0 [aM 0] 3 true]) (H.length+1) 0=some ([aM 0],3,true):=by
  rw[cB,aKT (by omega),aMs]
  rfl
 simp only[HL,EW,e1,s0,aMn,aL1,aLT,aKM,aKL,aMe,aL9,dT,VX,Nat.reduceEqDiff,Nat.reduceAdd,Nat.reduceLeDiff,Nat.reduceLT,Nat.reduceSub]
 refine aP (fun(i:Nat) ρ H1=>i≤x.1.length∧H <+: H1∧aG H1 H.length 0=some ([VV.agg [VB false,.tree [] .nil,.tree [] .nil]],3,true)∧aG H1 (H.length+1) 0=some ([aM (qZ x.1 X i)],3,true)∧ρ 0 = .ptr sb 0 0 0∧ρ 1=v∧ρ 4 = .ptr H.length 0 0 0∧ρ 5 = .ptr (H.length+1) 0 0 0∧ρ 6=VI i) (fun i=>x.1.length-i) 0
  ⟨aK5 _,aMv _ _,r4,r5,by (repeat' apply aMh)<;>first | rfl | trivial | assumption⟩ ?_
 clear r4 r5 s0
 rintro i ρ H1 ⟨hi,hp,r4,r5,g0,g1,g4,g5,g6⟩
 have CU:=iT r5
 have FP:=cL hp hs
 have el:=hv.len H1 hp
 rw[jM] at el
 have l5:bH true 3 (.ptr (H.length+1) 0 0 0) H1=some (aM (qZ x.1 X i)):=by rw[bJ,r5];exact cI _
 have Bm:∀m,m≤x.1.length→aK (qZ x.1 X m)≤6*(B+667)+1:=fun m hm=>by
  have h1:=U6 (f:=fun i=>x.1.getD i 0*X i) (B:=665+B) (n:=x.1.length) (fun i hi=>by
   have h2:=gB (x.1.getD i 0) (X i)
   have h3:=hX i hi
   have h4:aK (x.1.getD i 0)≤665:=BI (P:=fun q=>aK q≤665) hx.wb rz0 i
   omega) m hm
  have h2:m*(665+B+1)≤6*(665+B+1):=aK2 _ (by omega)
  unfold qZ
  omega
 by_cases bZ:(i:Int)<(x.1.length:Int)
 ·obtain⟨q,hq⟩:∃q,x.1[i]? = some q:=⟨_,aKI (by omega)⟩
  have hqm:=hx.wb q (aLv hq)
  have hqd:x.1.getD i 0=q:=by rw[aKy,hq];rfl
  have a1:=fun H=>aI (f:=aM) (t := .op) (H:=H) (size:=3) (k := .i64) hq rfl
  obtain⟨p,a2,a3⟩:=hv.get _ hp i (X i) (wL (by omega))
  have a3':=(a3 true).trans (cI _)
  have wi:IntKind.i64.wrap ((i:Int)+1)=((i+1:Nat):Int):=wN _ (by omega) (by omega)
  have hXi:=hX i (by omega)
  have em:=uF q (X i) (by omega) (by omega)
  have bm:=gB q (X i)
  have bo:=Bm i (by omega)
  have ea:=tS (qZ x.1 X i) (q*X i) (by omega) (by omega)
  have wU:qZ x.1 X i+q*X i=qZ x.1 X (i+1):=by unfold qZ;rw[Sg,hqd]
  rw[wU] at ea
  have s5:=bS (lo:=lo) (v:=aM (qZ x.1 X (i+1))) (j:=0) r5 (by exact aNT) (by omega) (jA _) (pT _)
  rw[aMf] at s5
  simp only[yQ,g0,g1,g5,g6,el,bZ,a1,a2,a3',l5,em,ea,s5,wi,cI,ck FP,f0 FP,l0 FP,dT,VX,Nat.reduceEqDiff,Nat.reduceAdd,Nat.reduceLeDiff,Nat.reduceLT,Nat.reduceSub]
  exact⟨i+1,by omega,by omega,lR hp (by omega),aZ (by omega) r4,bQ r5,by (repeat' apply aMh)<;>first | rfl | trivial | assumption⟩
 ·have mC:i=x.1.length:=by omega
  subst mC
  have s4:=bS (lo:=lo) (v:=aM (qZ x.1 X x.1.length)) (j:=0) r4 (by exact aNT) dS (jA _) (pT _)
  rw[aMf] at s4
  have l4:bH true 3 (.ptr H.length 0 0 0) (H1.set H.length (.row 0 [aM (qZ x.1 X x.1.length)] 3 true))=some (aM (qZ x.1 X x.1.length)):=by rw[bJ,bQ r4];exact cI _
  simp only[yQ,g1,g4,g5,g6,el,bZ,l5,s4,l4,dT,VX,Nat.reduceEqDiff,Nat.reduceAdd,Nat.reduceLeDiff,Nat.reduceLT,Nat.reduceSub]
  exact⟨lR hp (aKB _),rfl⟩
set_option maxHeartbeats 8000000 in
set_option maxRecDepth 20000 in
theorem DA {lo sb:Nat} {H:aA} {w:Bool} (k:Nat) (hk:k≤6) (hs:aG H sb 0=some ([Di x],3,w)) (dS:lo≤H.length) :
  jH 122 [.ptr sb 0 0 0,VI k] lo H (SQ (fun _ _ _ r=>r=aM (cP x k)) H):=by
 refine jH.walk ⟨true,false⟩ Ks (aMp rfl) ?_
 have hn:=hx.n
 obtain⟨γ,Z5⟩:∃γ,γ=132000000:=⟨132000000,rfl⟩
 obtain⟨K,hK⟩:∃K,K=43:=⟨43,rfl⟩
 have ck:∀ {K},aG K sb 0=some ([Di x],3,w)→Nx (.ptr sb 0 0 0) K=some (.ptr sb 0 0 0):=fun h=>by rw[Nx,h];rfl
 have f0:∀ {K},aG K sb 0=some ([Di x],3,w)→xW 0 (.ptr sb 0 0 0) K=some (.ptr sb 0 0 0):=fun h=>by rw[Gp h]
 have l0:∀ {K},aG K sb 0=some ([Di x],3,w)→bH false 1 (.ptr sb 0 0 0) K=some (aC aM x.1):=fun h=>by rw[bJ,h];rfl
 have e3:∀K,mW false [.bool false,.slice none 0 0,.slice none 0 0] 0 [] K=some (.ref K.length 0 0 0 0,K++[.row 0 [] 3 true]):=fun K=>mX rfl
 have eo:=HW
 have ez:=BU
 have r4:aG (H++[cell0,.row 0 [] 3 true]) H.length 0=some ([VV.agg [VB false,.tree [] .nil,.tree [] .nil]],3,true):=by
  rw[cB,aKT (by omega),aKU]
  rfl
 have r5:aG (H++[cell0,.row 0 [] 3 true]) (H.length+1) 0=some ([],3,true):=by
  rw[cB,aKT (by omega),aMs]
  rfl
 have wn:∀k:Nat,k≤10→IntKind.i64.wrap ((k:Int)+1)=((k+1:Nat):Int):=fun k hk=>wN _ (by omega) (by omega)
 simp only[Gi,DC,e3,aMn,aL1,aLT,aKM,aKL,aMe,aL9,dT,VX,Nat.reduceEqDiff,Nat.reduceAdd,Nat.reduceLeDiff,Nat.reduceLT,Nat.reduceSub]
 refine aP (fun(i:Nat) ρ H1=>i≤x.1.length∧H <+: H1∧aG H1 H.length 0=some ([VV.agg [VB false,.tree [] .nil,.tree [] .nil]],3,true)∧aG H1 (H.length+1) i=some ((vec i fun _=>(1:Rat)).map aM,3,true)∧ρ 0 = .ptr sb 0 0 0∧ρ 1=VI k∧ρ 4 = .ptr H.length 0 0 0∧ρ 5 = .ref (H.length+1) i 0 i i∧ρ 6=VI i) (fun i=>x.1.length-i) 0
  ⟨aK5 _,aMv _ _,r4,r5,by (repeat' apply aMh)<;>first | rfl | trivial | assumption⟩ ?_
 clear r4 r5
 rintro i ρ H1 ⟨hi,hp,r4,r5,g0,g1,g4,g5,g6⟩
 have CU:=iT r5
 have FP:=cL hp hs
 by_cases bZ:(i:Int)<(x.1.length:Int)
 ·have eL:∀H,mW false [.bool false,.slice none 0 0,.slice none 0 0] 1 [(0,aM 1)] H=some (.tree [aM 1] (.cl 3),H):=fun H=>iY rfl rfl rfl
  have eS:∀H,cZ 3 (.tree [aM 1] (.cl 3)) H=some [aM 1]:=fun H=>eV rfl rfl
  have eP:=Fq (lo:=lo) (bytes:=56) (x:=1) r5 (by rw[jM]) (by omega) (by decide) (by decide) (by omega)
  simp only[wH,g0,g5,g6,bZ,ck FP,f0 FP,l0 FP,aMi,eo,eL,eS,eP,wn i (by omega),dT,VX,Nat.reduceEqDiff,Nat.reduceAdd,Nat.reduceLeDiff,Nat.reduceLT,Nat.reduceSub]
  exact⟨i+1,by omega,by omega,lR hp (by omega),aZ (by omega) r4,by rw[Bt];exact bQ r5,by (repeat' apply aMh)<;>first | rfl | trivial | assumption⟩
 have mC:i=x.1.length:=by omega
 subst mC
 have hv0:Rd aM 3 (vec x.1.length fun i=>kJ 0*sK x 0 i) H1 (.ref (H.length+1) x.1.length 0 x.1.length x.1.length):=by
  rw[show (vec x.1.length fun i=>kJ 0*sK x 0 i)=vec x.1.length fun _=>(1:Rat) from vB fun i _=>Rat.one_mul 1]
  exact Rd.row r5 (by rw[jM])
 simp only[wH,g0,g1,g4,g5,g6,bZ,ck FP,f0 FP,l0 FP,aMi,dT,VX,Nat.reduceEqDiff,Nat.reduceAdd,Nat.reduceLeDiff,Nat.reduceLT,Nat.reduceSub]
 refine aP (fun(j:Nat) ρ H2=>j≤k∧(H.length+1≤H2.length∧(∀b g y,aG H b g=some y→aG H2 b g=some y))∧aG H2 H.length 0=some ([VV.agg [VB false,.tree [] .nil,.tree [] .nil]],3,true)∧(∃v,ρ 5=v∧Rd aM 3 (vec x.1.length fun i=>kJ j*sK x j i) H2 v)∧ρ 0 = .ptr sb 0 0 0∧ρ 1=VI k∧ρ 4 = .ptr H.length 0 0 0∧ρ 7=VI (j+1:Nat)) (fun j=>k-j) 0
  ⟨aK5 _,⟨by omega,fun _ _ _ h=>cL hp h⟩,r4,⟨.ref (H.length+1) x.1.length 0 x.1.length x.1.length,by (repeat' apply aMh)<;>first | rfl | trivial | assumption,hv0⟩,by (repeat' apply aMh)<;>first | rfl | trivial | assumption⟩ ?_
 clear hv0 r4 r5 g0 g1 g4 g5 g6 CU FP bZ hi hp
 rintro j ρ H2 ⟨hj,⟨hl,tW⟩,r4,⟨v,g5,hv⟩,g0,g1,g4,g7⟩
 have Xj:=tW _ _ _ hs
 have hXj:=mE.mom Z5 hx j
 have bf:=Bh j (by omega)
 have aHn:γ*j≤γ*6:=aMA _ (by omega)
 by_cases Tl:((j+1:Nat):Int)≤(k:Int)
 ·have aGz:γ*(j+1)≤γ*6:=aMA _ (by omega)
  simp only[wE,g0,g1,g4,g5,g7,Tl,e3,dT,VX,Nat.reduceEqDiff,Nat.reduceAdd,Nat.reduceLeDiff,Nat.reduceLT,Nat.reduceSub]
  have Zl:H2 <+: H2++[.row 0 [] 3 true]:=aMv _ _
  refine aP (fun(i:Nat) ρ H3=>i≤x.1.length∧H2 <+: H3∧aG H3 H2.length i=some ((vec i fun i=>kJ (j+1)*sK x j i).map aM,3,true)∧ρ 0 = .ptr sb 0 0 0∧ρ 1=VI k∧ρ 4 = .ptr H.length 0 0 0∧ρ 5=v∧ρ 7=VI (j+1:Nat)∧ρ 8 = .ref H2.length i 0 i i∧ρ 9=VI i) (fun i=>x.1.length-i) 0
   ⟨aK5 _,Zl,jD,by (repeat' apply aMh)<;>first | rfl | trivial | assumption⟩ ?_
  clear g0 g1 g4 g5 g7 Zl
  rintro i ρ H3 ⟨hi,hp,hR,g0,g1,g4,g5,g7,g8,g9⟩
  have el:=hv.len H3 hp
  rw[jM] at el
  by_cases bZ:(i:Int)<(x.1.length:Int)
  ·obtain⟨p,a2,a3⟩:=hv.get _ hp i _ (wL (by omega))
   have a3':=(a3 true).trans (cI _)
   have ei:=Cz ((j+1:Nat):Int) (by omega) (by omega)
   have bw:=G4 ((j+1:Nat):Int)
   have bl1:bl (j+1)≤5:=zO (by omega)
   rw[Int.natAbs_natCast] at bw
   have bX:=hXj.bits (i:=i) (by omega)
   have bm:=gB (kJ j) (sK x j i)
   have em:=uF (((j+1:Nat):Int):Rat) (kJ j*sK x j i) (by omega) (by omega)
   have wU:(((j+1:Nat):Int):Rat)*(kJ j*sK x j i)=kJ (j+1)*sK x j i:=by
    show _=kJ j*(((j+1:Nat):Int):Rat)*sK x j i
    grind
   rw[wU] at em
   have eL:∀H,mW false [.bool false,.slice none 0 0,.slice none 0 0] 1 [(0,aM (kJ (j+1)*sK x j i))] H=some (.tree [aM (kJ (j+1)*sK x j i)] (.cl 3),H):=fun H=>iY rfl rfl rfl
   have eS:∀H,cZ 3 (.tree [aM (kJ (j+1)*sK x j i)] (.cl 3)) H=some [aM (kJ (j+1)*sK x j i)]:=fun H=>eV rfl rfl
   have eP:=Fq (lo:=lo) (bytes:=56) (x:=kJ (j+1)*sK x j i) hR (by rw[jM]) (by omega) (by decide) (by decide) (by omega)
   simp only[wP,g5,g7,g8,g9,el,bZ,ei,a2,a3',em,eL,eS,eP,wn i (by omega),dT,VX,Nat.reduceEqDiff,Nat.reduceAdd,Nat.reduceLeDiff,Nat.reduceLT,Nat.reduceSub]
   exact⟨i+1,by omega,by omega,lR hp (aKB _),by rw[Bt];exact bQ hR,by (repeat' apply aMh)<;>first | rfl | trivial | assumption⟩
  ·have mC:i=x.1.length:=by omega
   subst mC
   simp only[wP,g0,g5,g7,g8,g9,el,bZ,ez,dT,VX,Nat.reduceEqDiff,Nat.reduceAdd,Nat.reduceLeDiff,Nat.reduceLT,Nat.reduceSub]
   have bf1:=Bh (j+1) (by omega)
   have avZ:=(hx.Ij j).times (kJ (j+1))
   refine Cn rfl (Nf hx (lo:=lo) hK Rat.le_refl rz0 (cL hp Xj) (Rd.row hR (by rw[jM])) avZ ((mE.mom Z5 hx (j+1)).times bf1) (by omega) (by have:=hp.length_le;omega)) fun r H4 hl4 hk4 hr4 => ?_
   simp only[g7,wn (j+1) (by omega),dT,VX,Nat.reduceEqDiff,Nat.reduceAdd,Nat.reduceLeDiff,Nat.reduceLT,Nat.reduceSub]
   exact⟨j+1,by omega,by omega,⟨by have:=hp.length_le;omega,fun b g y h=>hk4 _ _ _ (cL hp (tW _ _ _ h))⟩,hk4 _ _ _ (cL hp r4),⟨r,by (repeat' apply aMh)<;>first | rfl | trivial | assumption,hr4.rd⟩,by (repeat' apply aMh)<;>first | rfl | trivial | assumption⟩
 ·have Sp:j=k:=by omega
  subst Sp
  have hb:∀i,i<x.1.length→aK (kJ j*sK x j i)≤2+γ*j+40:=fun i hi=>(hXj.times bf).bits hi
  simp only[wE,g0,g1,g4,g5,g7,Tl,dT,VX,Nat.reduceEqDiff,Nat.reduceAdd,Nat.reduceLeDiff,Nat.reduceLT,Nat.reduceSub]
  refine rK rfl (No hx Xj hv hb (by omega) (by omega)) fun y L hy => ?_
  subst hy
  have hmul:qZ x.1 (fun i=>kJ j*sK x j i) x.1.length=cP x j:=by
   unfold cP qZ
   rw[Rat.mul_comm,←DR]
   exact gT fun i _=>by grind
  rw[hmul]
  have s4:=bS (lo:=lo) (v:=aM (cP x j)) (j:=0) (dU (L:=L) r4) (by exact aNT) dS (jA _) (pT _)
  rw[aMf] at s4
  have l4:bH true 3 (.ptr H.length 0 0 0) ((H2++L).set H.length (.row 0 [aM (cP x j)] 3 true))=some (aM (cP x j)):=by rw[bJ,bQ (dU r4)];exact cI _
  simp only[g4,s4,l4,dT,VX,Nat.reduceEqDiff,Nat.reduceAdd,Nat.reduceLeDiff,Nat.reduceLT,Nat.reduceSub]
  exact⟨by rw[List.length_set,aKM];omega,fun b g y h=>aZ (by have:=iT h;omega) (dU (tW _ _ _ h)),rfl⟩
end
end Go.PM
namespace Go.PM
open Go.Lib
theorem Jy {c:List (List ByteArray)}:∀ {i:Nat} {m:List (List Rat)},iS c i=some m→∀(k:Nat) (r:List Rat),m[k]? = some r→r.getD k 0=0
 | 0,m,h,k,r,hk=>by cases h;cases hk
 |
  i+1,m,h,k,r,hk=>by
  rw[iS] at h
  split at h
  ·rename_i out q h1 h2
   cases h
   obtain⟨l1,_⟩:=tM h1
   by_cases hki:k<out.length
   ·rw[List.getElem?_append_left hki] at hk
    exact Jy h1 k r hk
   ·rw[aKT (by omega)] at hk
    have hz:k-out.length=0:=by
     have:=(List.getElem?_eq_some_iff.1 hk).1
     simp only[aKL,aMe] at this
     omega
    rw[hz] at hk
    cases hk
    have S9:k=i:=by omega
    subst S9
    exact(Jt h2).2.2.2
  ·cases h
theorem V6 {s:vJ} {x:EI} (h:fA s=some x):∀i,gE x.2.1 i i=0:=fun i=>by
 unfold fA at h
 split at h
 ·split at h
  ·split at h
   ·cases hm:iS s.g s.b.length with
    | none=>rw[hm] at h;cases h
    |
     some m =>
     rw[hm] at h
     cases h
     unfold gE
     rw[aKy (l:=m)]
     cases hr:m[i]? with
     | none=>rfl
     | some r=>exact Jy hm i r hr
   ·cases h
  ·cases h
 ·cases h
theorem mE.of {s:vJ} {x:EI} (h:fA s=some x) (he:Fp x=true):mE x:=by
 obtain⟨h1,h2,h3,h4,h5,h6,h7⟩:=SV h
 exact⟨h1,h2,h3,h4,h5,h6,h7,V6 h,he⟩
def Xf (s:vJ) (val:EI→Rat):VV:=match fA s with
 | some x=>if Fp x=true then B3 (val x) else .eJ [bD [],VB false]
 | none => .eJ [bD [],VB false]
theorem SW (s:vJ) (val:EI→Rat):hJ (Xf s val)=true:=by
 unfold Xf
 split
 ·split
  ·exact G1 _
  ·rfl
 ·rfl
theorem WM {s:vJ} {val:EI→Rat} (h:fA s=none):Xf s val = .eJ [bD [],VB false]:=by unfold Xf;rw[h]
theorem abF {s:vJ} {x:EI} {val:EI→Rat} (h:fA s=some x) (he:Fp x=false):Xf s val = .eJ [bD [],VB false]:=by
 unfold Xf
 simp only[h,he,Bool.false_eq_true,if_false]
theorem alS {s:vJ} {x:EI} {val:EI→Rat} (h:fA s=some x) (he:Fp x=true):Xf s val=B3 (val x):=by
 unfold Xf
 simp only[h,he,if_true]
theorem K2 (s:vJ) (hb:TN s) (f:Nat) (gG:List VV) (aBb:aO gG=true) (val:EI→Rat) (hf:∀x,mE x→TC f (Fi x::gG) (aF (val x))) (hv:∀x,mE x→aK (val x)≤1099511627776):TC 116 [vW s,.xU f gG] (Xf s val):=by
 refine TC.walk ⟨true,false⟩ K4 rfl (aMp rfl) (Lw (rS _) aBb) (SW _ _) ?_
 have e1:=Kx s hb
 have st:∀v,(aB v).length=3→(aB v).all bN=true→bL 0 3 (.ptr 0 0 0 0) v [.row 0 [.agg [.tree [] .nil,.tree [] .nil,.tree [] .nil]] 3 true]=some [.row 0 [v] 3 true]:=fun v h1 h2=>by
  rw[bS (e:=3) aT (by exact aNT) (aKB _) h1 h2]
  rfl
 unfold QC at e1
 cases h:fA s with
 |
  none =>
  rw[WM h]
  rw[h] at e1
  simp only[rE,oI,pL,lA,e1,st ZY rfl rfl,if_true,aMe,aLT,aOf,dT,VX,Nat.reduceEqDiff,Nat.reduceAdd,Nat.reduceLeDiff,Nat.reduceLT,Nat.reduceSub]
  exact aL rfl
 |
  some x =>
  rw[h] at e1
  have ld:bH true 3 (.ptr 0 0 0 0) [.row 0 [Fi x] 3 true]=some (Fi x):=rfl
  cases he:Fp x with
  |
   false =>
   rw[abF h he]
   simp only[he] at e1
   simp only[rE,oI,pL,lA,e1,st (Fi x) rfl rfl,if_true,aMe,aLT,aOf,dT,VX,Nat.reduceEqDiff,Nat.reduceAdd,Nat.reduceLeDiff,Nat.reduceLT,Nat.reduceSub]
   exact aL rfl
  |
   true =>
   have hx:=mE.of h he
   rw[alS h he]
   simp only[he] at e1
   have e2:=hf x hx
   have e3:=WA (val x) (hv x hx)
   unfold B3 at e3 ⊢
   by_cases xG:Dp (val x)=true
   ·rw[if_pos xG] at e3
    rw[if_pos xG]
    simp only[rE,oI,pL,lA,e1,e2,e3,st (Fi x) rfl rfl,ld,if_true,aMe,aLT,aL1,aOg,dT,VX,Nat.reduceEqDiff,Nat.reduceAdd,Nat.reduceLeDiff,Nat.reduceLT,Nat.reduceSub]
    exact aL rfl
   ·rw[if_neg xG] at e3
    rw[if_neg xG]
    simp only[rE,oI,pL,lA,e1,e2,e3,st (Fi x) rfl rfl,ld,if_true,aMe,aLT,aL1,aOg,dT,VX,Nat.reduceEqDiff,Nat.reduceAdd,Nat.reduceLeDiff,Nat.reduceLT,Nat.reduceSub]
    exact aL rfl
theorem azU {x:EI} {K:aA}:bH true 3 (.cJ (Fi x) 0) K=some (Fi x):=rfl
theorem awQ {x:EI}:dP true 3 (Fi x) 0=some (Fi x):=rfl
theorem asA {x:EI}:(aB (Fi x)).all bN=true:=rfl
theorem asI {q:Rat} {K:aA}:bH true 3 (.ptr 0 0 0 0) (.row 0 [aF q] 3 true::K)=some (aF q):=by
 rw[bJ,aT]
 exact bF q
end Go.PM
namespace Go.PM
open Go.Lib
theorem apQ (s:vJ) (val:EI→Rat):∃t ok,Xf s val = .eJ [.sc (.string t),VB ok]:=by
 unfold Xf B3
 split
 ·split
  ·split<;>exact⟨_,_,rfl⟩
  ·exact⟨_,_,rfl⟩
 ·exact⟨_,_,rfl⟩
noncomputable def qI (x:EI):Rat:=(cP x 2-cP x 1*cP x 1) / (cP x 1*cP x 1)
theorem mE.MC {x:EI} (hx:mE x):aK (qI x)≤1099511627776:=by
 have h1:=hx.zG (k:=1) (by decide)
 have h2:=hx.zG (k:=2) (by decide)
 have h3:=gB (cP x 1) (cP x 1)
 have h4:=GK (cP x 2) (cP x 1*cP x 1)
 have h5:=Dy (cP x 2-cP x 1*cP x 1) (cP x 1*cP x 1)
 unfold qI
 omega
set_option maxHeartbeats 1000000 in
theorem Iv (q:Rat) (hq:aK q≤100000000000):TC 127 [aF q,VI 2] (aF (q*q)):=by
 refine TC.walk ⟨true,false⟩ IV rfl (aMp rfl) (by simp only[aO,eR];rfl) (oF _) ?_
 have e1:TC 64 [VI 1] (aF 1):=kY 1 (by decide) (by decide)
 simp only[DH,Bx,e1,aH,cF,bF,aV,aW,aR,fZ,Nat.reduceLeDiff,Nat.reduceLT,Nat.reduceSub,lU,bT,cK,fI,kA,nR,bne_iff_ne,ne_eq,not_false_eq_true,not_true_eq_false,VX,Nat.reduceEqDiff,Nat.reduceAdd]
 refine aP (fun(i:Nat) ρ H=>i≤2∧H=[.row 0 [.agg [VB false,.tree [] .nil,.tree [] .nil]] 3 true,.row 0 [aF (q^i)] 3 true]∧ρ 2=(aF q).cJ 0∧ρ 4 = .ptr 0 0 0 0∧ρ 5 = .ptr 1 0 0 0∧ρ 7=VI 2∧ρ 8=VI i) (fun i=>2-i) 0 ⟨aK5 _,?_,rfl,rfl,rfl,rfl,rfl⟩ ?_
 ·rw[Rat.pow_zero]
 rintro i ρ H ⟨hi,rfl,g2,g4,g5,g7,g8⟩
 by_cases bZ:(i:Int)<(2:Int)
 ·have wi:IntKind.i64.wrap ((i:Int)+1)=((i+1:Nat):Int):=wrapN (i+1) (by omega) (by omega)
  have hb:=Ll q i
  have hb2:i*aK q≤2*100000000000:=Nat.mul_le_mul (by omega) hq
  have e2:=jW (q^i) q (by omega) (by omega)
  rw[←aOl] at e2
  simp only[tE,g2,g4,g5,g7,g8,bZ,e2,wi,aH,cF,bF,aV,aW,aR,fZ,Nat.reduceLeDiff,Nat.reduceLT,Nat.reduceSub,lU,bT,cK,fI,kA,nR,bne_iff_ne,ne_eq,not_false_eq_true,not_true_eq_false,VX,Nat.reduceEqDiff,Nat.reduceAdd]
  exact⟨i+1,by omega,by omega,rfl,rfl⟩
 ·have mC:i=2:=by omega
  subst mC
  have hq2:q^2=q*q:=by rw[aOl,aOl,Rat.pow_zero,Rat.one_mul]
  rw[hq2] at *
  simp only[tE,g2,g4,g5,g7,g8,bZ,aH,cF,bF,aV,aW,aR,fZ,Nat.reduceLeDiff,Nat.reduceLT,Nat.reduceSub,lU,bT,cK,fI,kA,nR,bne_iff_ne,ne_eq,not_false_eq_true,not_true_eq_false,VX,Nat.reduceEqDiff,Nat.reduceAdd]
  exact aL (eR _)
set_option maxHeartbeats 1000000 in
theorem Kl {x:EI} (hx:mE x):TC 126 [Fi x] (aF (qI x)):=by
 refine TC.walk ⟨true,false⟩ JX rfl (aMp rfl) (Ap (KJ _ _ _)) (oF _) ?_
 have e1:TC 124 [Fi x,VI 1] (aF (cP x 1)):=xO hx 1 (by decide)
 have e2:TC 124 [Fi x,VI 2] (aF (cP x 2)):=xO hx 2 (by decide)
 have h1:=hx.zG (k:=1) (by decide)
 have h2:=hx.zG (k:=2) (by decide)
 have h3:=gB (cP x 1) (cP x 1)
 have h4:=GK (cP x 2) (cP x 1*cP x 1)
 have jZ:=hx.V8
 have fW:cP x 1*cP x 1≠0:=fun h=>by
  rcases Rat.mul_eq_zero.1 h with h | h<;>(rw[h] at jZ;exact absurd jZ (by decide))
 have e3:=Iv (cP x 1) (by omega)
 have e4:=vX (cP x 2) (cP x 1*cP x 1) (by omega) (by omega)
 have e5:=Ae (cP x 2-cP x 1*cP x 1) (cP x 1*cP x 1) fW (by omega) (by omega)
 have e5:TC 129 [aF (cP x 2-cP x 1*cP x 1),aF (cP x 1*cP x 1)] (aF (qI x)):=e5
 have s1:bL 0 3 (.ptr 1 0 0 0) (aF (cP x 1*cP x 1)) [cell0,cell0]=some [cell0,.row 0 [aF (cP x 1*cP x 1)] 3 true]:=Ln (k:=1) rfl
 have l1:bH true 3 (.ptr 1 0 0 0) [cell0,.row 0 [aF (cP x 1*cP x 1)] 3 true]=some (aF (cP x 1*cP x 1)):=by
  rw[bJ,dZ,aT]
  exact bF _
 have s2:bL 0 3 (.ptr 0 0 0 0) (aF (qI x)) [cell0,.row 0 [aF (cP x 1*cP x 1)] 3 true]=some [.row 0 [aF (qI x)] 3 true,.row 0 [aF (cP x 1*cP x 1)] 3 true]:=Ln (k:=0) rfl
 simp only[ED,B6,asA,azU,awQ,if_true,e1,e2,e3,e4,e5,s1,l1,s2,asI,aKL,aMe,aLT,aL1,aL9,dT,VX,Nat.reduceEqDiff,Nat.reduceAdd,Nat.reduceLeDiff,Nat.reduceLT,Nat.reduceSub]
 exact aL (eR _)
theorem M0 (s:vJ) (hb:TN s):TC 52 [vW s] (Xf s qI):=by
 refine TC.walk ⟨true,false⟩ Nd rfl (aMp rfl) (Ap (rS _)) (SW _ _) ?_
 have e2:=K2 s hb 126 [] rfl qI (fun x hx=>Kl hx) (fun x hx=>hx.MC)
 obtain⟨t,ok,ht⟩:=apQ s qI
 rw[ht] at e2 ⊢
 simp only[HJ,EX,pL,lA,e2,if_true,dT,VX,Nat.reduceEqDiff,Nat.reduceAdd,Nat.reduceLeDiff,Nat.reduceLT,Nat.reduceSub]
 exact aL rfl
end Go.PM
namespace Go.PM
open Go.Lib
end Go.PM
namespace Go.PM
open Go.Lib
theorem Vf {v:VV} (h1:(aB v).length=3) (h2:(aB v).all bN=true):bL 0 3 (.ptr 0 0 0 0) v [kR]=some [.row 0 [v] 3 true]:=by
 rw[bS (e:=3) aT (by exact aNT) (aKB _) h1 h2]
 rfl
theorem awT {x:EI}:bL 0 3 (.ptr 0 0 0 0) (Di x) [kR]=some [.row 0 [Di x] 3 true]:=Vf (v:=Di x) rfl rfl
theorem noC {g:List (List Rat)}:bL 0 3 (.ptr 0 0 0 0) (.agg [.tree [] .op,aC (aC aM) g,.tree [] .op]) [kR]=some [.row 0 [.agg [.tree [] .op,aC (aC aM) g,.tree [] .op]] 3 true]:=Vf (v := .agg [.tree [] .op,aC (aC aM) g,.tree [] .op]) rfl rfl
set_option maxHeartbeats 1000000 in
theorem Nu (s:vJ) (hb:TN s):TC 51 [vW s] (Xf s qI):=by
 refine TC.walk ⟨true,false⟩ Nv rfl (aMp rfl) (Ap (rS _)) (SW _ _) ?_
 have e1:=Np s hb
 unfold M1 at e1
 cases h:fA s with
 |
  none =>
  rw[WM h]
  rw[h] at e1
  simp only at e1
  simp only[yV,uE,pL,lA,e1,awT,noC,if_true,aMe,aLT,aOf,dT,VX,Nat.reduceEqDiff,Nat.reduceAdd,Nat.reduceLeDiff,Nat.reduceLT,Nat.reduceSub]
  exact aL rfl
 |
  some x =>
  rw[h] at e1
  simp only at e1
  cases he:Fp x with
  |
   false =>
   rw[abF h he]
   rw[he] at e1
   simp only[yV,uE,pL,lA,e1,awT,noC,if_true,aMe,aLT,aOf,dT,VX,Nat.reduceEqDiff,Nat.reduceAdd,Nat.reduceLeDiff,Nat.reduceLT,Nat.reduceSub]
   exact aL rfl
  |
   true =>
   rw[he] at e1
   have hx:=mE.of h he
   rw[alS h he]
   simp only[yV,uE,pL,lA,e1,awT,noC,if_true,aMe,aLT,aOg,dT,VX,Nat.reduceEqDiff,Nat.reduceAdd,Nat.reduceLeDiff,Nat.reduceLT,Nat.reduceSub]
   refine Cn rfl (DA (w:=true) hx 1 (by omega) rfl (aK5 _)) fun r H1 CU hk1 hr => ?_
   subst hr
   have h1:=hx.zG (k:=1) (by decide)
   have h2:=hx.zG (k:=2) (by decide)
   have h3:=gB (cP x 1) (cP x 1)
   have h4:=GK (cP x 2) (cP x 1*cP x 1)
   have jZ:=hx.V8
   have fW:cP x 1*cP x 1≠0:=fun h=>by
    rcases Rat.mul_eq_zero.1 h with h | h<;>(rw[h] at jZ;exact absurd jZ (by decide))
   have s1:=GJ (lo:=0) (H:=H1) (q:=cP x 1) (aK5 _)
   have r1:=(jD (H:=H1) (g:=0) (es:=[aM (cP x 1)]) (e:=3) (w:=true))
   have c1:=amH r1
   have em:=uF (cP x 1) (cP x 1) (by omega) (by omega)
   have s2:=GJ (lo:=0) (H:=H1++[.row 0 [aM (cP x 1)] 3 true]) (q:=cP x 1*cP x 1) (aK5 _)
   have r2:=(jD (H:=H1++[.row 0 [aM (cP x 1)] 3 true]) (g:=0) (es:=[aM (cP x 1*cP x 1)]) (e:=3) (w:=true))
   have Xj:aG (H1++[.row 0 [aM (cP x 1)] 3 true]++[.row 0 [aM (cP x 1*cP x 1)] 3 true]) 0 0=some ([Di x],3,true):=dU (dU (hk1 _ _ _ rfl))
   simp only[s1,c1,em,s2,dT,VX,Nat.reduceEqDiff,Nat.reduceAdd,Nat.reduceLeDiff,Nat.reduceLT,Nat.reduceSub]
   generalize H1++[fC.row 0 [aM (cP x 1)] 3 true]=H2 at *
   generalize H2++[fC.row 0 [aM (cP x 1*cP x 1)] 3 true]=H3 at *
   refine Cn rfl (DA (w:=true) hx 2 (by omega) Xj (aKB _)) fun r H4 hl4 hk4 hr => ?_
   subst hr
   have c2:=amH (hk4 _ _ _ r2)
   have e4:=EE (cP x 2) (cP x 1*cP x 1) (by omega) (by omega)
   have e5:=BF (cP x 2-cP x 1*cP x 1) (cP x 1*cP x 1) fW (by omega) (by omega)
   have e5:TC 81 [aM (cP x 2-cP x 1*cP x 1),aM (cP x 1*cP x 1)] (aM (qI x)):=e5
   have e6:=OG (qI x) hx.MC
   obtain⟨t,ok,ht⟩:=R1 (qI x)
   rw[ht] at e6 ⊢
   simp only[c2,e4,e5,e6,dT,VX,Nat.reduceEqDiff,Nat.reduceAdd,Nat.reduceLeDiff,Nat.reduceLT,Nat.reduceSub]
   exact aL rfl
end Go.PM
namespace Go.PM
open Go.Lib
theorem amO (s:vJ) (val:EI→Rat):∃t k,Xf s val = .eJ [bD t,VB k]:=by
 unfold Xf
 split
 ·split
  ·exact R1 _
  ·exact⟨_,_,rfl⟩
 ·exact⟨_,_,rfl⟩
noncomputable def SD (s:vJ):VV:=Xf s qI
theorem Wp (s:vJ):∃t k,SD s = .eJ [bD t,VB k]:=amO _ _
end Go.PM
namespace Go.PM
def pM:aE:=(LS [LO 1 (.box (LT 0)),LO 2 (.mv LF)] (LS [LO 3 (.mv (LI 1000000))] (LS [LO 11 (LK 1),LM 12 3,LO 13 (.call 44 [(LT 11),(LT 12)]),LM 3 13] (.seq (LS [LM 14 3,LO 15 (.bin .lss (LT 14) (LI 0))] (.cond (LT 15) (LS [LO 2 (.mv LG)] .ret) .skip)) (LS [LO 17 (LK 1),LO 18 (.call 46 [(LT 17),LF]),LO 19 (.call 51 [(LT 18)]),LM 16 19,LO 20 (LX 16 0),LO 21 (LX 16 1),LM 4 20,LM 5 21] (LS [LO 22 (LK 1),LO 23 (.call 46 [(LT 22),LF]),LO 6 (.new [(.slice none 0 0),(.slice none 0 0),(.slice none 0 0)]),LN (.store 3 (LT 6) (LT 23))] (LS [LO 25 (LK 6),LO 26 (.call 52 [(LT 25)]),LM 24 26,LO 27 (LX 24 0),LO 28 (LX 24 1),LM 7 27,LM 8 28] (.seq (LS [LM 29 7,LM 30 4,LO 31 (.bin .neq (LT 29) (LT 30)),LM 32 31,LZ 32 33 (.mv (LT 8)),LZ 32 34 (.mv (LT 5)),LZ 32 35 (.eqb true (LT 33) (LT 34)),LO 36 (.pick (LT 32) LG (LT 35))] (.cond (LT 36) (LS [LO 2 (.mv LF)] .ret) .skip)) (.seq (LS [LO 37 (LK 6),LO 38 (LK 1),LQ 39 (.call 46 [(LT 38),LF]),LQ 40 (.call 48 [(LT 37),(LT 39)]),LO 41 (.un .not (LT 40))] (.cond (LT 41) (LS [LO 2 (.mv LF)] .ret) .skip)) (LS [LO 43 (LK 1),LO 44 (.call 46 [(LT 43),LG]),LO 45 (.call 52 [(LT 44)]),LM 42 45,LO 46 (LX 42 0),LO 47 (LX 42 1),LM 9 46,LM 10 47] (.seq (LS [LM 48 9,LM 49 4,LO 50 (.bin .neq (LT 48) (LT 49)),LM 51 50,LZ 51 52 (.mv (LT 10)),LZ 51 53 (.mv (LT 5)),LZ 51 54 (.eqb true (LT 52) (LT 53)),LO 55 (.pick (LT 51) LG (LT 54))] (.cond (LT 55) (LS [LO 2 (.mv LF)] .ret) .skip)) (LS [LO 2 (.mv LG)] .ret))))))))))))
def rH:aU:=⟨56,[(.tmp 2)],pM⟩
theorem Eb:fT 12=some rH:=by kernel_rfl
end Go.PM
namespace Go.PM
theorem Tm {f lo:Nat} {args mG:List VV} {r:VV} {H:aA} {K:VV→aA→Prop} (h:TC f mG r) (CF:FH.contains f=false) (ha':aO mG=true) (hf:args.mapM (fz depth H)=some mG) (hr:Js r=true) (hk:K r H):dI f args lo H K:=by
 rw[h.flat CF ha' hf hr]
 exact hk
theorem JO (l:List UInt8):dK .neq (.string ⟨l.toArray⟩) (.string ⟨l.toArray⟩)=some (.bool false):=by rw[TW];simp
theorem UG (b:Bool):Oc true (Value.bool b) (Value.bool b)=some (.bool false):=by cases b<;>rfl
end Go.PM
namespace Go.PM
set_option maxHeartbeats 2000000 in
theorem Ez (s0:vJ) (RY:aqI s0):TC 12 [vW s0] (.sc (.bool true)):=by
 refine TC.walk ⟨true,false⟩ Eb rfl (aMp rfl) (Ap (rS _)) rfl ?_
 have adG:=Lf s0 (1000000) RY (by omega)
 change TC _ _ (VI (O9 s0 (1000000))) at adG
 by_cases aBk:O9 s0 (1000000)<0
 ·rw[asC aBk] at adG
  simp only[rH,pM,pL,lA,adG,Int.reduceNeg,Int.reduceLT,VX,Nat.reduceEqDiff,Nat.reduceAdd]
  exact aL rfl
 have aAR:=atK (s:=s0) (l:=1000000) (by omega) (by omega)
 have aHk:=aAR.1
 have Qq:TN s0:=aAR.2
 have hg0:=Qq.g9
 have hi0:=Qq.g4
 have Zl:=Qq.b4
 have Kp:=Qq.e4
 simp only[rH,pM,pL,lA,adG,aBk,VX,Nat.reduceEqDiff,Nat.reduceAdd]
 have cs:TC _ [vW s0] (SD s0):=Nu s0 Qq
 have ci:TC _ [vW s0] (SD s0):=M0 s0 Qq
 obtain⟨s,k,hsk⟩:=Wp s0
 rw[hsk] at cs ci
 have pa:aO [vW s0]=true:=Ap (rS _)
 refine Zc (by have:=Zl;omega) hg0 (by have:=Kp;omega) fun r1 H1 p1 s1' => ?_
 simp only[pL,lA,VX,Nat.reduceEqDiff,Nat.reduceAdd]
 refine Tm cs rfl pa (fz1 (s1'.pre (aOm _)).fz) rfl ?_
 simp only[pL,lA,VX,Nat.reduceEqDiff,Nat.reduceAdd]
 refine Zc (by have:=Zl;omega) hg0 (by have:=Kp;omega) fun r2 H2 p2 s2' => ?_
 have w2:=aD8 (lo:=0) s2' (aK5 _)
 simp only[pL,lA,w2,rD,VX,Nat.reduceEqDiff,Nat.reduceAdd]
 have p3:=aMv H2 [.row 0 [r2] 3 true]
 have q2:aG (H2++[.row 0 [r2] 3 true]) H2.length 0=some ([r2],3,true):=jD
 generalize eh3:H2++[.row 0 [r2] 3 true]=H3 at *
 simp only[pL,lA,ld3 s2' (cL (aOm _) q2),VX,Nat.reduceEqDiff,Nat.reduceAdd]
 refine Tm ci rfl pa (fz1 (s2'.pre p3).fz) rfl ?_
 simp only[pL,lA,JO,UG,ld3 s2' (cL (aOm _) q2),VX,Nat.reduceEqDiff,Nat.reduceAdd]
 refine Zc (by have:=Zl;omega) hg0 (by have:=Kp;omega) fun r4 H4 p4 s4' => ?_
 simp only[pL,lA,ld3 s2' (cL p4 q2),VX,Nat.reduceEqDiff,Nat.reduceAdd]
 refine Fx s0 Zl hi0 Kp (s2'.pre (p3.trans p4)) s4' ?_
 simp only[pL,lA,ld3 s2' (cL p4 q2),VX,Nat.reduceEqDiff,Nat.reduceAdd]
 refine Zc (by have:=Zl;omega) hg0 (by have:=Kp;omega) fun r5 H5 p5 s5' => ?_
 simp only[pL,lA,VX,Nat.reduceEqDiff,Nat.reduceAdd]
 refine Tm ci rfl pa (fz1 (s5'.pre (aOm _)).fz) rfl ?_
 simp only[pL,lA,JO,UG,VX,Nat.reduceEqDiff,Nat.reduceAdd]
 exact aL rfl
end Go.PM
namespace Go.PM
open Go.Proofs
theorem HD {P:Program} {w:World} {name:String} {d:DataW Unit}:∀ {l:List (String×DataW Unit)} {ps:List MemPlace},DataW.LaidVars P w l ps→(name,d)∈l →
  ∃g t cs fuel p,P.globalNamed name=some g∧(P.globals[g]?).map (·.type)=some t∧w.var? P name=some cs∧DataW.trod (fun _=>()) P w 0 (fun _=>true) false fuel t cs.toList=some (d,p)
 | [],_,_,hm=>by cases hm
 |
  (n,e)::r,ps,h,hm=>by
  obtain⟨g,t,cs,fuel,p,q,h1,h2,h3,h4,h5,_⟩:=h
  rcases List.mem_cons.1 hm with he | hm
  ·cases he
   exact⟨g,t,cs,fuel,p,h1,h2,h3,h4⟩
  ·exact HD h5 hm
theorem P6 {W:World} {l:List (String×DataW Unit)} (hl:laidMetH Tryz.prog l W) (hp:(l.all fun x=>x.2.handleName?.isNone)=true) (hm:("internal/strconv.uint64pow10",Lib.tabData .u64 Lib.pow10Tab)∈l)
  {t e:TypeId} {n:Nat} (hty:(Tryz.prog.globals[3]?).map (·.type)=some t) (ht:Tryz.prog.underlying t=some (.array n e)) (he:Tryz.prog.underlying e=some (.int .u64)) (hce:Tryz.prog.cellsOf e=1) (hct:Tryz.prog.cellsOf t=n):SA W:=by
 rw[MakeChecks.laidMetH_plain _ _ _ hp] at hl
 obtain⟨ps,h1,_⟩:=hl
 obtain⟨g',t',cs,fuel,p,hg',ht',ajP,hd⟩:=HD h1 hm
 have hg:Tryz.prog.globalNamed "internal/strconv.uint64pow10"=some 3:=by kernel_rfl
 obtain rfl:=Option.some.inj (hg.symm.trans hg')
 obtain rfl:=Option.some.inj (hty.symm.trans ht')
 have P4:=Lib.cells_of_tab ht he hce hct hd
 intro x hx
 have Kg:x=(3,(Lib.pow10Tab.map fun z=>Value.int .u64 z).toArray):=by simpa[arM] using hx
 subst Kg
 unfold World.var? at ajP
 rw[hg,Option.bind_some] at ajP
 split at ajP
 ·rename_i CH e' fz' hh
  cases ajP
  refine⟨e',fz',?_⟩
  rw[←P4]
  simpa using hh
 ·cases ajP
end Go.PM