/- Texts of a claim, in one: part 12. -/
import Derived.KernelRfl
import Derived.Lib.LaidTab
import Derived.LaidLaws
import Derived.LaidMore
import Derived.MakeChecks
import Derived.Handed
import Derived.Test.YtodamlihdkalfaaGreatDoorKWk
set_option linter.unusedSimpArgs false
set_option linter.unusedVariables false
namespace Go.PM
open Go.Lib
def CN (l:List UInt8):VV:=match xB l with
 | some q => .eG [bG q,VB true]
 | none => .eG [Jh,VB false]
theorem Bs (q:Rat):aP (bG q)=true:=by simp[bG,aP,aN,cA,nJ]
theorem Mf (q:Rat):gK (bG q)=true:=by simp[bG,gK,pB,mW,nJ]
theorem Sv (l:List UInt8):gK (CN l)=true:=by
 unfold CN
 split<;>simp[gK,pB,Mf,Ou,nJ]
theorem Jn {neg:Bool} {t b:Nat} (hb:b≠0) (hg:Nat.gcd t b=1) (hn:¬(neg=true∧t=0)):bG (mkRat (pR neg t) b) = .agg [VB neg,bT t,bT b]:=by
 obtain⟨e1,e2⟩:=HG (neg:=neg) hb hg
 refine Nq ?_ (by rw[e1,zQ]) e2
 rw[e1]
 cases neg with
 | false=>unfold pR;simp
 |
  true =>
  have:t≠0:=fun h=>hn ⟨rfl,h⟩
  unfold pR
  simp
  omega
theorem C3 {n:Nat}:(((aD 1000000000 n).length:Nat):Int)=0↔n=0:=by
 rw[←oJ (b:=1000000000) (n:=n) (by decide),←List.length_eq_zero_iff]
 omega
theorem OL {neg:Bool} {d t:List UInt8} (h:(47:UInt8)∈t):nY neg d (some t)=none:=by
 have ht:iC t=false:=by
  cases hk:iC t with
  | false=>rfl
  | true=>exact absurd h (XN (jQ.1 hk).1)
 unfold nY
 split
 ·rfl
 ·simp only
  rw[if_neg (fun h=>by rw[ht] at h;exact absurd h.1 (by decide))]
theorem at_one (x:List UInt8) (H:aA):bF 1 (aC cN [x]) (VI 0) H=some (.cP (cN x) 0):=aG (f:=cN) (t := .op) (H:=H) (size:=1) (k := .i64) (xs:=[x]) (i:=0) rfl rfl
theorem aaC (x y:List UInt8) (H:aA):bF 1 (aC cN [x,y]) (VI 0) H=some (.cP (cN x) 0):=aG (f:=cN) (t := .op) (H:=H) (size:=1) (k := .i64) (xs:=[x,y]) (i:=0) rfl rfl
theorem aaR (x y:List UInt8) (H:aA):bF 1 (aC cN [x,y]) (VI 1) H=some (.cP (cN y) 0):=aG (f:=cN) (t := .op) (H:=H) (size:=1) (k := .i64) (xs:=[x,y]) (i:=1) rfl rfl
theorem SH (x:List UInt8) (H:aA):pX (aC cN [x]) H=some (VI 1):=dM (f:=cN) (xs:=[x])
theorem Zk (x y:List UInt8) (H:aA):pX (aC cN [x,y]) H=some (VI 2):=dM (f:=cN) (xs:=[x,y])
set_option maxRecDepth 100000 in
set_option maxHeartbeats 4000000 in
theorem Iu (l:List UInt8) (hl:l.length≤1000000000):TC 175 [cN l] (CN l):=by
 refine TC.walk ⟨true,false⟩ Ix rfl (Nat.le_of_ble_eq_true rfl) rfl (Sv l) ?_
 by_cases zB:l=[]
 ·subst zB
  have eC:TC 222 [.sc (.string ⟨#[]⟩),.sc (.int .u8 47)] (aC cN [[]]):=DS [] 47 (by simp)
  have eD:TC 223 [.sc (.string ⟨#[]⟩)] (VB false):=pJ [] (by simp)
  have e1:AW (.string ⟨#[]⟩)=some (.int .i64 0):=rfl
  have a1:=at_one []
  have a2:=SH []
  simp only[bR,bD,e1,eC,eD,a1,a2,Int.reduceLT,Int.reduceLE,aI,iH,Nat.reduceLeDiff,Nat.reduceLT,Nat.reduceSub,VX,Nat.reduceEqDiff,Nat.reduceAdd]
  exact bE (d:=6) gC (aH (v:=VB false) rfl)
 have hp:0<l.length:=List.length_pos_iff.2 zB
 have kI:(0:Int)<(l.length:Int):=by omega
 have e0:=Hn l hp
 unfold CN
 unfold xB
 have mP:isNeg l=decide (((l.getD 0 0).toNat:Int)=45):=by
  unfold isNeg
  rw[decide_eq_true (show 1≤l.length from hp),Bool.true_and]
  refine decide_eq_decide.2 ⟨fun h=>by rw[h];rfl,fun h=>UInt8.toNat_inj.1 (by rw[show (45:UInt8).toNat=45 from rfl];omega)⟩
 have QM:(if isNeg l=true then l.drop 1 else l).length≤l.length:=by split<;>simp
 have q0:isNeg l=false→¬((l.getD 0 0).toNat:Int)=45:=fun h=>by rw[mP] at h;exact of_decide_eq_false h
 have q9:isNeg l=true→((l.getD 0 0).toNat:Int)=45:=fun h=>by rw[mP] at h;exact of_decide_eq_true h
 have r0:isNeg l=false→(if isNeg l=true then l.drop 1 else l)=l:=fun h=>by rw[h];rfl
 have r9:isNeg l=true→vQ (cN l) (some (VI 1)) none=some (cN (if isNeg l=true then l.drop 1 else l)):=fun h=>by rw[h];exact Uu l (a:=1) hp
 generalize (if isNeg l=true then l.drop 1 else l)=r at *
 generalize isNeg l=neg at *
 clear mP
 have eC:TC 222 [cN r,.sc (.int .u8 47)] (aC cN (gW 47 r)):=DS r 47 (by omega)
 obtain⟨l1,l2⟩:=Qs (c:=47) (l:=r)
 cases hs:(lX 47 r).2 with
 |
  none =>
  have hd:=(Ax hs).2.1
  rw[Pp hs] at eC
  rw[hd]
  have a1:=at_one r
  have a2:=SH r
  have eD:=pJ r (by omega)
  cases hk:iC r with
  |
   false =>
   rw[hk] at eD
   have VH:nY neg r none=none:=if_pos (.inl hk)
   rw[VH]
   cases neg with
   |
    false =>
    have q1:=q0 rfl
    have QM:=r0 rfl
    subst QM
    simp only[bR,bD,bO,kI,e0,q1,eC,eD,a1,a2,Int.reduceLT,aI,bC,aS,aU,eQ,fO,dK,fP,iH,Nat.reduceLeDiff,Nat.reduceLT,Nat.reduceSub,VX,Nat.reduceEqDiff,Nat.reduceAdd]
    exact bE (d:=6) gC (aH (v:=VB false) rfl)
   |
    true =>
    have q1:=q9 rfl
    have e9:=r9 rfl
    simp only[bR,bD,bO,kI,e0,q1,eC,eD,a1,a2,Int.reduceLT,e9,aI,bC,aS,aU,eQ,fO,dK,fP,iH,Nat.reduceLeDiff,Nat.reduceLT,Nat.reduceSub,VX,Nat.reduceEqDiff,Nat.reduceAdd]
    exact bE (d:=6) gC (aH (v:=VB false) rfl)
  |
   true =>
   rw[hk] at eD
   have hbt:=xX hk
   have eN:=rN r (jQ.1 hk).1 (by omega)
   by_cases hz:neg=true∧bN r=0
   ·have VH:nY neg r none=none:=if_pos (.inr hz)
    rw[VH]
    obtain⟨rfl,Gt⟩:=hz
    have q1:=q9 rfl
    have e9:=r9 rfl
    have GC:(((aD 1000000000 (bN r)).length:Nat):Int)=0:=C3.2 Gt
    simp only[bR,bD,bO,kI,e0,q1,eC,eD,a1,a2,eN,e9,cQ,GC,Int.reduceLT,aI,bC,aS,aU,eQ,fO,dK,fP,iH,Nat.reduceLeDiff,Nat.reduceLT,Nat.reduceSub,VX,Nat.reduceEqDiff,Nat.reduceAdd]
    exact bE (d:=6) gC (aH (v:=VB false) rfl)
   ·have DN:neg=true→¬(((aD 1000000000 (bN r)).length:Nat):Int)=0:=fun h h0=>hz ⟨h,C3.1 h0⟩
    have VH:nY neg r none=some (mkRat (pR neg (bN r)) 1):=if_neg (by rw[hk];rintro(h | h);exact absurd h (by decide);exact hz h)
    rw[VH]
    simp only[]
    rw[Jn (by decide) (Nat.gcd_one_right _) hz]
    cases neg with
    |
     false =>
     have q1:=q0 rfl
     have QM:=r0 rfl
     subst QM
     simp only[bR,bD,bO,kI,e0,q1,eC,eD,a1,a2,eN,Int.reduceLT,Int.reduceEq,aI,bC,aS,aU,eQ,fO,dK,fP,iH,Nat.reduceLeDiff,Nat.reduceLT,Nat.reduceSub,VX,Nat.reduceEqDiff,Nat.reduceAdd]
     exact bE (d:=6) (qN (aH (v:=VB false) rfl) (aH (cA _)) Nn) (aH (v:=VB true) rfl)
    |
     true =>
     have q1:=q9 rfl
     have e9:=r9 rfl
     have GC:=DN rfl
     simp only[bR,bD,bO,kI,e0,q1,eC,eD,a1,a2,eN,Int.reduceLT,Int.reduceEq,e9,cQ,GC,aI,bC,aS,aU,eQ,fO,dK,fP,iH,Nat.reduceLeDiff,Nat.reduceLT,Nat.reduceSub,VX,Nat.reduceEqDiff,Nat.reduceAdd]
     exact bE (d:=6) (qN (aH (v:=VB true) rfl) (aH (cA _)) Nn) (aH (v:=VB true) rfl)
 |
  some t =>
  have ltt:=l2 t hs
  rw[HZ hs] at eC
  generalize (lX 47 r).1=d at *
  by_cases hm:(47:UInt8)∈t
  ·rw[OL hm]
   have hP:=PD hm
   generalize hPP:gW 47 t=P at *
   have a2:∀H,pX (aC cN (d::P)) H=some (VI ((d::P).length:Int)):=fun H=>dM (f:=cN) (xs:=d::P)
   have hq3:(2:Int)<((d::P).length:Int):=by rw[List.length_cons];omega
   generalize hQQ:d::P=PP at *
   clear hQQ hPP hP
   cases neg with
   |
    false =>
    have q1:=q0 rfl
    have QM:=r0 rfl
    subst QM
    simp only[bR,bD,bO,kI,e0,q1,eC,a2,hq3,aI,bC,aS,aU,eQ,fO,dK,fP,iH,Nat.reduceLeDiff,Nat.reduceLT,Nat.reduceSub,VX,Nat.reduceEqDiff,Nat.reduceAdd]
    exact bE (d:=6) gC (aH (v:=VB false) rfl)
   |
    true =>
    have q1:=q9 rfl
    have e9:=r9 rfl
    simp only[bR,bD,bO,kI,e0,q1,eC,a2,hq3,e9,aI,bC,aS,aU,eQ,fO,dK,fP,iH,Nat.reduceLeDiff,Nat.reduceLT,Nat.reduceSub,VX,Nat.reduceEqDiff,Nat.reduceAdd]
    exact bE (d:=6) gC (aH (v:=VB false) rfl)
  ·rw[EN hm] at eC
   have a1:=aaC d t
   have a3:=aaR d t
   have a2:=Zk d t
   have eD:=pJ d (by omega)
   have eF:=pJ t (by omega)
   cases hk:iC d with
   |
    false =>
    rw[hk] at eD
    have VH:nY neg d (some t)=none:=if_pos (.inl hk)
    rw[VH]
    cases neg with
    |
     false =>
     have q1:=q0 rfl
     have QM:=r0 rfl
     subst QM
     simp only[bR,bD,bO,kI,e0,q1,eC,eD,a1,a2,Int.reduceLT,aI,bC,aS,aU,eQ,fO,dK,fP,iH,Nat.reduceLeDiff,Nat.reduceLT,Nat.reduceSub,VX,Nat.reduceEqDiff,Nat.reduceAdd]
     exact bE (d:=6) gC (aH (v:=VB false) rfl)
    |
     true =>
     have q1:=q9 rfl
     have e9:=r9 rfl
     simp only[bR,bD,bO,kI,e0,q1,eC,eD,a1,a2,Int.reduceLT,e9,aI,bC,aS,aU,eQ,fO,dK,fP,iH,Nat.reduceLeDiff,Nat.reduceLT,Nat.reduceSub,VX,Nat.reduceEqDiff,Nat.reduceAdd]
     exact bE (d:=6) gC (aH (v:=VB false) rfl)
   |
    true =>
    rw[hk] at eD
    have hbt:=xX hk
    have eN:=rN d (jQ.1 hk).1 (by omega)
    by_cases hz:neg=true∧bN d=0
    ·have VH:nY neg d (some t)=none:=if_pos (.inr hz)
     rw[VH]
     obtain⟨rfl,Gt⟩:=hz
     have q1:=q9 rfl
     have e9:=r9 rfl
     have GC:(((aD 1000000000 (bN d)).length:Nat):Int)=0:=C3.2 Gt
     simp only[bR,bD,bO,kI,e0,q1,eC,eD,a1,a2,eN,e9,cQ,GC,Int.reduceLT,aI,bC,aS,aU,eQ,fO,dK,fP,iH,Nat.reduceLeDiff,Nat.reduceLT,Nat.reduceSub,VX,Nat.reduceEqDiff,Nat.reduceAdd]
     exact bE (d:=6) gC (aH (v:=VB false) rfl)
    ·have DN:neg=true→¬(((aD 1000000000 (bN d)).length:Nat):Int)=0:=fun h h0=>hz ⟨h,C3.1 h0⟩
     have VH:nY neg d (some t)=if iC t=true∧1<bN t∧Nat.gcd (bN d) (bN t)=1 then some (mkRat (pR neg (bN d)) (bN t)) else none:=if_neg (by rw[hk];rintro(h | h);exact absurd h (by decide);exact hz h)
     rw[VH]
     clear VH
     cases ht:iC t with
     |
      false =>
      rw[ht] at eF
      rw[if_neg (fun h=>absurd h.1 (by decide))]
      cases neg with
      |
       false =>
       have q1:=q0 rfl
       have QM:=r0 rfl
       subst QM
       simp only[bR,bD,bO,kI,e0,q1,eC,eD,eF,a1,a2,a3,eN,Int.reduceLT,Int.reduceEq,aI,bC,aS,aU,eQ,fO,dK,fP,iH,Nat.reduceLeDiff,Nat.reduceLT,Nat.reduceSub,VX,Nat.reduceEqDiff,Nat.reduceAdd]
       exact bE (d:=6) gC (aH (v:=VB false) rfl)
      |
       true =>
       have q1:=q9 rfl
       have e9:=r9 rfl
       have GC:=DN rfl
       simp only[bR,bD,bO,kI,e0,q1,eC,eD,eF,a1,a2,a3,eN,Int.reduceLT,Int.reduceEq,e9,cQ,GC,aI,bC,aS,aU,eQ,fO,dK,fP,iH,Nat.reduceLeDiff,Nat.reduceLT,Nat.reduceSub,VX,Nat.reduceEqDiff,Nat.reduceAdd]
       exact bE (d:=6) gC (aH (v:=VB false) rfl)
     |
      true =>
      rw[ht] at eF
      have Km:=xX ht
      have eM:=rN t (jQ.1 ht).1 (by omega)
      have c2:∀lo H K,_:=fun lo H K=>ND (n:=bN t) (lo:=lo) (H:=H) (K:=K) (Nat.le_of_lt (rS (by omega)))
      have c3:=Ed (bN d) (bN t) (rS (by omega)) (rS (by omega))
      by_cases h1:fD (bN t) 1≤0
      ·have hle:¬1<bN t:=fun h=>by unfold fD at h1;rw[if_neg (by omega),if_neg (by omega)] at h1;exact absurd h1 (by decide)
       rw[if_neg (fun h=>hle h.2.1)]
       cases neg with
       |
        false =>
        have q1:=q0 rfl
        have QM:=r0 rfl
        subst QM
        simp only[bR,bD,bO,kI,e0,q1,eC,eD,eF,a1,a2,a3,eN,eM,c2,h1,Int.reduceLT,Int.reduceEq,aI,bC,aS,aU,eQ,fO,dK,fP,iH,Nat.reduceLeDiff,Nat.reduceLT,Nat.reduceSub,VX,Nat.reduceEqDiff,Nat.reduceAdd]
        exact bE (d:=6) gC (aH (v:=VB false) rfl)
       |
        true =>
        have q1:=q9 rfl
        have e9:=r9 rfl
        have GC:=DN rfl
        simp only[bR,bD,bO,kI,e0,q1,eC,eD,eF,a1,a2,a3,eN,eM,c2,h1,Int.reduceLT,Int.reduceEq,e9,cQ,GC,aI,bC,aS,aU,eQ,fO,dK,fP,iH,Nat.reduceLeDiff,Nat.reduceLT,Nat.reduceSub,VX,Nat.reduceEqDiff,Nat.reduceAdd]
        exact bE (d:=6) gC (aH (v:=VB false) rfl)
      ·have aX:1<bN t:=by
        rcases Nat.lt_or_ge 1 (bN t) with h | h
        ·exact h
        ·exfalso
         apply h1
         unfold fD
         split<;>(try split)<;>first | decide | omega
       have YS:bl (Nat.gcd (bN d) (bN t))≤665:=Nat.le_trans (rZ (Nat.le_of_dvd (by omega) (Nat.gcd_dvd_right _ _))) Km
       have c4:∀lo H K,_:=fun lo H K=>ND (n:=Nat.gcd (bN d) (bN t)) (lo:=lo) (H:=H) (K:=K) (Nat.le_of_lt (rS (by omega)))
       by_cases hg:Nat.gcd (bN d) (bN t)=1
       ·have h4:fD (Nat.gcd (bN d) (bN t)) 1=0:=by rw[hg];rfl
        rw[if_pos ⟨rfl,aX,hg⟩]
        simp only[]
        rw[Jn (by omega) hg hz]
        cases neg with
        |
         false =>
         have q1:=q0 rfl
         have QM:=r0 rfl
         subst QM
         simp only[bR,bD,bO,kI,e0,q1,eC,eD,eF,a1,a2,a3,eN,eM,c2,c3,c4,h1,h4,Int.reduceLT,Int.reduceEq,aI,bC,aS,aU,eQ,fO,dK,fP,iH,Nat.reduceLeDiff,Nat.reduceLT,Nat.reduceSub,VX,Nat.reduceEqDiff,Nat.reduceAdd]
         exact bE (d:=6) (qN (aH (v:=VB false) rfl) (aH (cA _)) (aH (cA _))) (aH (v:=VB true) rfl)
        |
         true =>
         have q1:=q9 rfl
         have e9:=r9 rfl
         have GC:=DN rfl
         simp only[bR,bD,bO,kI,e0,q1,eC,eD,eF,a1,a2,a3,eN,eM,c2,c3,c4,h1,h4,Int.reduceLT,Int.reduceEq,e9,cQ,GC,aI,bC,aS,aU,eQ,fO,dK,fP,iH,Nat.reduceLeDiff,Nat.reduceLT,Nat.reduceSub,VX,Nat.reduceEqDiff,Nat.reduceAdd]
         exact bE (d:=6) (qN (aH (v:=VB true) rfl) (aH (cA _)) (aH (cA _))) (aH (v:=VB true) rfl)
       ·have h4:¬fD (Nat.gcd (bN d) (bN t)) 1=0:=by
         unfold fD
         split<;>(try split)<;>first | decide | omega
        rw[if_neg (fun h=>hg h.2.2)]
        cases neg with
        |
         false =>
         have q1:=q0 rfl
         have QM:=r0 rfl
         subst QM
         simp only[bR,bD,bO,kI,e0,q1,eC,eD,eF,a1,a2,a3,eN,eM,c2,c3,c4,h1,h4,Int.reduceLT,Int.reduceEq,aI,bC,aS,aU,eQ,fO,dK,fP,iH,Nat.reduceLeDiff,Nat.reduceLT,Nat.reduceSub,VX,Nat.reduceEqDiff,Nat.reduceAdd]
         exact bE (d:=6) gC (aH (v:=VB false) rfl)
        |
         true =>
         have q1:=q9 rfl
         have e9:=r9 rfl
         have GC:=DN rfl
         simp only[bR,bD,bO,kI,e0,q1,eC,eD,eF,a1,a2,a3,eN,eM,c2,c3,c4,h1,h4,Int.reduceLT,Int.reduceEq,e9,cQ,GC,aI,bC,aS,aU,eQ,fO,dK,fP,iH,Nat.reduceLeDiff,Nat.reduceLT,Nat.reduceSub,VX,Nat.reduceEqDiff,Nat.reduceAdd]
         exact bE (d:=6) gC (aH (v:=VB false) rfl)
end Go.PM
namespace Go.PM
open Go.Lib
end Go.PM
namespace Go.PM
open Go.Lib
theorem Px {l:List UInt8} {q:Rat} (h:xB l=some q):CN l = .eG [bG q,VB true]:=by unfold CN;rw[h]
theorem PL {l:List UInt8} (h:xB l=none):CN l = .eG [Jh,VB false]:=by unfold CN;rw[h]
end Go.PM
namespace Go.PM
open Go.Lib
def Qa (o:Option (List Rat)):VV:=match o with
 | some qs => .eG [aC bG qs,VB true]
 | none => .eG [aC bG [],VB false]
theorem Bv:Qa none = .eG [aC bG [],VB false]:=rfl
theorem A6 (qs:List Rat):Qa (some qs) = .eG [aC bG qs,VB true]:=rfl
theorem GV (q:Rat):(aB (bG q)).length=3:=rfl
theorem oS (qs:List Rat):aP (aC bG qs)=true:=lJ GV Bs
theorem U6 (q:Rat):Ah (bG q)=true:=by simp[Ah,bG,bT,iB]
theorem Dy (qs:List Rat):gK (aC bG qs)=true:=uN GV Mf U6
theorem Vt (o:Option (List Rat)):gK (Qa o)=true:=by
 unfold Qa
 split
 ·exact uQ (Dy _) rfl
 ·exact uQ (Dy []) rfl
set_option maxHeartbeats 1000000 in
theorem xN (xs:List ByteArray) (hn:xs.length≤1000000000) (hs:∀s∈xs,s.size≤1000000000):TC 115 [fG xs] (Qa (qG xs)):=by
 refine TC.walk ⟨true,false⟩ Kc rfl (Nat.le_of_ble_eq_true rfl) (by simp[aN,iY]) (Vt _) ?_
 unfold qG
 by_cases RQ:(300:Int)<(xs.length:Int)
 ·rw[if_neg (by omega)]
  simp only[Bi,xQ,RQ,VX,Nat.reduceEqDiff,Nat.reduceAdd]
  exact EL
 rw[if_pos (by omega)]
 have e0:=fun H=>vC (H:=H) (lr:=false) (z:=[.bool false,.slice none 0 0,.slice none 0 0]) rfl
 simp only[Bi,xQ,RQ,e0,VX,Nat.reduceEqDiff,Nat.reduceAdd]
 refine KA (fun(s:Nat×List Rat) ρ H=>s.1≤xs.length∧(xs.take s.1).mapM pQ=some s.2∧H=[.row s.1 (s.2.map bG) 3 true]∧ρ 4 = .ref 0 s.1 0 s.1 s.1∧ρ 0=fG xs∧ρ 13=VI xs.length∧ρ 14=VI s.1) (fun s=>xs.length-s.1) (0,[]) ⟨Nat.zero_le _,rfl,rfl,rfl,rfl,rfl,rfl⟩ ?_
 rintro⟨i,out⟩ ρ H ⟨hi,yW,rfl,g4,g13,g14,g15⟩
 simp only at hi yW g4 g15
 have fU:out.length=i:=by rw[xO yW,List.length_take];omega
 by_cases cB:(i:Int)<(xs.length:Int)
 ·obtain⟨x,hx⟩:∃x,xs[i]? = some x:=⟨_,List.getElem?_eq_getElem (by omega)⟩
  have Wi:=List.mem_of_getElem? hx
  have e1:=fun H=>aG (f:=sV) (t := .op) (H:=H) (size:=1) (k := .i64) hx rfl
  have wi:IntKind.i64.wrap ((i:Int)+1)=((i+1:Nat):Int):=wrapN (i+1) (by omega) (by omega)
  have e2:=Iu x.data.toList (by have:=hs x Wi;rw[Array.length_toList];show x.size≤_;omega)
  rw[←Yj] at e2
  cases hp:pQ x with
  |
   none =>
   rw[PL hp] at e2
   rw[mapM_none hp Wi]
   simp only[qT,g4,g13,g14,g15,cB,e1,e2,HQ,Jj,Pe,bB,aZ,aQ,iH,Nat.reduceLeDiff,Nat.reduceLT,Nat.reduceSub,kC,bL,bW,eE,jC,lW,bne_iff_ne,ne_eq,not_false_eq_true,not_true_eq_false,VX,Nat.reduceEqDiff,Nat.reduceAdd]
   exact EL
  |
   some q =>
   rw[Px hp] at e2
   have eL:∀H,tY false [.bool false,.slice none 0 0,.slice none 0 0] 1 [(0,bG q)] H=some (.tree [bG q] (.cl 3),H):=fun H=>uM rfl rfl rfl
   have eS:∀H,fF 3 (.tree [bG q] (.cl 3)) H=some [bG q]:=fun H=>oI rfl rfl
   have eP:eJ 0 3 56 (.ref 0 i 0 i i) [bG q] [.row i (out.map bG) 3 true,.row 0 [bG q] 3 true]=some (.ref 0 (i+1) 0 (i+1) (i+1),[.row (i+1) ((out++[q]).map bG) 3 true,.row 0 [bG q] 3 true]):=by
    rw[oG (f:=bG) (xs:=out) (by rw[aR]) fU.symm (Nat.le_refl _) (by decide) (by decide) (by omega),List.set_cons_zero]
   simp only[qT,g4,g13,g14,g15,cB,e1,e2,eL,eS,eP,wi,fK,oK,jI,aS,bC,aU,iH,Nat.reduceLeDiff,Nat.reduceLT,Nat.reduceSub,kC,bL,bW,eE,jC,lW,bne_iff_ne,ne_eq,not_false_eq_true,not_true_eq_false,VX,Nat.reduceEqDiff,Nat.reduceAdd]
   refine⟨(i+1,out++[q]),by simp only;omega,?_,by simp only;omega,by simp only[AE hx];exact Li yW hp,rfl,?_⟩
   ·rw[Ao (mA _ (dZ Bs)),G8]
   ·simp only[gT,g13,g14,wS (iY _),wL (Nat.lt_succ_self 0),VX,Nat.reduceEqDiff,Nat.reduceAdd,List.take_zero,lQ,List.all_nil,List.length_nil,gT,KG,wS]
 ·have pD:i=xs.length:=by omega
  subst pD
  rw[List.take_length] at yW
  rw[yW]
  simp only[qT,g4,g13,g14,g15,cB,VX,Nat.reduceEqDiff,Nat.reduceAdd]
  refine bE (d:=6) ?_ (aH (v:=VB true) rfl)
  have:=Qx (d:=5) (w:=true) (f:=bG) (e:=3) (b:=0) (g:=xs.length) (c:=xs.length) (xs:=out) (H:=[.row xs.length (out.map bG) 3 true]) Bs (by rw[aR]) (by omega)
  rw[fU] at this
  exact this
set_option maxHeartbeats 1000000 in
theorem Vo {lo:Nat} {H:aA} {q:Rat} (h:lo≤H.length):cD lo 3 (.ptr H.length 0 0 0) (bG q) (H++[cell0])=some (H++[.row 0 [bG q] 3 true]):=by
 rw[dI (g:=0) (e:=3) (j:=0) AA (by exact Nat.zero_lt_one) h rfl rfl,I1]
 rfl
theorem Io {lo:Nat} {H:aA} {v:VV} (qs:List Rat) {B:Nat} (hv:Rd bG 3 qs H v) (iD:lo≤H.length) (hb:∀q∈qs,iR q≤B) (hk:qs.length*(B+1)+1≤1099511627776) (hB:B≤1099511627776) (hn:qs.length≤1000000000) :
  qD 142 [v] lo H (Xn (fun _ _ _ r=>r=bG (vB qs)) H):=by
 refine qD.walk ⟨true,false⟩ IB (Nat.le_of_ble_eq_true rfl) ?_
 have e1:=JS
 have e2:=hv.len (H++[cell0,.row 0 [bG 0] 3 true]) (List.prefix_append _ _)
 have s0:cD lo 3 (.ptr (H.length+1) 0 0 0) (bG 0) (H++[cell0,cell0])=some (H++[cell0,.row 0 [bG 0] 3 true]):=by
  have:=Vo (lo:=lo) (H:=H++[cell0]) (q:=0) (by rw[List.length_append];omega)
  simpa only[List.length_append,List.length_cons,List.length_nil,Nat.zero_add,List.append_assoc,List.cons_append,List.nil_append] using this
 simp only[D8,BG,e1,e2,s0,List.length_append,List.length_cons,List.length_nil,List.append_assoc,List.cons_append,List.nil_append,oU,VX,Nat.reduceEqDiff,Nat.reduceAdd,Nat.reduceLeDiff,Nat.reduceLT,Nat.reduceSub]
 refine aW (fun(i:Nat) ρ H1=>i≤qs.length∧H <+: H1∧aK H1 H.length 0=some ([rz],3,true)∧aK H1 (H.length+1) 0=some ([bG (vB (qs.take i))],3,true)∧ρ 2 = .ptr H.length 0 0 0∧ρ 3 = .ptr (H.length+1) 0 0 0∧ρ 0=v∧ρ 7=VI qs.length∧ρ 8=VI i) (fun i=>qs.length-i) 0 ⟨Nat.zero_le _,List.prefix_append _ _,IF.trans aR,ML.trans (dU.trans aR),rfl,rfl,rfl,rfl,rfl⟩ ?_
 rintro i ρ H1 ⟨hi,hp,KZ,Rs,g2,g3,g0,g7,g8⟩
 have Dd:=E4 Rs
 have s3:cU true 3 (.ptr (H.length+1) 0 0 0) H1=some (bG (vB (qs.take i))):=by
  rw[fI,Rs]
  exact jI _
 by_cases cB:(i:Int)<(qs.length:Int)
 ·obtain⟨q,hq⟩:∃q,qs[i]? = some q:=⟨_,List.getElem?_eq_getElem (by omega)⟩
  obtain⟨p,a1,a2⟩:=hv.get H1 hp i q hq
  have a2':=(a2 true).trans (jI _)
  have wi:IntKind.i64.wrap ((i:Int)+1)=((i+1:Nat):Int):=wrapN (i+1) (by omega) (by omega)
  have h1:=Bp hb i
  have h2:=hb q (List.mem_of_getElem? hq)
  have h3:(i+1)*(B+1)≤qs.length*(B+1):=Nat.mul_le_mul_right _ (by omega)
  have e3:=K8 (vB (qs.take i)) q (by omega) (by omega)
  rw[←Lq hq] at e3
  have s4:=dI (lo:=lo) (v:=bG (vB (qs.take (i+1)))) (j:=0) Rs (by exact Nat.zero_lt_one) (by omega) rfl rfl
  rw[List.set_cons_zero] at s4
  simp only[uB,g2,g3,g0,g7,g8,cB,a1,a2',e3,s3,s4,wi,oU,VX,Nat.reduceEqDiff,Nat.reduceAdd,Nat.reduceLeDiff,Nat.reduceLT,Nat.reduceSub]
  exact⟨i+1,by omega,by omega,Fb hp (by omega),cI (by omega) KZ,iK Rs,by (repeat' apply And.intro)<;>first | rfl | trivial | assumption⟩
 ·have pD:i=qs.length:=by omega
  subst pD
  rw[List.take_length] at s3
  have s4:=dI (lo:=lo) (v:=bG (vB qs)) (j:=0) KZ (by exact Nat.zero_lt_one) iD rfl rfl
  rw[List.set_cons_zero] at s4
  have s5:cU true 3 (.ptr H.length 0 0 0) (H1.set H.length (.row 0 [bG (vB qs)] 3 true))=some (bG (vB qs)):=by
   rw[fI,iK KZ]
   exact jI _
  simp only[uB,g2,g3,g7,g8,cB,s3,s4,s5,oU,VX,Nat.reduceEqDiff,Nat.reduceAdd,Nat.reduceLeDiff,Nat.reduceLT,Nat.reduceSub]
  exact⟨Fb hp (Nat.le_refl _),rfl⟩
theorem Tz {q:Rat}:q.num<0↔q<0:=by rw[←Int.not_le,Rat.num_nonneg];constructor<;>intro h<;>grind
theorem qX (qs:List Rat) (hn:qs.length≤1000000000):TC 140 [aC bG qs] (VB (!(qs.any fun q=>decide (q<0)))):=by
 refine TC.walk ⟨true,false⟩ Eh rfl (Nat.le_of_ble_eq_true rfl) (by simp[aN,oS]) rfl ?_
 simp only[An,wU,VX,Nat.reduceEqDiff,Nat.reduceAdd]
 refine aW (fun(i:Nat) ρ H=>i≤qs.length∧H=[]∧(∀j x,j<i→qs[j]? = some x→¬x<0)∧ρ 0=aC bG qs∧ρ 5=VI qs.length∧ρ 6=VI i) (fun i=>qs.length-i) 0 ⟨Nat.zero_le _,rfl,fun j x h=>by omega,rfl,rfl,rfl⟩ ?_
 rintro i ρ H ⟨hi,rfl,kW,g0,g5,g6⟩
 by_cases cB:(i:Int)<(qs.length:Int)
 ·obtain⟨q,hq⟩:∃q,qs[i]? = some q:=⟨_,List.getElem?_eq_getElem (by omega)⟩
  have e2:=fun H=>aG (f:=bG) (t := .op) (H:=H) (size:=3) (k := .i64) hq rfl
  have wi:IntKind.i64.wrap ((i:Int)+1)=((i+1:Nat):Int):=wrapN (i+1) (by omega) (by omega)
  by_cases mP:q.num<0
  ·have vH:qs.any (fun q=>decide (q<0))=true:=List.any_eq_true.2 ⟨q,List.mem_of_getElem? hq,decide_eq_true (Tz.1 mP)⟩
   rw[vH]
   simp only[lE,g0,g5,g6,cB,e2,mP,qF,fK,oK,jI,aS,bC,aU,iH,Nat.reduceLeDiff,Nat.reduceLT,Nat.reduceSub,kC,bL,bW,eE,jC,lW,bne_iff_ne,ne_eq,not_false_eq_true,not_true_eq_false,VX,Nat.reduceEqDiff,Nat.reduceAdd]
   exact aJ rfl
  ·simp only[lE,g0,g5,g6,cB,e2,mP,wi,qF,fK,oK,jI,aS,bC,aU,iH,Nat.reduceLeDiff,Nat.reduceLT,Nat.reduceSub,kC,bL,bW,eE,jC,lW,bne_iff_ne,ne_eq,not_false_eq_true,not_true_eq_false,VX,Nat.reduceEqDiff,Nat.reduceAdd]
   refine⟨i+1,by omega,by omega,fun j y hj hy => ?_,rfl⟩
   rcases Nat.lt_or_ge j i with J6 | J6
   ·exact kW j y J6 hy
   ·have:j=i:=by omega
    subst this
    rw[hq] at hy
    cases hy
    exact mt Tz.2 mP
 ·have pD:i=qs.length:=by omega
  subst pD
  have vH:qs.any (fun q=>decide (q<0))=false:=by
   rw[List.any_eq_false]
   intro x hx
   obtain⟨j,hj⟩:=List.getElem?_of_mem hx
   simpa using kW j x (List.getElem?_eq_some_iff.1 hj).1 hj
  rw[vH]
  simp only[lE,g0,g5,g6,cB,VX,Nat.reduceEqDiff,Nat.reduceAdd]
  exact aJ rfl
theorem RU {a b:Rat}:a=b↔(decide (a.num<0)=decide (b.num<0)∧a.num.natAbs*b.den=b.num.natAbs*a.den):=by
 constructor
 ·rintro rfl
  exact⟨rfl,rfl⟩
 ·rintro⟨h1,h2⟩
  have h3:a.num<0↔b.num<0:=by simpa using h1
  have ha:=a.den_nz
  have hb:=b.den_nz
  have key:a.num*b.den=b.num*a.den→a=b:=fun h=>by
   have:=(Rat.mkRat_eq_iff (n₁:=a.num) (n₂:=b.num) ha hb).2 h
   rwa [Rat.mkRat_self,Rat.mkRat_self] at this
  refine key ?_
  have e1:(a.num.natAbs:Int)*b.den=b.num.natAbs*a.den:=by exact_mod_cast h2
  by_cases hn:a.num<0
  ·have ZM:=h3.1 hn
   have q1:a.num = -(a.num.natAbs:Int):=by omega
   have q2:b.num = -(b.num.natAbs:Int):=by omega
   rw[q1,q2,Int.neg_mul,Int.neg_mul,e1]
  ·have ZM:=mt h3.2 hn
   have q1:a.num=(a.num.natAbs:Int):=by omega
   have q2:b.num=(b.num.natAbs:Int):=by omega
   rw[q1,q2,e1]
set_option maxHeartbeats 1000000 in
theorem Iz (a b:Rat) (W5:iR a≤1099511627776) (R6:iR b≤1099511627776):TC 197 [bG a,bG b] (VB (decide (a=b))):=by
 refine TC.walk ⟨true,false⟩ Iw rfl (Nat.le_of_ble_eq_true rfl) (by simp only[aN,Bs];rfl) rfl ?_
 have b1 := @Am a
 have b2 := @Am b
 have b3 := @Ak a
 have b4 := @Ak b
 have b5:=sP a.num.natAbs b.den
 have b6:=sP b.num.natAbs a.den
 have c1:=lL a.num.natAbs b.den (Nat.le_of_lt (rS (by omega))) (Nat.le_of_lt (rS (by omega)))
 have c2:=lL b.num.natAbs a.den (Nat.le_of_lt (rS (by omega))) (Nat.le_of_lt (rS (by omega)))
 have c3:=uF (a.num.natAbs*b.den) (b.num.natAbs*a.den) (Nat.le_of_lt (rS (by omega))) (Nat.le_of_lt (rS (by omega)))
 by_cases q1:decide (a.num<0)=decide (b.num<0)
 ·have q2:(decide (a.num<0) == decide (b.num<0))=true:=by simpa using q1
  have hz := @Dc (a.num.natAbs*b.den) (b.num.natAbs*a.den)
  by_cases q3:fD (a.num.natAbs*b.den) (b.num.natAbs*a.den)=0
  ·rw[decide_eq_true (RU.2 ⟨q1,hz.1 q3⟩)]
   simp only[uE,qO,c1,c2,c3,q2,q3,vM,fK,qF,uO,uT,aS,iH,Nat.reduceLeDiff,Nat.reduceLT,Nat.reduceSub,kC,bL,bW,eE,jC,lW,bne_iff_ne,ne_eq,not_false_eq_true,not_true_eq_false,VX,Nat.reduceEqDiff,Nat.reduceAdd]
   exact aJ rfl
  ·rw[decide_eq_false (fun h=>q3 (hz.2 (RU.1 h).2))]
   simp only[uE,qO,c1,c2,c3,q2,q3,vM,fK,qF,uO,uT,aS,iH,Nat.reduceLeDiff,Nat.reduceLT,Nat.reduceSub,kC,bL,bW,eE,jC,lW,bne_iff_ne,ne_eq,not_false_eq_true,not_true_eq_false,VX,Nat.reduceEqDiff,Nat.reduceAdd]
   exact aJ rfl
 ·have q2:(decide (a.num<0) == decide (b.num<0))=false:=by simpa using q1
  rw[decide_eq_false (fun h=>q1 (RU.1 h).1)]
  simp only[uE,qO,q2,vM,fK,qF,uO,uT,aS,iH,Nat.reduceLeDiff,Nat.reduceLT,Nat.reduceSub,kC,bL,bW,eE,jC,lW,bne_iff_ne,ne_eq,not_false_eq_true,not_true_eq_false,VX,Nat.reduceEqDiff,Nat.reduceAdd]
  exact aJ rfl
theorem FM (qs:List Rat) (hb:∀q∈qs,iR q≤665) (hl:qs.length≤300):TC 116 [aC bG qs] (VB (lP qs)):=by
 refine TC.walk ⟨true,false⟩ E8 rfl (Nat.le_of_ble_eq_true rfl) (by simp[aN,oS]) rfl ?_
 have e1:=qX qs (by omega)
 have e2:=fun(K:aA)=>Io (lo:=0) (H:=K) (v:=aC bG qs) qs (Rd.tree GV) (Nat.zero_le _) hb (Ki hl) (by omega) (by omega)
 have Y0:=Bp hb qs.length
 rw[List.take_length] at Y0
 have e3:=K7
 have hsr:=Ki hl
 have e4:=Iz (vB qs) 1 (by omega) (by rw[Lk];omega)
 unfold lP
 cases vH:qs.any (fun q=>decide (q<0)) with
 |
  true =>
  rw[vH] at e1
  simp only[Bool.not_true,Bool.false_and] at e1 ⊢
  simp only[vI,rO,e1,VX,Nat.reduceEqDiff,Nat.reduceAdd]
  exact aJ rfl
 |
  false =>
  rw[vH] at e1
  simp only[Bool.not_false,Bool.true_and] at e1 ⊢
  simp only[vI,rO,e1,VX,Nat.reduceEqDiff,Nat.reduceAdd]
  refine EE rfl (e2 _) fun r L hr => ?_
  subst hr
  simp only[e3,e4,VX,Nat.reduceEqDiff,Nat.reduceAdd]
  exact aJ rfl
end Go.PM
namespace Go.PM
open Go.Lib
end Go.PM
namespace Go.PM
end Go.PM
namespace Go.PM
open Go.Lib
theorem Kn (x:List Rat):(aB (aC bG x)).length=1:=rfl
theorem Ua (m:List (List Rat)):aP (aC (aC bG) m)=true:=lJ Kn oS
theorem YJ (m:List (List Rat)):gK (aC (aC bG) m)=true:=uN Kn Dy fun _=>rfl
end Go.PM
namespace Go.PM
end Go.PM
namespace Go.PM
end Go.PM
namespace Go.PM
open Go.Lib
theorem adO {b g j o e:Nat} {H:aA} {es:List VV} {w:Bool} {x x':VV} (h:aK H b g=some (es,e,w)) (hx:es[j]? = some x) (hf:PM.fz 7 H x=some x'):PM.fz depth H (.ptr b g j o)=some (x'.cP o):=by
 show PM.fz (7+1) H _=_
 unfold PM.fz
 have:aP (.ptr b g j o)=false:=rfl
 simp[this,h,hx,hf]
end Go.PM
namespace Go.PM
open Go.Lib
end Go.PM
namespace Go.PM
section
variable {α:Type}
end
end Go.PM
namespace Go.PM
open Go.Lib
theorem SvG.own {n lo hi:Nat} {s:Ag} {H:aA} {v:VV} (h:SvG s lo hi H v) (hn:n≤lo):∃a b c,v = .agg [a,b,c]∧bU a=true∧bU b=true∧bU c=true∧jB n a=true∧jB n b=true∧jB n c=true:=by
 obtain⟨a,b,c,m1,m2,rfl,l1,l2,l3,ha,hb,hc⟩:=h
 refine⟨a,b,c,rfl,ha.cell,hb.cell,hc.cell,?_,?_,?_⟩
 ·rcases ha with⟨rfl,_⟩ | ⟨b,g,c,h1,h2,rfl,h3⟩
  ·rfl
  ·simp[jB];omega
 ·rcases hb with⟨rfl,_⟩ | ⟨b,g,c,rs,h1,h2,rfl,h3⟩
  ·rfl
  ·simp[jB];omega
 ·rcases hc with⟨rfl,_⟩ | ⟨b,g,c,h1,h2,rfl,h3⟩
  ·rfl
  ·simp[jB];omega
abbrev kE:eR := .row 0 [.agg [.tree [] .nil,.tree [] .nil,.tree [] .nil]] 3 true
end Go.PM
namespace Go.PM
def pU:aF:=(LS [LO 1 (.box (LT 0)),LO 2 (.mv LF)] (LS [LO 6 (.call 80 [(LT 1)]),LM 5 6,LO 7 (LX 5 0),LO 8 (LX 5 1),LO 3 (.new [(.slice none 0 0),(.slice none 0 0),(.slice none 0 0)]),LN (.store 3 (LT 3) (LT 7)),LM 4 8] (LS [LM 9 4,LM 2 9] .ret)))
def sJ:aY:=⟨10,[(.tmp 2)],pU⟩
theorem DD:jE 16=some sJ:=by kernel_rfl
def cK:aF:=(.seq (LS [LM 77 10,LM 78 4,LO 79 (.bin .lss (LT 77) (LT 78))] (.cond (LT 79) .skip (.exit 0))) (.seq (.block 1 (LS [LM 83 0,LO 84 (.chk (LT 83)),LO 85 (LA 1 84),LO 86 (LL 85),LM 87 10,LO 88 (.iaddr 1 (LT 86) (LT 87)),LO 89 (LL 88),LO 90 (.call 115 [(LT 89)]),LM 82 90,LO 91 (LX 82 0),LO 92 (LX 82 1),LM 11 91,LM 12 92] (.seq (LS [LM 93 12,LO 94 (.un .not (LT 93)),LM 95 94,LZ 95 96 (.mv (LT 11)),LZ 95 97 (.len (LT 96)),LZ 95 98 (.mv (LT 4)),LZ 95 99 (.bin .neq (LT 97) (LT 98)),LO 100 (.pick (LT 95) LG (LT 99)),LM 101 100,LZ 101 102 (.mv (LT 11)),LZ 101 103 (.call 140 [(LT 102)]),LZ 101 104 (.un .not (LT 103)),LO 105 (.pick (LT 101) LG (LT 104)),LM 106 105,LZ 106 107 (.mv (LT 11)),LZ 106 108 (.mv (LT 10)),LZ 106 109 (.iaddr 3 (LT 107) (LT 108)),LZ 106 110 (LK 109),LZ 106 111 (.call 141 [(LT 110)]),LZ 106 112 (.un .not (LT 111)),LO 113 (.pick (LT 106) LG (LT 112))] (.cond (LT 113) (LS [LO 114 (LK 5),LN (.store 3 (LT 2) (LT 114)),LO 3 (.mv LF)] .ret) .skip)) (.eT [LO 115 (LA 1 5),LO 116 (LL 115),LM 117 11,LO 118 (.lit [(.slice none 0 0)] 1 [(0,(LT 117))]),LO 119 (.app 1 24 (LT 116) (LT 118)),LO 120 (LA 1 5),LN (.store 1 (LT 120) (LT 119))])))) (.eT [LM 80 10,LO 81 (.bin .add (LT 80) (LI 1)),LM 10 81])))
def dB:aF:=(LS [LO 2 (.new [(.slice none 0 0),(.slice none 0 0),(.slice none 0 0)]),LO 3 (.mv LF)] (LS [LM 13 0,LO 14 (.chk (LT 13)),LO 15 (LA 0 14),LO 16 (LL 15),LO 17 (.len (LT 16)),LM 4 17] (LS [LO 18 (.build [(.slice none 0 0),(.slice none 0 0),(.slice none 0 0)] [(0,1),(1,1),(2,1)] []),LO 5 (.new [(.slice none 0 0),(.slice none 0 0),(.slice none 0 0)]),LN (.store 3 (LT 5) (LT 18))] (.seq (LS [LM 19 4,LO 20 (.bin .lss (LT 19) (LI 1)),LM 21 20,LZ 21 22 (.mv (LT 4)),LZ 21 23 (.bin .gtr (LT 22) (LI 6)),LO 24 (.pick (LT 21) LG (LT 23)),LM 25 24,LZ 25 26 (.mv (LT 0)),LZ 25 27 (.chk (LT 26)),LZ 25 28 (LA 1 27),LZ 25 29 (LL 28),LZ 25 30 (.len (LT 29)),LZ 25 31 (.mv (LT 4)),LZ 25 32 (.bin .neq (LT 30) (LT 31)),LO 33 (.pick (LT 25) LG (LT 32)),LM 34 33,LZ 34 35 (.mv (LT 0)),LZ 34 36 (.chk (LT 35)),LZ 34 37 (LA 2 36),LZ 34 38 (LL 37),LZ 34 39 (.len (LT 38)),LZ 34 40 (.mv (LT 4)),LZ 34 41 (.bin .neq (LT 39) (LT 40)),LO 42 (.pick (LT 34) LG (LT 41))] (.cond (LT 42) (LS [LO 43 (LK 5),LN (.store 3 (LT 2) (LT 43)),LO 3 (.mv LF)] .ret) .skip)) (LS [LM 45 0,LO 46 (.chk (LT 45)),LO 47 (LA 0 46),LO 48 (LL 47),LO 49 (.call 115 [(LT 48)]),LM 44 49,LO 50 (LX 44 0),LO 51 (LX 44 1),LM 6 50,LM 7 51] (LS [LM 53 0,LO 54 (.chk (LT 53)),LO 55 (LA 2 54),LO 56 (LL 55),LO 57 (.call 115 [(LT 56)]),LM 52 57,LO 58 (LX 52 0),LO 59 (LX 52 1),LM 8 58,LM 9 59] (.seq (LS [LM 60 7,LO 61 (.un .not (LT 60)),LM 62 61,LZ 62 63 (.mv (LT 9)),LZ 62 64 (.un .not (LT 63)),LO 65 (.pick (LT 62) LG (LT 64)),LM 66 65,LZ 66 67 (.mv (LT 6)),LZ 66 68 (.call 116 [(LT 67)]),LZ 66 69 (.un .not (LT 68)),LO 70 (.pick (LT 66) LG (LT 69)),LM 71 70,LZ 71 72 (.mv (LT 8)),LZ 71 73 (.call 140 [(LT 72)]),LZ 71 74 (.un .not (LT 73)),LO 75 (.pick (LT 71) LG (LT 74))] (.cond (LT 75) (LS [LO 76 (LK 5),LN (.store 3 (LT 2) (LT 76)),LO 3 (.mv LF)] .ret) .skip)) (.seq (LS [LO 10 (.mv (LI 0))] (.block 0 (.loop cK))) (LS [LM 121 6,LO 122 (LA 0 5),LN (.store 1 (LT 122) (LT 121))] (LS [LM 123 8,LO 124 (LA 2 5),LN (.store 1 (LT 124) (LT 123))] (LS [LO 125 (LK 5),LQ 126 (.call 158 [(LT 5)]),LN (.store 3 (LT 2) (LT 125)),LM 3 126] .ret)))))))))))
def eW:aY:=⟨127,[(.cell 2 true 3),(.tmp 3)],dB⟩
theorem Iy:jE 80=some eW:=by kernel_rfl
def dH:aF:=(.seq (LS [LM 44 7,LM 45 3,LO 46 (.bin .lss (LT 44) (LT 45))] (.cond (LT 46) .skip (.exit 4))) (.seq (.block 5 (.eT [LM 49 4,LM 50 6,LM 51 4,LM 52 6,LO 53 (.iaddr 1 (LT 51) (LT 52)),LO 54 (LL 53),LM 55 54,LZ 55 56 (.mv (LT 4)),LZ 55 57 (.mv (LT 7)),LZ 55 58 (.iaddr 1 (LT 56) (LT 57)),LZ 55 59 (LL 58),LZ 55 60 (.mv (LT 59)),LY 60 61 (.mv (LT 0)),LY 60 62 (.chk (LT 61)),LY 60 63 (LA 1 62),LY 60 64 (LL 63),LY 60 65 (.mv (LT 6)),LY 60 66 (.iaddr 1 (LT 64) (LT 65)),LY 60 67 (LL 66),LY 60 68 (.mv (LT 7)),LY 60 69 (.iaddr 3 (LT 67) (LT 68)),LY 60 70 (LK 69),LY 60 71 (.call 141 [(LT 70)]),LY 60 72 (.un .not (LT 71)),LZ 55 73 (.pick (LT 60) (LT 72) LF),LO 74 (.pick (LT 55) LG (LT 73)),LO 75 (.iaddr 1 (LT 49) (LT 50)),LN (.store 1 (LT 75) (LT 74))])) (.eT [LM 47 7,LO 48 (.bin .add (LT 47) (LI 1)),LM 7 48])))
def gJ:aF:=(.seq (LS [LM 21 6,LM 22 3,LO 23 (.bin .lss (LT 21) (LT 22))] (.cond (LT 23) .skip (.exit 2))) (.seq (.block 3 (LS [LM 26 4,LM 27 6,LM 28 4,LM 29 6,LO 30 (.iaddr 1 (LT 28) (LT 29)),LO 31 (LL 30),LM 32 31,LZ 32 33 (.mv (LT 0)),LZ 32 34 (.chk (LT 33)),LZ 32 35 (LA 2 34),LZ 32 36 (LL 35),LZ 32 37 (.mv (LT 6)),LZ 32 38 (.iaddr 3 (LT 36) (LT 37)),LZ 32 39 (LK 38),LZ 32 40 (.call 141 [(LT 39)]),LZ 32 41 (.un .not (LT 40)),LO 42 (.pick (LT 32) LG (LT 41)),LO 43 (.iaddr 1 (LT 26) (LT 27)),LN (.store 1 (LT 43) (LT 42))] (LS [LO 7 (.mv (LI 0))] (.block 4 (.loop dH))))) (.eT [LM 24 6,LO 25 (.bin .add (LT 24) (LI 1)),LM 6 25])))
def pN:aF:=(.seq (LS [LM 16 5,LM 17 3,LO 18 (.bin .lss (LT 16) (LT 17))] (.cond (LT 18) .skip (.exit 0))) (.seq (.block 1 (LS [LO 6 (.mv (LI 0))] (.block 2 (.loop gJ)))) (.eT [LM 19 5,LO 20 (.bin .add (LT 19) (LI 1)),LM 5 20])))
def lD:aF:=(.seq (LS [LM 76 8,LM 77 3,LO 78 (.bin .lss (LT 76) (LT 77))] (.cond (LT 78) .skip (.exit 6))) (.seq (.block 7 (LS [LM 81 4,LM 82 8,LO 83 (.iaddr 1 (LT 81) (LT 82)),LO 84 (LL 83),LO 85 (.un .not (LT 84))] (.cond (LT 85) (LS [LO 2 (.mv LF)] .ret) .skip))) (.eT [LM 79 8,LO 80 (.bin .add (LT 79) (LI 1)),LM 8 80])))
def xZ:aF:=(LS [LO 2 (.mv LF)] (LS [LM 9 0,LO 10 (.chk (LT 9)),LO 11 (LA 0 10),LO 12 (LL 11),LO 13 (.len (LT 12)),LM 3 13] (LS [LM 14 3,LO 15 (.make [(.bool false)] 1 (LT 14) (LT 14)),LM 4 15] (.seq (LS [LO 5 (.mv (LI 0))] (.block 0 (.loop pN))) (.seq (LS [LO 8 (.mv (LI 0))] (.block 6 (.loop lD))) (LS [LO 2 (.mv LG)] .ret))))))
def A0:aY:=⟨86,[(.tmp 2)],xZ⟩
theorem EJ:jE 158=some A0:=by kernel_rfl
end Go.PM
namespace Go.PM
open Go.Lib
def SvS (s:Ag) (lo hi:Nat) (H:aA) (v:VV):Prop:=(∃a b c,v = .agg [a,b,c]∧bU a=true∧bU b=true∧bU c=true∧∀n,n≤lo→jB n a=true∧jB n b=true∧jB n c=true)∧F2 (sZ s) lo hi H v
theorem SvS.cZ {s:Ag}:∀ {lo hi H H' v},SvS s lo hi H v→lA lo hi H H'→SvS s lo hi H' v:=fun h hk=>⟨h.1,h.2.cZ hk⟩
theorem SvS.ag {s:Ag} {lo hi:Nat} {H:aA} {v:VV} (h:SvS s lo hi H v) (n:Nat) (hn:n≤lo):∃a b c,v = .agg [a,b,c]∧bU a=true∧bU b=true∧bU c=true∧jB n a=true∧jB n b=true∧jB n c=true:=by
 obtain⟨⟨a,b,c,h1,h2,h3,h4,h5⟩,_⟩:=h
 exact⟨a,b,c,h1,h2,h3,h4,h5 n hn⟩
end Go.PM
namespace Go.PM
open Go.Lib
theorem Uv (b:List Rat) (g:List (List Rat)) (e:List Rat):aP (AZ bG b g e)=true:=by
 show aN [aC bG b,aC (aC bG) g,aC bG e]=true
 simp only[aN,oS,Ua,Bool.and_self]
theorem LsO.own {α:Type} {f:α→VV} {e lo hi n:Nat} {H:aA} {v:VV} {o:Option (List α)} (h:LsO f e o lo hi H v) (hn:n≤lo):jB n v=true:=by
 cases o with
 |
  none =>
  have h:v = .tree [] .nil:=h
  subst h
  rfl
 |
  some ys =>
  obtain⟨b,g,c,h1,h2,rfl,h3⟩:=h
  simp[jB];omega
theorem Wd.own {α:Type} {f:α→VV} {e lo hi n:Nat} {H:aA} {v:VV} {bJ:List (List α)} (h:Wd f e bJ lo hi H v) (hn:n≤lo):jB n v=true:=by
 rcases h with⟨rfl,_⟩ | ⟨b,g,rs,q1,q2,rfl,_⟩
 ·rfl
 ·simp[jB];omega
end Go.PM
namespace Go.PM
open Go.Lib
end Go.PM
namespace Go.PM
open Go.Lib
section
variable {α:Type} {f:α→VV} {e:Nat}
structure RdT (f:α→VV) (e:Nat) (m:List (List α)) (H:aA) (v:VV):Prop where
 len:∀H',H <+: H'→pX v H'=some (VI m.length)
 get:∀H',H <+: H'→∀(i:Nat) r,m[i]? = some r→∃p w,bF 1 v (VI i) H'=some p∧cU false 1 p H'=some w∧Rd f e r H' w
theorem RdT.pre {m:List (List α)} {H H':aA} {v:VV} (h:RdT f e m H v) (hh:H <+: H'):RdT f e m H' v:=⟨fun H2 h2=>h.len H2 (hh.trans h2),fun H2 h2=>h.get H2 (hh.trans h2)⟩
theorem RdT.tree {m:List (List α)} {H:aA} {t:TK} (hs:∀x,(aB (f x)).length=e):RdT f e m H (.tree (m.map (aC f)) t) :=
 ⟨fun _ _=>dM,fun _ _ i x hx=>⟨_,_,aG hx rfl,by rw[IV];rfl,Rd.tree hs⟩⟩
theorem RdT.row {m:List (List α)} {H:aA} {b g n c:Nat} {w:Bool} (h:aK H b g=some (m.map (aC f),1,w)) (hn:n=m.length) (hs:∀x,(aB (f x)).length=e):RdT f e m H (.ref b g 0 n c):=by
 subst hn
 refine⟨fun H' hh=>eV (cT hh h),fun H' hh i x hx => ?_⟩
 have hi:=(List.getElem?_eq_some_iff.1 hx).1
 have e1:=aV (o:=0) (n:=m.length) (c:=c) (i:=i) (k := .i64) (cT hh h) hi
 rw[Nat.zero_add] at e1
 exact⟨_,_,e1,by rw[tG (f:=aC f) (cT hh h) hx];rfl,Rd.tree hs⟩
end
end Go.PM
namespace Go.PM
open Go.Lib
end Go.PM
namespace Go.PM
open Go.Lib
theorem GY {a:Nat} (h:a≤12):a*(665+1)+1≤7993:=by omega
def gG (n i:Nat) (xs:List ByteArray):Option (List Rat):=match qG xs with
 | some r=>if r.length=n∧(r.any fun q=>decide (q<0))=false∧r.getD i 0=0 then some r else none
 | none=>none
def jG (c:List (List ByteArray)):Nat→Option (List (List Rat))
 | 0=>some []
 |
  i+1=>match jG c i,gG c.length i (c.getD i []) with
  | some out,some r=>some (out++[r])
  | _,_=>none
theorem M0 {n i:Nat} {xs:List ByteArray} {r:List Rat} (h:gG n i xs=some r):qG xs=some r∧r.length=n∧(∀q∈r,0≤q)∧r.getD i 0=0:=by
 unfold gG at h
 split at h
 ·rename_i ps hp
  split at h
  ·rename_i hc
   cases h
   refine⟨hp,hc.1,fun q hq => ?_,hc.2.2⟩
   have:=List.any_eq_false.1 hc.2.1 q hq
   exact Rat.not_lt.1 (by simpa using this)
  ·cases h
 ·cases h
theorem Bh {c:List (List ByteArray)} {i:Nat} (h:jG c i=none):∀j,i≤j→jG c j=none:=by
 intro j hj
 induction j with
 |
  zero =>
  have:i=0:=by omega
  subst this
  exact h
 |
  succ j ih =>
  by_cases Pk:i≤j
  ·rw[jG,ih Pk]
  ·have:i=j+1:=by omega
   subst this
   exact h
theorem Aa {c:List (List ByteArray)}:∀ {i:Nat} {m:List (List Rat)},jG c i=some m→m.length=i∧∀r∈m,r.length=c.length∧∀q∈r,0≤q∧iR q≤665
 | 0,m,h=>by cases h;exact⟨rfl,fun r hr=>by cases hr⟩
 |
  i+1,m,h=>by
  rw[jG] at h
  split at h
  ·rename_i out r h1 h2
   cases h
   obtain⟨k1,k2⟩:=Aa h1
   obtain⟨j1,j2,j3,_⟩:=M0 h2
   refine⟨by rw[List.length_append,k1];rfl,fun s hs => ?_⟩
   rcases List.mem_append.1 hs with hs | hs
   ·exact k2 s hs
   ·rw[List.mem_singleton] at hs
    subst hs
    exact⟨j2,fun q hq=>⟨j3 q hq,(oT j1).1 q hq⟩⟩
  ·cases h
end Go.PM
namespace Go.PM
open Go.Lib
end Go.PM
namespace Go.PM
open Go.Lib
def gF (s:Ag):Option (List Rat×List (List Rat)×List Rat):=if (1≤s.b.length∧s.b.length≤6)∧s.g.length=s.b.length∧s.e.length=s.b.length then
  match mX s.b,qG s.e with
  | some w,some r=>if (r.any fun q=>decide (q<0))=false then (jG s.g s.b.length).map fun m=>(w,m,r) else none
  | _,_=>none
 else none
def Jy (x:List Rat×List (List Rat)×List Rat):Bool:=(pW x.2.1 x.2.2 x.2.2.length x.2.2.length).all id
def Te:VV := .agg [.tree [] .op,.tree [] .op,.tree [] .op]
def KX (s:Ag):VV:=match gF s with
 | some x => .eG [AZ aO x.1 x.2.1 x.2.2,VB (Jy x)]
 | none => .eG [Te,VB false]
theorem Xa (b:List Rat) (g:List (List Rat)) (e:List Rat):gK (AZ aO b g e)=true:=by
 show pB [aC aO b,aC (aC aO) g,aC aO e]=true
 simp only[pB,C9,Z7,Bool.and_self]
theorem XO (s:Ag):gK (KX s)=true:=by
 unfold KX
 split
 ·exact uQ (Xa _ _ _) rfl
 ·exact uQ (by decide) rfl
theorem DF (bs:List Bool) (b:Bool) (hn:bs.length≤1000000):TC 210 [aC (fun b=>VB b) bs,VB b] (VI (match bs.findIdx? (· == b) with | some i=>(i:Int) | none => -1)):=by
 refine TC.walk ⟨true,false⟩ wF rfl (Nat.le_of_ble_eq_true rfl) (R4 (HT _) rfl) rfl ?_
 simp only[pL,nP,oU,VX,Nat.reduceEqDiff,Nat.reduceAdd,Nat.reduceLeDiff,Nat.reduceLT,Nat.reduceSub]
 refine aW (fun(i:Nat) ρ H=>i≤bs.length∧H=[]∧(∀x∈bs.take i,(x == b)=false)∧ρ 0=aC (fun b=>VB b) bs∧ρ 1=VB b∧ρ 7=VI bs.length∧ρ 8=VI i) (fun i=>bs.length-i) 0 ⟨Nat.zero_le _,rfl,by simp,rfl,rfl,rfl,rfl⟩ ?_
 rintro i ρ H ⟨hi,rfl,ht,g0,g1,g7,g8⟩
 by_cases cB:(i:Int)<(bs.length:Int)
 ·obtain⟨x,hx⟩:∃x,bs[i]? = some x:=⟨_,List.getElem?_eq_getElem (by omega)⟩
  have a1:=fun H=>aG (f:=fun b=>VB b) (t := .op) (H:=H) (size:=1) (k := .i64) hx rfl
  have wi:IntKind.i64.wrap ((i:Int)+1)=((i+1:Nat):Int):=wrapN (i+1) (by omega) (by omega)
  by_cases hxb:(x == b)=true
  ·have hf:bs.findIdx? (· == b)=some i:=by
    rw[List.findIdx?_eq_some_iff_getElem]
    refine⟨by omega,by rw[List.getElem?_eq_some_iff] at hx;obtain⟨h1,h2⟩:=hx;rw[h2];exact hxb,fun j hj => ?_⟩
    have:=ht bs[j] (List.mem_take_iff_getElem.2 ⟨j,by omega,rfl⟩)
    simpa using this
   have e1:I3 false (.bool b) (.bool x)=some (.bool true):=by
    have:x=b:=by simpa using hxb
    subst this
    cases x<;>rfl
   rw[hf]
   simp only[fE,g0,g1,g7,g8,cB,a1,e1,oU,VX,Nat.reduceEqDiff,Nat.reduceAdd,Nat.reduceLeDiff,Nat.reduceLT,Nat.reduceSub]
   exact aJ rfl
  ·have e1:I3 false (.bool b) (.bool x)=some (.bool false):=by
    cases x<;>cases b<;>first | rfl | exact absurd rfl hxb
   simp only[fE,g0,g1,g7,g8,cB,a1,e1,wi,oU,VX,Nat.reduceEqDiff,Nat.reduceAdd,Nat.reduceLeDiff,Nat.reduceLT,Nat.reduceSub]
   refine⟨i+1,by omega,by omega,fun y hy => ?_,by (repeat' apply And.intro)<;>first | rfl | trivial | assumption⟩
   rw[AE hx] at hy
   rcases List.mem_append.1 hy with h | h
   ·exact ht y h
   ·rw[List.mem_singleton] at h
    subst h
    simpa using hxb
 ·have pD:i=bs.length:=by omega
  subst pD
  rw[List.take_length] at ht
  have hf:bs.findIdx? (· == b)=none:=by
   rw[List.findIdx?_eq_none_iff]
   exact ht
  rw[hf]
  simp only[fE,g7,g8,cB,oU,VX,Nat.reduceEqDiff,Nat.reduceAdd,Nat.reduceLeDiff,Nat.reduceLT,Nat.reduceSub]
  exact aJ rfl
theorem Ba (bs:List Bool) (hn:bs.length≤1000000):TC 159 [aC (fun b=>VB b) bs,VB false] (VB (!bs.all id)):=by
 refine TC.walk ⟨true,false⟩ tX rfl (Nat.le_of_ble_eq_true rfl) (R4 (HT _) rfl) rfl ?_
 have e1:=DF bs false hn
 cases hf:bs.findIdx? (· == false) with
 |
  none =>
  rw[hf] at e1
  have ha:bs.all id=true:=by
   rw[List.findIdx?_eq_none_iff] at hf
   rw[List.all_eq_true]
   intro x hx
   have:=hf x hx
   cases x<;>first | rfl | cases this
  have g:¬(0:Int) ≤ -1:=by decide
  rw[ha]
  simp only[iW,iA,e1,g,ge_iff_le,Int.reduceNeg,Bool.not_true,oU,VX,Nat.reduceEqDiff,Nat.reduceAdd,Nat.reduceLeDiff,Nat.reduceLT,Nat.reduceSub]
  exact aJ rfl
 |
  some i =>
  rw[hf] at e1
  have ha:bs.all id=false:=by
   rw[List.findIdx?_eq_some_iff_getElem] at hf
   obtain⟨h1,h2,_⟩:=hf
   cases kW:bs.all id with
   | false=>rfl
   |
    true =>
    have:=List.all_eq_true.1 kW bs[i] (List.getElem_mem h1)
    simp only[id] at this
    rw[this] at h2
    cases h2
  have g:(0:Int)≤(i:Int):=by omega
  rw[ha]
  simp only[iW,iA,e1,g,ge_iff_le,Bool.not_false,oU,VX,Nat.reduceEqDiff,Nat.reduceAdd,Nat.reduceLeDiff,Nat.reduceLT,Nat.reduceSub]
  exact aJ rfl
def QR (B E:VV) (i:Nat) (out:List (List Rat)):aA:=match i with
 | 0=>[kE,.row 0 [.agg [B,.tree [] .nil,E]] 3 true]
 | i+1=>[kE,.row 0 [.agg [B,.ref 2 i 0 (i+1) (i+1),E]] 3 true,.row i (out.map (aC aO)) 1 true]
theorem Zm {H:aA}:PM.fz depth H (.eG [.agg [.tree [] .nil,.tree [] .nil,.tree [] .nil],VB false])=some (.eG [Te,VB false]):=by
 refine bE (d:=6) (Db (d:=5) ?_) (aH (v:=VB false) rfl)
 rw[List.mapM_cons,zN,List.mapM_cons,zN,List.mapM_cons,zN]
 rfl
set_option maxHeartbeats 4000000 in
theorem F7 (s:Ag) (hb:Po s):TC 81 [sZ s] (KX s):=by
 refine TC.walk ⟨true,false⟩ Hj rfl (Nat.le_of_ble_eq_true rfl) (Bk (qH _)) (XO _) ?_
 have uR:=hb.b4
 have hel:=hb.e4
 have bad:gF s=none→∀K,PM.fz depth K (.eG [.agg [.tree [] .nil,.tree [] .nil,.tree [] .nil],VB false])=some (KX s):=fun h K=>by
  have:KX s = .eG [Te,VB false]:=by unfold KX;rw[h]
  rw[this]
  exact Zm
 have ET:∀K:aA,cD 0 3 (.ptr 0 0 0 0) (.agg [.tree [] .nil,.tree [] .nil,.tree [] .nil]) (kE::K)=some (kE::K):=fun K=>by
  unfold kE
  rw[dI (e:=3) aR (by exact Nat.zero_lt_one) (Nat.le_refl _) rfl rfl]
  rfl
 have NQ:∀K:aA,cU true 3 (.ptr 0 0 0 0) (kE::K)=some (.agg [.tree [] .nil,.tree [] .nil,.tree [] .nil]):=fun K=>by
  rw[fI,aR]
  rfl
 by_cases h1:(s.b.length:Int)<1
 ·have bad:=bad (by unfold gF;exact if_neg (by omega))
  simp only[eU,dE,sZ,h1,ET,NQ,dC,List.getElem?_cons_zero,List.getElem?_cons_succ,Nat.zero_add,List.nil_append,List.length_nil,oU,VX,Nat.reduceEqDiff,Nat.reduceAdd,Nat.reduceLeDiff,Nat.reduceLT,Nat.reduceSub]
  exact bad _
 by_cases h6:(6:Int)<(s.b.length:Int)
 ·have bad:=bad (by unfold gF;exact if_neg (by omega))
  simp only[eU,dE,sZ,h1,h6,ET,NQ,dC,List.getElem?_cons_zero,List.getElem?_cons_succ,Nat.zero_add,List.nil_append,List.length_nil,oU,VX,Nat.reduceEqDiff,Nat.reduceAdd,Nat.reduceLeDiff,Nat.reduceLT,Nat.reduceSub]
  exact bad _
 by_cases hg:(s.g.length:Int)=(s.b.length:Int)
 case neg =>
  have bad:=bad (by unfold gF;exact if_neg (by omega))
  simp only[eU,dE,sZ,h1,h6,hg,ET,NQ,dC,List.getElem?_cons_zero,List.getElem?_cons_succ,Nat.zero_add,List.nil_append,List.length_nil,ne_eq,not_false_eq_true,decide_true,oU,VX,Nat.reduceEqDiff,Nat.reduceAdd,Nat.reduceLeDiff,Nat.reduceLT,Nat.reduceSub]
  exact bad _
 by_cases he:(s.e.length:Int)=(s.b.length:Int)
 case neg =>
  have bad:=bad (by unfold gF;exact if_neg (by omega))
  simp only[eU,dE,sZ,h1,h6,hg,he,ET,NQ,dC,List.getElem?_cons_zero,List.getElem?_cons_succ,Nat.zero_add,List.nil_append,List.length_nil,ne_eq,not_false_eq_true,not_true_eq_false,decide_true,decide_false,oU,VX,Nat.reduceEqDiff,Nat.reduceAdd,Nat.reduceLeDiff,Nat.reduceLT,Nat.reduceSub]
  exact bad _
 have rA:(1≤s.b.length∧s.b.length≤6)∧s.g.length=s.b.length∧s.e.length=s.b.length:=by omega
 have e1:=Hf s.b (by omega) hb.bs
 have e2:=Ct s.e (by omega) hb.es
 cases hw:mX s.b with
 |
  none =>
  rw[hw,oQ] at e1
  have bad:=bad (by unfold gF;rw[if_pos rA,hw])
  cases hr:qG s.e with
  |
   none =>
   rw[hr,oQ] at e2
   simp only[eU,dE,sZ,h1,h6,hg,he,e1,e2,ET,NQ,dC,List.getElem?_cons_zero,List.getElem?_cons_succ,Nat.zero_add,List.nil_append,List.length_nil,ne_eq,not_true_eq_false,decide_false,oU,VX,Nat.reduceEqDiff,Nat.reduceAdd,Nat.reduceLeDiff,Nat.reduceLT,Nat.reduceSub]
   exact bad _
  |
   some r =>
   rw[hr,tQ] at e2
   simp only[eU,dE,sZ,h1,h6,hg,he,e1,e2,ET,NQ,dC,List.getElem?_cons_zero,List.getElem?_cons_succ,Nat.zero_add,List.nil_append,List.length_nil,ne_eq,not_true_eq_false,decide_false,oU,VX,Nat.reduceEqDiff,Nat.reduceAdd,Nat.reduceLeDiff,Nat.reduceLT,Nat.reduceSub]
   exact bad _
 |
  some w =>
  rw[hw,tQ] at e1
  cases hr:qG s.e with
  |
   none =>
   rw[hr,oQ] at e2
   have bad:=bad (by unfold gF;rw[if_pos rA,hw,hr])
   simp only[eU,dE,sZ,h1,h6,hg,he,e1,e2,ET,NQ,dC,List.getElem?_cons_zero,List.getElem?_cons_succ,Nat.zero_add,List.nil_append,List.length_nil,ne_eq,not_true_eq_false,decide_false,oU,VX,Nat.reduceEqDiff,Nat.reduceAdd,Nat.reduceLeDiff,Nat.reduceLT,Nat.reduceSub]
   exact bad _
  |
   some r =>
   rw[hr,tQ] at e2
   obtain⟨BU,D4,XP⟩:=oT hr
   have e3:=kH r 147 (fun q=>decide (q<0)) (fun q _=>yD q) (by omega)
   cases vH:r.any (fun q=>decide (q<0)) with
   |
    true =>
    rw[vH] at e3
    have bad:=bad (by unfold gF;rw[if_pos rA,hw,hr];exact if_neg (by rw[vH];decide))
    simp only[eU,dE,sZ,h1,h6,hg,he,e1,e2,e3,ET,NQ,dC,List.getElem?_cons_zero,List.getElem?_cons_succ,Nat.zero_add,List.nil_append,List.length_nil,ne_eq,not_true_eq_false,decide_false,oU,VX,Nat.reduceEqDiff,Nat.reduceAdd,Nat.reduceLeDiff,Nat.reduceLT,Nat.reduceSub]
    exact bad _
   |
    false =>
    rw[vH] at e3
    have DK:gF s=(jG s.g s.b.length).map fun m=>(w,m,r):=by unfold gF;rw[if_pos rA,hw,hr];exact if_pos vH
    have s1:cD 0 3 (.ptr 1 0 0 0) (.agg [aC aO w,.tree [] .nil,aC aO r]) [kE,kE]=some [kE,.row 0 [.agg [aC aO w,.tree [] .nil,aC aO r]] 3 true]:=by
     rw[dI (e:=3) (g:=0) (j:=0) (dU.trans aR) (by exact Nat.zero_lt_one) (by omega) rfl rfl]
     rfl
    simp only[eU,dE,sZ,h1,h6,hg,he,e1,e2,e3,s1,dC,List.getElem?_cons_zero,List.getElem?_cons_succ,Nat.zero_add,List.nil_append,List.length_nil,List.length_cons,List.cons_append,ne_eq,not_true_eq_false,decide_false,oU,VX,Nat.reduceEqDiff,Nat.reduceAdd,Nat.reduceLeDiff,Nat.reduceLT,Nat.reduceSub]
    refine aW (fun(i:Nat) ρ H=>i≤s.b.length∧(∃out,jG s.g i=some out∧H=QR (aC aO w) (aC aO r) i out)∧ρ 2 = .ptr 0 0 0 0∧ρ 4=VI s.b.length∧ρ 7=aC aO r∧ρ 9 = .ptr 1 0 0 0∧ρ 65=aC fG s.g∧ρ 66=VI s.b.length∧ρ 67=VI i) (fun i=>s.b.length-i) 0
     ⟨Nat.zero_le _,⟨[],rfl,rfl⟩,by (repeat' apply And.intro)<;>first | rfl | trivial | assumption⟩ ?_
    rintro i ρ H ⟨hi,⟨out,yW,rfl⟩,g2,g4,g7,g9,g65,g66,g67⟩
    obtain⟨fU,hof⟩:=Aa yW
    by_cases cB:(i:Int)<(s.b.length:Int)
    ·obtain⟨x,hx⟩:∃x,s.g[i]? = some x:=⟨_,List.getElem?_eq_getElem (by omega)⟩
     have Wi:=List.mem_of_getElem? hx
     have UW:s.g.getD i []=x:=by rw[List.getD_eq_getElem?_getD,hx];rfl
     have a1:=fun H=>aG (f:=fG) (t := .op) (H:=H) (size:=1) (k := .i64) hx rfl
     have wi:IntKind.i64.wrap ((i:Int)+1)=((i+1:Nat):Int):=wrapN (i+1) (by omega) (by omega)
     have e4:=Ct x (hb.g9.2 x Wi) (hb.gs x Wi)
     have uU:jG s.g (i+1)=match gG s.g.length i x with | some q=>some (out++[q]) | none=>none:=by
      rw[jG,yW,UW]
      cases gG s.g.length i x<;>rfl
     have bad:gG s.g.length i x=none→∀K,PM.fz depth K (.eG [.agg [.tree [] .nil,.tree [] .nil,.tree [] .nil],VB false])=some (KX s):=fun h=>by
      rw[h] at uU
      exact bad (by rw[DK,Bh uU s.b.length (by omega)];rfl)
     have ZI:∀i,cD 0 3 (.ptr 0 0 0 0) (.agg [.tree [] .nil,.tree [] .nil,.tree [] .nil]) (QR (aC aO w) (aC aO r) i out)=some (QR (aC aO w) (aC aO r) i out):=fun i=>by cases i<;>exact ET _
     have aaB:∀i,cU true 3 (.ptr 0 0 0 0) (QR (aC aO w) (aC aO r) i out)=some (.agg [.tree [] .nil,.tree [] .nil,.tree [] .nil]):=fun i=>by cases i<;>exact NQ _
     cases D5:qG x with
     |
      none =>
      rw[D5,oQ] at e4
      have bad:=bad (by unfold gG;rw[D5])
      simp only[eK,g2,g4,g65,g66,g67,cB,a1,e4,ZI,aaB,oU,VX,Nat.reduceEqDiff,Nat.reduceAdd,Nat.reduceLeDiff,Nat.reduceLT,Nat.reduceSub]
      exact bad _
     |
      some y =>
      rw[D5,tQ] at e4
      obtain⟨hyb,hyl,_⟩:=oT D5
      by_cases hl:(y.length:Int)=(s.b.length:Int)
      case neg =>
       have bad:=bad (by unfold gG;rw[D5];exact if_neg (fun h=>hl (by omega)))
       simp only[eK,g2,g4,g65,g66,g67,cB,a1,e4,hl,ZI,aaB,ne_eq,not_false_eq_true,decide_true,oU,VX,Nat.reduceEqDiff,Nat.reduceAdd,Nat.reduceLeDiff,Nat.reduceLT,Nat.reduceSub]
       exact bad _
      have e5:=kH y 147 (fun q=>decide (q<0)) (fun q _=>yD q) (by omega)
      cases F3:y.any (fun q=>decide (q<0)) with
      |
       true =>
       rw[F3] at e5
       have bad:=bad (by unfold gG;rw[D5];exact if_neg (fun h=>by rw[F3] at h;cases h.2.1))
       simp only[eK,g2,g4,g65,g66,g67,cB,a1,e4,e5,hl,ZI,aaB,ne_eq,not_true_eq_false,decide_false,oU,VX,Nat.reduceEqDiff,Nat.reduceAdd,Nat.reduceLeDiff,Nat.reduceLT,Nat.reduceSub]
       exact bad _
      |
       false =>
       rw[F3] at e5
       obtain⟨q,hq⟩:∃q,y[i]? = some q:=⟨_,List.getElem?_eq_getElem (by omega)⟩
       have hqd:y.getD i 0=q:=by rw[List.getD_eq_getElem?_getD,hq];rfl
       have a2:=fun H=>aG (f:=aO) (t := .op) (H:=H) (size:=3) (k := .i64) hq rfl
       have e6:=gN q
       by_cases hz:jO q=0
       case neg =>
        have bad:=bad (by unfold gG;rw[D5];exact if_neg (fun h=>hz (HC.2 (by rw[←hqd];exact h.2.2))))
        simp only[eK,g2,g4,g65,g66,g67,cB,a1,a2,e4,e5,e6,hl,hz,ZI,aaB,dQ,ne_eq,not_true_eq_false,not_false_eq_true,decide_false,decide_true,oU,VX,Nat.reduceEqDiff,Nat.reduceAdd,Nat.reduceLeDiff,Nat.reduceLT,Nat.reduceSub]
        exact bad _
       have nA:gG s.g.length i x=some y:=by unfold gG;rw[D5];exact if_pos ⟨by omega,F3,by rw[hqd,HC.1 hz]⟩
       rw[nA] at uU
       have eL:∀K,tY false [.slice none 0 0] 1 [(0,aC aO y)] K=some (.tree [aC aO y] (.cl 1),K):=fun K=>uM rfl rfl rfl
       have eS:∀K,fF 1 (.tree [aC aO y] (.cl 1)) K=some [aC aO y]:=fun K=>oI rfl rfl
       cases i with
       |
        zero =>
        have ho:out=[]:=List.length_eq_zero_iff.1 fU
        subst ho
        have eP:∀K:aA,eJ 0 1 24 (.tree [] .nil) [aC aO y] K=some (.ref K.length 0 0 1 1,K++[.row 0 [aC aO y] 1 true]):=fun K=>by simp[eJ]
        simp only[eK,QR,g2,g4,g9,g65,g66,g67,cB,a1,a2,e4,e5,e6,hl,hz,eL,eS,eP,wi,dQ,ne_eq,not_true_eq_false,decide_false,List.length_cons,List.length_nil,List.cons_append,List.nil_append,iH,Nat.reduceLeDiff,Nat.reduceLT,Nat.reduceSub,kC,bL,bW,eE,jC,lW,bne_iff_ne,ne_eq,not_false_eq_true,not_true_eq_false,VX,Nat.reduceEqDiff,Nat.reduceAdd]
        exact⟨1,by omega,by omega,⟨[y],uU,rfl⟩,by (repeat' apply And.intro)<;>first | rfl | trivial | assumption⟩
       |
        succ i =>
        have eP:eJ 0 1 24 (.ref 2 i 0 (i+1) (i+1)) [aC aO y] (QR (aC aO w) (aC aO r) (i+1) out)=some (.ref 2 (i+1) 0 (i+2) (i+2),[kE,.row 0 [.agg [aC aO w,.ref 2 i 0 (i+1) (i+1),aC aO r]] 3 true,.row (i+1) ((out++[y]).map (aC aO)) 1 true]):=by
         rw[QR,oG (f:=aC aO) (xs:=out) (by rw[dU,dU,aR]) fU.symm (Nat.zero_le _) (by decide) (by decide) (by omega)]
         rfl
        simp only[QR] at eP
        simp only[eK,QR,g2,g4,g9,g65,g66,g67,cB,a1,a2,e4,e5,e6,hl,hz,eL,eS,eP,wi,dQ,ne_eq,not_true_eq_false,decide_false,iH,Nat.reduceLeDiff,Nat.reduceLT,Nat.reduceSub,kC,bL,bW,eE,jC,lW,bne_iff_ne,ne_eq,not_false_eq_true,not_true_eq_false,VX,Nat.reduceEqDiff,Nat.reduceAdd]
        exact⟨i+2,by omega,by omega,⟨out++[y],uU,rfl⟩,by (repeat' apply And.intro)<;>first | rfl | trivial | assumption⟩
    ·have pD:i=s.b.length:=by omega
     rw[pD] at yW fU
     obtain⟨k,hk⟩:∃k,s.b.length=k+1:=⟨s.b.length-1,by omega⟩
     have XF:KX s = .eG [AZ aO w out r,VB (Jy (w,out,r))]:=by unfold KX;rw[DK,yW];rfl
     rw[XF]
     have ajL:r.length=s.b.length:=by omega
     have hik:i=k+1:=by omega
     subst hik
     have hE:=Nv (g:=out) (e:=r) (n:=r.length) (by omega) (by omega) (fun z hz=>by have:=(hof z hz).1;omega) rfl
     have Lw:aK (QR (aC aO w) (aC aO r) (k+1) out) 2 k=some (out.map (aC aO),1,true):=by rw[QR,dU,dU,aR]
     have WB:=Dw (d:=6) (c:=k+1) (gE ·) Lw (by omega)
     rw[fU,hk] at WB
     have V7:=fun lo K=>TC.CS (lo:=lo) (k:=K) (H:=QR (aC aO w) (aC aO r) (k+1) out) (args:=[.ref 2 k 0 (k+1) (k+1),aC aO r]) hE rfl (R4 (JN _) (gE _)) (fz2 WB (aJ (gE _))) rfl
     have aqH:[VV.ref 2 k 0 (k+1) (k+1),aC aO r].flatMap (iN depth (QR (aC aO w) (aC aO r) (k+1) out))=[2]:=by
      rw[List.flatMap_cons,List.flatMap_cons,G3 Lw (by rw[List.length_map];omega) (dZ gE),Bt (gE _)]
      rfl
     have alK:Fa (aC (fun b=>VB b) (pW out r r.length r.length))=false:=rfl
     rw[aqH] at V7
     simp only[alK,Bool.false_eq_true,if_false] at V7
     have hfr:cJ (QR (aC aO w) (aC aO r) (k+1) out) [2]=[kE,.row 0 [.agg [aC aO w,.ref 2 k 0 (k+1) (k+1),aC aO r]] 3 true,.row k (out.map (aC aO)) 1 false]:=rfl
     rw[hfr] at V7
     have hC:=Ba (pW out r r.length r.length) (by rw[Ep];omega)
     simp only[eK,QR,g2,g7,g9,g66,g67,cB,dC,iH,Nat.reduceLeDiff,Nat.reduceLT,Nat.reduceSub,kC,bL,bW,eE,jC,lW,bne_iff_ne,ne_eq,not_false_eq_true,not_true_eq_false,VX,Nat.reduceEqDiff,Nat.reduceAdd]
     simp only[QR] at V7
     have st3:∀K:aA,cD 0 3 (.ptr 0 0 0 0) (.agg [aC aO w,.ref 2 k 0 (k+1) (k+1),aC aO r]) (kE::K)=some (.row 0 [.agg [aC aO w,.ref 2 k 0 (k+1) (k+1),aC aO r]] 3 true::K):=fun K=>by
      unfold kE
      rw[dI (e:=3) aR (by exact Nat.zero_lt_one) (Nat.le_refl _) rfl rfl]
      rfl
     have ld3:∀K:aA,cU true 3 (.ptr 0 0 0 0) (.row 0 [.agg [aC aO w,.ref 2 k 0 (k+1) (k+1),aC aO r]] 3 true::K)=some (.agg [aC aO w,.ref 2 k 0 (k+1) (k+1),aC aO r]):=fun K=>by
      rw[fI,aR]
      rfl
     simp only[V7,hC,g2,st3,ld3,Bool.not_not,iH,Nat.reduceLeDiff,Nat.reduceLT,Nat.reduceSub,kC,bL,bW,eE,jC,lW,bne_iff_ne,ne_eq,not_false_eq_true,not_true_eq_false,VX,Nat.reduceEqDiff,Nat.reduceAdd]
     refine bE (d:=6) (Db (d:=5) ?_) (aH (v:=VB _) rfl)
     have hf3:=Dw (d:=4) (c:=k+1) (b:=2) (g:=k) (w:=false) (H:=[.row 0 [.agg [aC aO w,.ref 2 k 0 (k+1) (k+1),aC aO r]] 3 true,.row 0 [.agg [aC aO w,.ref 2 k 0 (k+1) (k+1),aC aO r]] 3 true,.row k (out.map (aC aO)) 1 false]) (gE ·) (by rw[dU,dU,aR]) (by omega)
     rw[fU,hk] at hf3
     rw[List.mapM_cons,aH (gE w),List.mapM_cons,hf3,List.mapM_cons,aH (gE r)]
     rfl
theorem DO (s:Ag) (hb:Po s):TC 18 [sZ s] (VB (match gF s with | some x=>Jy x | none=>false)):=by
 refine TC.walk ⟨true,false⟩ DE rfl (Nat.le_of_ble_eq_true rfl) (Bk (qH _)) rfl ?_
 have e1:=F7 s hb
 unfold KX at e1
 cases h:gF s with
 |
  none =>
  rw[h] at e1
  simp only[sU,pO,rG,mK,e1,Te,iH,Nat.reduceLeDiff,Nat.reduceLT,Nat.reduceSub,kC,bL,bW,eE,jC,lW,bne_iff_ne,ne_eq,not_false_eq_true,not_true_eq_false,VX,Nat.reduceEqDiff,Nat.reduceAdd]
  exact aJ rfl
 |
  some x =>
  rw[h] at e1
  simp only[AZ] at e1
  simp only[sU,pO,rG,mK,e1,iH,Nat.reduceLeDiff,Nat.reduceLT,Nat.reduceSub,kC,bL,bW,eE,jC,lW,bne_iff_ne,ne_eq,not_false_eq_true,not_true_eq_false,VX,Nat.reduceEqDiff,Nat.reduceAdd]
  exact aJ rfl
end Go.PM
namespace Go.PM
open Go.Lib
section
variable {b:List Rat} {g:List (List Rat)} {e row:List Rat} {n i:Nat} {st:List Bool}
abbrev T0 (b:List Rat) (g:List (List Rat)) (e:List Rat):VV:=(AZ bG b g e).cP 0
theorem QE {q:Rat} (h:0≤q):decide (0<q) = !decide (q=0):=by
 by_cases hz:q=0
 ·rw[decide_eq_true hz,hz];rfl
 ·rw[decide_eq_false hz,decide_eq_true (by grind)];rfl
set_option maxHeartbeats 2000000 in
theorem XY (hn:n≤1000000) (hi:i<n) (uU:st.length=n) (nA:row.length=n) (Xb:g[i]? = some row) (kI:∀q∈row,0≤q) {r:Int} {ρ:cG} {Q:VQ} (g0:ρ 0=T0 b g e) (g3:ρ 3=VI n) (g4:ρ 4 = .ref 0 0 0 n n) (g5:ρ 5=VI r) (g6:ρ 6=VI i) (g7:ρ 7=VI 0)
  (hQ:∀aM,aM 0=T0 b g e→aM 3=VI n→aM 4 = .ref 0 0 0 n n→aM 5=VI r→aM 6=VI i→Q .normal aM [qI (M8 row i st n)]) :
  VW ⟨true,false⟩ 0 (.loop dH) (pP 4 Q) ρ [qI st]:=by
 refine aW (fun(j:Nat) aM H=>j≤n∧H=[qI (M8 row i st j)]∧aM 0=T0 b g e∧aM 3=VI n∧aM 4 = .ref 0 0 0 n n∧aM 5=VI r∧aM 6=VI i∧aM 7=VI j) (fun j=>n-j) 0 ⟨Nat.zero_le _,rfl,g0,g3,g4,g5,g6,g7⟩ ?_
 clear g0 g3 g4 g5 g6 g7
 rintro j aM H ⟨hj,rfl,g0,g3,g4,g5,g6,g7⟩
 have hl:(M8 row i st j).length=n:=by rw[Nt,uU]
 have zH:M8 row i st (j+1)=orJ row i (M8 row i st j) j:=rC
 generalize hs:M8 row i st j=s at *
 by_cases cB:(j:Int)<(n:Int)
 ·have Tj:j<n:=by omega
  obtain⟨q,hq⟩:∃q,row[j]? = some q:=⟨_,List.getElem?_eq_getElem (by omega)⟩
  have wi:IntKind.i64.wrap ((j:Int)+1)=((j+1:Nat):Int):=wrapN (j+1) (by omega) (by omega)
  have e2:=yC q
  have ZB:=QE (kI q (List.mem_of_getElem? hq))
  have a1:=fun K=>tT (st:=s) (n:=n) hi K
  have a2:=fun K=>tJ (st:=s) (i:=i) (by omega) K
  have a3:=fun K=>tT (st:=s) (n:=n) Tj K
  have a4:=fun K=>tJ (st:=s) (i:=j) (by omega) K
  have a5:=fun v K=>Bx (st:=s) (i:=i) (by omega) v K
  have a6:=fun H=>aG (f:=aC bG) (t := .op) (H:=H) (size:=1) (k := .i64) Xb rfl
  have a7:=fun H=>aG (f:=bG) (t := .op) (H:=H) (size:=3) (k := .i64) hq rfl
  have mZ:∀v:Bool,v=(s.getD i false||(decide (0<q)&&s.getD j false))→s.set i v=M8 row i st (j+1):=by
   intro v hv
   rw[zH,orJ,hv,List.getD_eq_getElem?_getD (l:=row),hq,Option.getD_some]
  cases RI:s.getD i false with
  |
   true =>
   rw[RI] at a2
   simp only[dH,AZ,g0,g3,g4,g6,g7,cB,a1,a2,a5,wi,oU,VX,Nat.reduceEqDiff,Nat.reduceAdd,Nat.reduceLeDiff,Nat.reduceLT,Nat.reduceSub]
   exact⟨j+1,by omega,by omega,by rw[←mZ true (by rw[RI];rfl)],by (repeat' apply And.intro)<;>first | rfl | trivial | assumption⟩
  |
   false =>
   rw[RI] at a2
   cases hsj:s.getD j false with
   |
    false =>
    rw[hsj] at a4
    simp only[dH,AZ,g0,g3,g4,g6,g7,cB,a1,a2,a3,a4,a5,wi,oU,VX,Nat.reduceEqDiff,Nat.reduceAdd,Nat.reduceLeDiff,Nat.reduceLT,Nat.reduceSub]
    exact⟨j+1,by omega,by omega,by rw[←mZ false (by rw[RI,hsj,Bool.and_false];rfl)],by (repeat' apply And.intro)<;>first | rfl | trivial | assumption⟩
   |
    true =>
    rw[hsj] at a4
    by_cases hz:q=0
    ·rw[decide_eq_true hz] at e2 ZB
     simp only[dH,AZ,g0,g3,g4,g6,g7,cB,a1,a2,a3,a4,a5,a6,a7,e2,wi,dC,jI,Nat.zero_add,List.getElem?_cons_zero,List.getElem?_cons_succ,oU,VX,Nat.reduceEqDiff,Nat.reduceAdd,Nat.reduceLeDiff,Nat.reduceLT,Nat.reduceSub]
     exact⟨j+1,by omega,by omega,by rw[←mZ false (by rw[RI,ZB];rfl)],by (repeat' apply And.intro)<;>first | rfl | trivial | assumption⟩
    ·rw[decide_eq_false hz] at e2 ZB
     simp only[dH,AZ,g0,g3,g4,g6,g7,cB,a1,a2,a3,a4,a5,a6,a7,e2,wi,dC,jI,Nat.zero_add,List.getElem?_cons_zero,List.getElem?_cons_succ,oU,VX,Nat.reduceEqDiff,Nat.reduceAdd,Nat.reduceLeDiff,Nat.reduceLT,Nat.reduceSub]
     exact⟨j+1,by omega,by omega,by rw[←mZ true (by rw[RI,hsj,ZB];rfl)],by (repeat' apply And.intro)<;>first | rfl | trivial | assumption⟩
 ·have hje:j=n:=by omega
  subst hje
  subst hs
  simp only[dH,g3,g7,cB,oU,VX,Nat.reduceEqDiff,Nat.reduceAdd,Nat.reduceLeDiff,Nat.reduceLT,Nat.reduceSub]
  refine hQ _ ?_ ?_ ?_ ?_ ?_<;>first | exact g0 | exact g3 | exact g4 | exact g5 | exact g6 | rfl
set_option maxHeartbeats 2000000 in
theorem V9 (hn:n≤1000000) (uU:st.length=n) (hg:g.length=n) (Xb:∀w∈g,w.length=n∧∀q∈w,0≤q) (he:e.length=n) (hep:∀q∈e,0≤q) {r:Int} {ρ:cG} {Q:VQ} (g0:ρ 0=T0 b g e) (g3:ρ 3=VI n) (g4:ρ 4 = .ref 0 0 0 n n) (g5:ρ 5=VI r) (g6:ρ 6=VI 0)
  (hQ:∀aM,aM 0=T0 b g e→aM 3=VI n→aM 4 = .ref 0 0 0 n n→aM 5=VI r→Q .normal aM [qI (kG g e n st n)]) :
  VW ⟨true,false⟩ 0 (.loop gJ) (pP 2 Q) ρ [qI st]:=by
 refine aW (fun(i:Nat) aM H=>i≤n∧H=[qI (kG g e n st i)]∧aM 0=T0 b g e∧aM 3=VI n∧aM 4 = .ref 0 0 0 n n∧aM 5=VI r∧aM 6=VI i) (fun i=>n-i) 0 ⟨Nat.zero_le _,rfl,g0,g3,g4,g5,g6⟩ ?_
 clear g0 g3 g4 g5 g6
 rintro i aM H ⟨hi,rfl,g0,g3,g4,g5,g6⟩
 have hl:(kG g e n st i).length=n:=by rw[EM,uU]
 have zH:kG g e n st (i+1)=J4 g e n (kG g e n st i) i:=rC
 generalize hs:kG g e n st i=s at *
 by_cases cB:(i:Int)<(n:Int)
 ·have Tj:i<n:=by omega
  obtain⟨q,hq⟩:∃q,e[i]? = some q:=⟨_,List.getElem?_eq_getElem (by omega)⟩
  obtain⟨row,hr⟩:∃row,g[i]? = some row:=⟨_,List.getElem?_eq_getElem (by omega)⟩
  have D4:=Xb row (List.mem_of_getElem? hr)
  have wi:IntKind.i64.wrap ((i:Int)+1)=((i+1:Nat):Int):=wrapN (i+1) (by omega) (by omega)
  have e2:=yC q
  have ZB:=QE (hep q (List.mem_of_getElem? hq))
  have a1:=fun K=>tT (st:=s) (n:=n) Tj K
  have a2:=fun K=>tJ (st:=s) (i:=i) (by omega) K
  have a5:=fun v K=>Bx (st:=s) (i:=i) (by omega) v K
  have a7:=fun H=>aG (f:=bG) (t := .op) (H:=H) (size:=3) (k := .i64) hq rfl
  have mZ:∀v:Bool,v=(s.getD i false||decide (0<q))→M8 row i (s.set i v) n=kG g e n st (i+1):=by
   intro v hv
   rw[zH,J4,hv,List.getD_eq_getElem?_getD (l:=g),hr,Option.getD_some,List.getD_eq_getElem?_getD (l:=e),hq,Option.getD_some]
  have post:∀(v:Bool) (pM:cG),v=(s.getD i false||decide (0<q))→pM 0=T0 b g e→pM 3=VI n→pM 4 = .ref 0 0 0 n n→pM 5=VI r→pM 6=VI i→pM 7=VI 0 →
    ∀(Q':VQ),(∀sS,sS 0=T0 b g e→sS 3=VI n→sS 4 = .ref 0 0 0 n n→sS 5=VI r→sS 6=VI i→Q' .normal sS [qI (kG g e n st (i+1))])→VW ⟨true,false⟩ 0 (.loop dH) (pP 4 Q') pM [qI (s.set i v)]:=by
   intro v pM hv k0 k3 k4 k5 k6 k7 Q' hQ'
   refine XY hn Tj (by rw[List.length_set,hl]) D4.1 hr D4.2 k0 k3 k4 k5 k6 k7 fun sS m0 m3 m4 m5 m6 => ?_
   rw[mZ v hv]
   exact hQ' sS m0 m3 m4 m5 m6
  cases RI:s.getD i false with
  |
   true =>
   rw[RI] at a2 post
   simp only[gJ,AZ,g0,g3,g4,g6,cB,a1,a2,a5,oU,VX,Nat.reduceEqDiff,Nat.reduceAdd,Nat.reduceLeDiff,Nat.reduceLT,Nat.reduceSub]
   refine post true _ (by simp) ?_ ?_ ?_ ?_ ?_ ?_ _ fun sS m0 m3 m4 m5 m6 => ?_
   all_goals first | exact g0 | exact g3 | exact g4 | exact g5 | exact g6 | rfl | skip
   simp only[m6,wi,oU,VX,Nat.reduceEqDiff,Nat.reduceAdd,Nat.reduceLeDiff,Nat.reduceLT,Nat.reduceSub]
   exact⟨i+1,by omega,by omega,by (repeat' apply And.intro)<;>first | rfl | trivial | assumption⟩
  |
   false =>
   rw[RI] at a2 post
   by_cases hz:q=0
   ·rw[decide_eq_true hz] at e2 ZB
    simp only[gJ,AZ,g0,g3,g4,g6,cB,a1,a2,a5,a7,e2,dC,jI,Nat.zero_add,List.getElem?_cons_zero,List.getElem?_cons_succ,oU,VX,Nat.reduceEqDiff,Nat.reduceAdd,Nat.reduceLeDiff,Nat.reduceLT,Nat.reduceSub]
    refine post false _ (by rw[ZB];rfl) ?_ ?_ ?_ ?_ ?_ ?_ _ fun sS m0 m3 m4 m5 m6 => ?_
    all_goals first | exact g0 | exact g3 | exact g4 | exact g5 | exact g6 | rfl | skip
    simp only[m6,wi,oU,VX,Nat.reduceEqDiff,Nat.reduceAdd,Nat.reduceLeDiff,Nat.reduceLT,Nat.reduceSub]
    exact⟨i+1,by omega,by omega,by (repeat' apply And.intro)<;>first | rfl | trivial | assumption⟩
   ·rw[decide_eq_false hz] at e2 ZB
    simp only[gJ,AZ,g0,g3,g4,g6,cB,a1,a2,a5,a7,e2,dC,jI,Nat.zero_add,List.getElem?_cons_zero,List.getElem?_cons_succ,oU,VX,Nat.reduceEqDiff,Nat.reduceAdd,Nat.reduceLeDiff,Nat.reduceLT,Nat.reduceSub]
    refine post true _ (by rw[ZB];rfl) ?_ ?_ ?_ ?_ ?_ ?_ _ fun sS m0 m3 m4 m5 m6 => ?_
    all_goals first | exact g0 | exact g3 | exact g4 | exact g5 | exact g6 | rfl | skip
    simp only[m6,wi,oU,VX,Nat.reduceEqDiff,Nat.reduceAdd,Nat.reduceLeDiff,Nat.reduceLT,Nat.reduceSub]
    exact⟨i+1,by omega,by omega,by (repeat' apply And.intro)<;>first | rfl | trivial | assumption⟩
 ·have pD:i=n:=by omega
  subst pD
  subst hs
  simp only[gJ,g3,g6,cB,oU,VX,Nat.reduceEqDiff,Nat.reduceAdd,Nat.reduceLeDiff,Nat.reduceLT,Nat.reduceSub]
  refine hQ _ ?_ ?_ ?_ ?_<;>first | exact g0 | exact g3 | exact g4 | exact g5 | rfl
theorem Of (b:List Rat) (g:List (List Rat)) (e:List Rat):aP (T0 b g e)=true:=Uv b g e
set_option maxHeartbeats 1000000 in
theorem En (hn:n≤1000000) (hb:b.length=n) (hg:g.length=n) (Xb:∀w∈g,w.length=n∧∀q∈w,0≤q) (he:e.length=n) (hep:∀q∈e,0≤q):TC 158 [T0 b g e] (VB ((pW g e n n).all id)):=by
 refine TC.walk ⟨true,false⟩ EJ rfl (Nat.le_of_ble_eq_true rfl) (Bk (Of b g e)) rfl ?_
 have e0:∀H,yP [.bool false] 1 (VI n) (VI n) H=some (.ref H.length 0 0 n n,H++[qI (List.replicate n false)]):=fun H=>oW (f:=fun b=>VB b) rfl (by omega) (by omega)
 have wK:((b.length:Nat):Int)=(n:Int):=by omega
 simp only[A0,xZ,AZ,wK,e0,dC,Nat.zero_add,List.getElem?_cons_zero,List.getElem?_cons_succ,List.nil_append,List.length_nil,oU,VX,Nat.reduceEqDiff,Nat.reduceAdd,Nat.reduceLeDiff,Nat.reduceLT,Nat.reduceSub]
 refine aW (fun(i:Nat) aM H=>i≤n∧H=[qI (pW g e n i)]∧aM 0=T0 b g e∧aM 3=VI n∧aM 4 = .ref 0 0 0 n n∧aM 5=VI i) (fun i=>n-i) 0 ⟨Nat.zero_le _,rfl,rfl,rfl,rfl,rfl⟩ ?_
 rintro i aM H ⟨hi,rfl,g0,g3,g4,g5⟩
 have hl:=Ep g e n i
 have zH:pW g e n (i+1)=kG g e n (pW g e n i) n:=rC
 by_cases cB:(i:Int)<(n:Int)
 ·have wi:IntKind.i64.wrap ((i:Int)+1)=((i+1:Nat):Int):=wrapN (i+1) (by omega) (by omega)
  simp only[pN,g3,g5,cB,oU,VX,Nat.reduceEqDiff,Nat.reduceAdd,Nat.reduceLeDiff,Nat.reduceLT,Nat.reduceSub]
  refine V9 (r:=(i:Int)) (b:=b) hn hl hg Xb he hep ?_ ?_ ?_ ?_ ?_ fun sS m0 m3 m4 m5 => ?_
  all_goals first | exact g0 | exact g3 | exact g4 | exact g5 | rfl | skip
  simp only[m5,wi,oU,VX,Nat.reduceEqDiff,Nat.reduceAdd,Nat.reduceLeDiff,Nat.reduceLT,Nat.reduceSub]
  exact⟨i+1,by omega,by omega,by rw[zH],by (repeat' apply And.intro)<;>first | rfl | trivial | assumption⟩
 ·have pD:i=n:=by omega
  subst pD
  simp only[pN,g3,g5,cB,oU,VX,Nat.reduceEqDiff,Nat.reduceAdd,Nat.reduceLeDiff,Nat.reduceLT,Nat.reduceSub]
  generalize pW g e i i=s at *
  refine aW (fun(j:Nat) aM H=>j≤i∧H=[qI s]∧(∀x∈s.take j,x=true)∧aM 3=VI i∧aM 4 = .ref 0 0 0 i i∧aM 8=VI j) (fun j=>i-j) 0 ⟨Nat.zero_le _,rfl,by simp,by simp only[oU,VX,Nat.reduceEqDiff,Nat.reduceAdd,Nat.reduceLeDiff,Nat.reduceLT,Nat.reduceSub];exact g3,by simp only[oU,VX,Nat.reduceEqDiff,Nat.reduceAdd,Nat.reduceLeDiff,Nat.reduceLT,Nat.reduceSub];exact g4,rfl⟩ ?_
  clear g0 g3 g4 g5 cB
  rintro j aM H ⟨hj,rfl,ht,g3,g4,g8⟩
  by_cases cB:(j:Int)<(i:Int)
  ·have J6:j<i:=by omega
   have wj:IntKind.i64.wrap ((j:Int)+1)=((j+1:Nat):Int):=wrapN (j+1) (by omega) (by omega)
   have a3:=fun K=>tT (st:=s) (n:=i) J6 K
   have a4:=fun K=>tJ (st:=s) (i:=j) (by omega) K
   obtain⟨x,hx⟩:∃x,s[j]? = some x:=⟨_,List.getElem?_eq_getElem (by omega)⟩
   have hxd:s.getD j false=x:=by rw[List.getD_eq_getElem?_getD,hx];rfl
   rw[hxd] at a4
   cases x with
   |
    false =>
    have:s.all id=false:=by
     cases h:s.all id with
     | false=>rfl
     | true=>exact absurd (List.all_eq_true.1 h false (List.mem_of_getElem? hx)) (by decide)
    rw[this]
    simp only[lD,g3,g4,g8,cB,a3,a4,Bool.not_false,oU,VX,Nat.reduceEqDiff,Nat.reduceAdd,Nat.reduceLeDiff,Nat.reduceLT,Nat.reduceSub]
    exact aJ rfl
   |
    true =>
    simp only[lD,g3,g4,g8,cB,a3,a4,wj,Bool.not_true,oU,VX,Nat.reduceEqDiff,Nat.reduceAdd,Nat.reduceLeDiff,Nat.reduceLT,Nat.reduceSub]
    refine⟨j+1,by omega,by omega,fun y hy => ?_,by (repeat' apply And.intro)<;>first | rfl | trivial | assumption⟩
    rw[AE hx] at hy
    rcases List.mem_append.1 hy with h | h
    ·exact ht y h
    ·rw[List.mem_singleton] at h
     exact h
  ·have hje:j=i:=by omega
   subst hje
   have:s.all id=true:=by
    rw[List.take_of_length_le (by omega)] at ht
    exact List.all_eq_true.2 ht
   rw[this]
   simp only[lD,g3,g8,cB,oU,VX,Nat.reduceEqDiff,Nat.reduceAdd,Nat.reduceLeDiff,Nat.reduceLT,Nat.reduceSub]
   exact aJ rfl
end
def AT (c:List (List ByteArray)):Nat→List (List Rat)
 | 0=>[]
 |
  i+1=>match jG c i,gG c.length i (c.getD i []) with
  | some out,some r=>out++[r]
  | some out,none=>out
  | none,_=>AT c i
theorem OT {c:List (List ByteArray)} {i:Nat} {out:List (List Rat)} (h:jG c i=some out) (hr:gG c.length i (c.getD i [])=none):∀j,i+1≤j→AT c j=out:=by
 have hn:jG c (i+1)=none:=by rw[jG,h,hr]
 intro j hj
 induction j with
 | zero=>omega
 |
  succ j ih =>
  by_cases he:i=j
  ·subst he
   rw[AT,h,hr]
  ·rw[AT,Bh hn j (by omega)]
   exact ih (by omega)
def Im (s:Ag):List (List Rat):=if (1≤s.b.length∧s.b.length≤6)∧s.g.length=s.b.length∧s.e.length=s.b.length then
  match mX s.b,qG s.e with
  | some _,some r=>if (r.any fun q=>decide (q<0))=false then AT s.g s.b.length else []
  | _,_=>[]
 else []
def Iv (s:Ag):VV:=match gF s with
 | some x => .eG [AZ bG x.1 x.2.1 x.2.2,VB (Jy x)]
 | none => .eG [.agg [.tree [] .op,aC (aC bG) (Im s),.tree [] .op],VB false]
theorem OX (b:List Rat) (g:List (List Rat)) (e:List Rat):gK (AZ bG b g e)=true:=by
 show pB [aC bG b,aC (aC bG) g,aC bG e]=true
 simp only[pB,Dy,YJ,Bool.and_self]
theorem Yo (s:Ag):gK (Iv s)=true:=by
 unfold Iv
 split
 ·exact uQ (OX _ _ _) rfl
 ·exact uQ (OX [] _ []) rfl
end Go.PM
namespace Go.PM
open Go.Lib
theorem IE {out:List (List Rat)} (h:out.length=0) (K:aA):PM.fz 6 K (.tree [] .nil)=some (aC (aC bG) out):=by
 have ho:out=[]:=List.length_eq_zero_iff.1 h
 subst ho
 exact zN
theorem IH {out:List (List Rat)} {i:Nat} {X Y:eR} (h:out.length=i+1):PM.fz 6 [X,Y,.row i (out.map (aC bG)) 1 true] (.ref 2 i 0 (i+1) (i+1))=some (aC (aC bG) out):=by
 have:=Dw (d:=4) (c:=i+1) (b:=2) (g:=i) (e:=1) (w:=true) (H:=[X,Y,.row i (out.map (aC bG)) 1 true]) (oS ·) (by rw[dU,dU,aR]) (by omega)
 rw[h] at this
 exact this
def RB (i:Nat) (out:List (List Rat)):aA:=match i with
 | 0=>[kE,kE]
 | i+1=>[kE,.row 0 [.agg [.tree [] .nil,.ref 2 i 0 (i+1) (i+1),.tree [] .nil]] 3 true,.row i (out.map (aC bG)) 1 true]
theorem OG {H:aA} {u v:VV} (h:PM.fz 6 H u=some v):PM.fz depth H (.eG [.agg [.tree [] .nil,u,.tree [] .nil],VB false])=some (.eG [.agg [.tree [] .op,v,.tree [] .op],VB false]):=by
 refine bE (d:=6) (Db (d:=5) ?_) (aH (v:=VB false) rfl)
 rw[List.mapM_cons,zN,List.mapM_cons,h,List.mapM_cons,zN]
 rfl
set_option maxHeartbeats 4000000 in
set_option maxRecDepth 20000 in
theorem It (s:Ag) (hb:Po s):TC 80 [(sZ s).cP 0] (Iv s):=by
 refine TC.walk ⟨true,false⟩ Iy rfl (Nat.le_of_ble_eq_true rfl) (Bk (show aP (sZ s)=true from qH _)) (Yo _) ?_
 have uR:=hb.b4
 have hel:=hb.e4
 have bad:gF s=none→Im s=[]→∀K,PM.fz depth K (.eG [.agg [.tree [] .nil,.tree [] .nil,.tree [] .nil],VB false])=some (Iv s):=fun h hp K=>by
  have:Iv s = .eG [.agg [.tree [] .op,.tree [] .op,.tree [] .op],VB false]:=by unfold Iv;rw[h,hp];rfl
  rw[this]
  exact OG zN
 have Y4:cD 0 3 (.ptr 1 0 0 0) (.agg [.tree [] .nil,.tree [] .nil,.tree [] .nil]) [kE,kE]=some [kE,kE]:=by
  rw[dI (e:=3) (g:=0) (j:=0) (dU.trans aR) (by exact Nat.zero_lt_one) (by omega) rfl rfl]
  rfl
 have ET:cD 0 3 (.ptr 0 0 0 0) (.agg [.tree [] .nil,.tree [] .nil,.tree [] .nil]) [kE,kE]=some [kE,kE]:=by
  rw[dI (e:=3) (g:=0) (j:=0) aR (by exact Nat.zero_lt_one) (Nat.le_refl _) rfl rfl]
  rfl
 have NQ:cU true 3 (.ptr 0 0 0 0) [kE,kE]=some (.agg [.tree [] .nil,.tree [] .nil,.tree [] .nil]):=rfl
 have Za:cU true 3 (.ptr 1 0 0 0) [kE,kE]=some (.agg [.tree [] .nil,.tree [] .nil,.tree [] .nil]):=rfl
 by_cases h1:(s.b.length:Int)<1
 ·have bad:=bad (by unfold gF;exact if_neg (by omega)) (by unfold Im;exact if_neg (by omega))
  simp only[eW,dB,sZ,h1,ET,Y4,NQ,Za,dC,List.getElem?_cons_zero,List.getElem?_cons_succ,Nat.zero_add,List.nil_append,List.length_nil,List.cons_append,List.length_cons,oU,VX,Nat.reduceEqDiff,Nat.reduceAdd,Nat.reduceLeDiff,Nat.reduceLT,Nat.reduceSub]
  exact bad _
 by_cases h6:(6:Int)<(s.b.length:Int)
 ·have bad:=bad (by unfold gF;exact if_neg (by omega)) (by unfold Im;exact if_neg (by omega))
  simp only[eW,dB,sZ,h1,h6,ET,Y4,NQ,Za,dC,List.getElem?_cons_zero,List.getElem?_cons_succ,Nat.zero_add,List.nil_append,List.length_nil,List.cons_append,List.length_cons,oU,VX,Nat.reduceEqDiff,Nat.reduceAdd,Nat.reduceLeDiff,Nat.reduceLT,Nat.reduceSub]
  exact bad _
 by_cases hg:(s.g.length:Int)=(s.b.length:Int)
 case neg =>
  have bad:=bad (by unfold gF;exact if_neg (by omega)) (by unfold Im;exact if_neg (by omega))
  simp only[eW,dB,sZ,h1,h6,hg,ET,Y4,NQ,Za,dC,List.getElem?_cons_zero,List.getElem?_cons_succ,Nat.zero_add,List.nil_append,List.length_nil,List.cons_append,List.length_cons,ne_eq,not_false_eq_true,decide_true,oU,VX,Nat.reduceEqDiff,Nat.reduceAdd,Nat.reduceLeDiff,Nat.reduceLT,Nat.reduceSub]
  exact bad _
 by_cases he:(s.e.length:Int)=(s.b.length:Int)
 case neg =>
  have bad:=bad (by unfold gF;exact if_neg (by omega)) (by unfold Im;exact if_neg (by omega))
  simp only[eW,dB,sZ,h1,h6,hg,he,ET,Y4,NQ,Za,dC,List.getElem?_cons_zero,List.getElem?_cons_succ,Nat.zero_add,List.nil_append,List.length_nil,List.cons_append,List.length_cons,ne_eq,not_false_eq_true,not_true_eq_false,decide_true,decide_false,oU,VX,Nat.reduceEqDiff,Nat.reduceAdd,Nat.reduceLeDiff,Nat.reduceLT,Nat.reduceSub]
  exact bad _
 have rA:(1≤s.b.length∧s.b.length≤6)∧s.g.length=s.b.length∧s.e.length=s.b.length:=by omega
 have e1:=xN s.b (by omega) hb.bs
 have e2:=xN s.e (by omega) hb.es
 cases hwr:qG s.b with
 |
  none =>
  rw[hwr,Bv] at e1
  have hw:=Hy hwr
  have bad:=bad (by unfold gF;rw[if_pos rA,hw]) (by unfold Im;rw[if_pos rA,hw])
  cases hr:qG s.e with
  |
   none =>
   rw[hr,Bv] at e2
   simp only[eW,dB,sZ,h1,h6,hg,he,e1,e2,ET,Y4,NQ,Za,dC,List.getElem?_cons_zero,List.getElem?_cons_succ,Nat.zero_add,List.nil_append,List.length_nil,List.cons_append,List.length_cons,ne_eq,not_true_eq_false,decide_false,oU,VX,Nat.reduceEqDiff,Nat.reduceAdd,Nat.reduceLeDiff,Nat.reduceLT,Nat.reduceSub]
   exact bad _
  |
   some r =>
   rw[hr,A6] at e2
   simp only[eW,dB,sZ,h1,h6,hg,he,e1,e2,ET,Y4,NQ,Za,dC,List.getElem?_cons_zero,List.getElem?_cons_succ,Nat.zero_add,List.nil_append,List.length_nil,List.cons_append,List.length_cons,ne_eq,not_true_eq_false,decide_false,oU,VX,Nat.reduceEqDiff,Nat.reduceAdd,Nat.reduceLeDiff,Nat.reduceLT,Nat.reduceSub]
   exact bad _
 |
  some w =>
  rw[hwr,A6] at e1
  obtain⟨hwb,hwl,_⟩:=oT hwr
  have VZ:=FM w hwb hwl
  cases hr:qG s.e with
  |
   none =>
   rw[hr,Bv] at e2
   have bad:=bad (by unfold gF;rw[if_pos rA,hr];cases mX s.b<;>rfl) (by unfold Im;rw[if_pos rA,hr];cases mX s.b<;>rfl)
   simp only[eW,dB,sZ,h1,h6,hg,he,e1,e2,ET,Y4,NQ,Za,dC,List.getElem?_cons_zero,List.getElem?_cons_succ,Nat.zero_add,List.nil_append,List.length_nil,List.cons_append,List.length_cons,ne_eq,not_true_eq_false,decide_false,oU,VX,Nat.reduceEqDiff,Nat.reduceAdd,Nat.reduceLeDiff,Nat.reduceLT,Nat.reduceSub]
   exact bad _
  |
   some r =>
   rw[hr,A6] at e2
   obtain⟨BU,D4,XP⟩:=oT hr
   cases hww:lP w with
   |
    false =>
    rw[hww] at VZ
    have hw:mX s.b=none:=by rw[CU hwr,if_neg (by simp[hww])]
    have bad:=bad (by unfold gF;rw[if_pos rA,hw]) (by unfold Im;rw[if_pos rA,hw])
    simp only[eW,dB,sZ,h1,h6,hg,he,e1,VZ,e2,ET,Y4,NQ,Za,dC,List.getElem?_cons_zero,List.getElem?_cons_succ,Nat.zero_add,List.nil_append,List.length_nil,List.cons_append,List.length_cons,ne_eq,not_true_eq_false,decide_false,oU,VX,Nat.reduceEqDiff,Nat.reduceAdd,Nat.reduceLeDiff,Nat.reduceLT,Nat.reduceSub]
    exact bad _
   |
    true =>
    rw[hww] at VZ
    have hw:mX s.b=some w:=by rw[CU hwr,if_pos hww]
    have e3:=qX r (by omega)
    cases vH:r.any (fun q=>decide (q<0)) with
    |
     true =>
     rw[vH] at e3
     have bad:=bad (by unfold gF;rw[if_pos rA,hw,hr];exact if_neg (by rw[vH];decide)) (by unfold Im;rw[if_pos rA,hw,hr];exact if_neg (by rw[vH];decide))
     simp only[eW,dB,sZ,h1,h6,hg,he,e1,VZ,e2,e3,ET,Y4,NQ,Za,dC,List.getElem?_cons_zero,List.getElem?_cons_succ,Nat.zero_add,List.nil_append,List.length_nil,List.cons_append,List.length_cons,Bool.not_true,ne_eq,not_true_eq_false,decide_false,oU,VX,Nat.reduceEqDiff,Nat.reduceAdd,Nat.reduceLeDiff,Nat.reduceLT,Nat.reduceSub]
     exact bad _
    |
     false =>
     rw[vH] at e3
     have DK:gF s=(jG s.g s.b.length).map fun m=>(w,m,r):=by unfold gF;rw[if_pos rA,hw,hr];exact if_pos vH
     have AV:Im s=AT s.g s.b.length:=by unfold Im;rw[if_pos rA,hw,hr];exact if_pos vH
     clear bad
     simp only[eW,dB,sZ,h1,h6,hg,he,e1,VZ,e2,e3,Y4,dC,List.getElem?_cons_zero,List.getElem?_cons_succ,Nat.zero_add,List.nil_append,List.length_nil,List.cons_append,List.length_cons,Bool.not_false,Bool.not_true,ne_eq,not_true_eq_false,decide_false,oU,VX,Nat.reduceEqDiff,Nat.reduceAdd,Nat.reduceLeDiff,Nat.reduceLT,Nat.reduceSub]
     refine aW (fun(i:Nat) ρ H=>i≤s.b.length∧(∃out,jG s.g i=some out∧H=RB i out)∧ρ 0=(sZ s).cP 0∧ρ 2 = .ptr 0 0 0 0∧ρ 4=VI s.b.length∧ρ 5 = .ptr 1 0 0 0∧ρ 6=aC bG w∧ρ 8=aC bG r∧ρ 10=VI i) (fun i=>s.b.length-i) 0
      ⟨Nat.zero_le _,⟨[],rfl,rfl⟩,by (repeat' apply And.intro)<;>first | rfl | trivial | assumption⟩ ?_
     rintro i ρ H ⟨hi,⟨out,yW,rfl⟩,g0,g2,g4,g5,g6,g8,g10⟩
     obtain⟨fU,hof⟩:=Aa yW
     by_cases cB:(i:Int)<(s.b.length:Int)
     ·obtain⟨x,hx⟩:∃x,s.g[i]? = some x:=⟨_,List.getElem?_eq_getElem (by omega)⟩
      have Wi:=List.mem_of_getElem? hx
      have UW:s.g.getD i []=x:=by rw[List.getD_eq_getElem?_getD,hx];rfl
      have a1:=fun H=>aG (f:=fG) (t := .op) (H:=H) (size:=1) (k := .i64) hx rfl
      have wi:IntKind.i64.wrap ((i:Int)+1)=((i+1:Nat):Int):=wrapN (i+1) (by omega) (by omega)
      have e4:=xN x (hb.g9.2 x Wi) (hb.gs x Wi)
      have uU:jG s.g (i+1)=match gG s.g.length i x with | some q=>some (out++[q]) | none=>none:=by
       rw[jG,yW,UW]
       cases gG s.g.length i x<;>rfl
      have bad:gG s.g.length i x=none→∀(u:VV) (K:aA),PM.fz 6 K u=some (aC (aC bG) out)→PM.fz depth K (.eG [.agg [.tree [] .nil,u,.tree [] .nil],VB false])=some (Iv s):=fun h u K hK=>by
       have hp:Iv s = .eG [.agg [.tree [] .op,aC (aC bG) out,.tree [] .op],VB false]:=by
        have h1:gF s=none:=by
         rw[h] at uU
         rw[DK,Bh uU s.b.length (by omega)]
         rfl
        unfold Iv
        rw[h1,AV,OT yW (by rw[UW];exact h) s.b.length (by omega)]
       rw[hp]
       exact OG hK
      cases D5:qG x with
      |
       none =>
       rw[D5,Bv] at e4
       have bd:=bad (by unfold gG;rw[D5])
       cases i with
       |
        zero =>
        simp only[cK,RB,sZ,g0,g2,g4,g5,g10,cB,a1,e4,dC,iH,Nat.reduceLeDiff,Nat.reduceLT,Nat.reduceSub,kC,bL,bW,eE,jC,lW,bne_iff_ne,ne_eq,not_false_eq_true,not_true_eq_false,VX,Nat.reduceEqDiff,Nat.reduceAdd]
        exact bd _ _ (IE fU _)
       |
        succ i =>
        simp only[cK,RB,sZ,g0,g2,g4,g5,g10,cB,a1,e4,dC,iH,Nat.reduceLeDiff,Nat.reduceLT,Nat.reduceSub,kC,bL,bW,eE,jC,lW,bne_iff_ne,ne_eq,not_false_eq_true,not_true_eq_false,VX,Nat.reduceEqDiff,Nat.reduceAdd]
        exact bd _ _ (IH fU)
      |
       some y =>
       rw[D5,A6] at e4
       obtain⟨hyb,hyl,_⟩:=oT D5
       by_cases hl:(y.length:Int)=(s.b.length:Int)
       case neg =>
        have bd:=bad (by unfold gG;rw[D5];exact if_neg (fun h=>hl (by omega)))
        cases i with
        |
         zero =>
         simp only[cK,RB,sZ,g0,g2,g4,g5,g10,cB,a1,e4,hl,dC,ne_eq,not_false_eq_true,decide_true,iH,Nat.reduceLeDiff,Nat.reduceLT,Nat.reduceSub,kC,bL,bW,eE,jC,lW,bne_iff_ne,ne_eq,not_false_eq_true,not_true_eq_false,VX,Nat.reduceEqDiff,Nat.reduceAdd]
         exact bd _ _ (IE fU _)
        |
         succ i =>
         simp only[cK,RB,sZ,g0,g2,g4,g5,g10,cB,a1,e4,hl,dC,ne_eq,not_false_eq_true,decide_true,iH,Nat.reduceLeDiff,Nat.reduceLT,Nat.reduceSub,kC,bL,bW,eE,jC,lW,bne_iff_ne,ne_eq,not_false_eq_true,not_true_eq_false,VX,Nat.reduceEqDiff,Nat.reduceAdd]
         exact bd _ _ (IH fU)
       have e5:=qX y (by omega)
       cases F3:y.any (fun q=>decide (q<0)) with
       |
        true =>
        rw[F3] at e5
        have bd:=bad (by unfold gG;rw[D5];exact if_neg (fun h=>by rw[F3] at h;cases h.2.1))
        cases i with
        |
         zero =>
         simp only[cK,RB,sZ,g0,g2,g4,g5,g10,cB,a1,e4,e5,hl,dC,Bool.not_true,ne_eq,not_true_eq_false,decide_false,iH,Nat.reduceLeDiff,Nat.reduceLT,Nat.reduceSub,kC,bL,bW,eE,jC,lW,bne_iff_ne,ne_eq,not_false_eq_true,not_true_eq_false,VX,Nat.reduceEqDiff,Nat.reduceAdd]
         exact bd _ _ (IE fU _)
        |
         succ i =>
         simp only[cK,RB,sZ,g0,g2,g4,g5,g10,cB,a1,e4,e5,hl,dC,Bool.not_true,ne_eq,not_true_eq_false,decide_false,iH,Nat.reduceLeDiff,Nat.reduceLT,Nat.reduceSub,kC,bL,bW,eE,jC,lW,bne_iff_ne,ne_eq,not_false_eq_true,not_true_eq_false,VX,Nat.reduceEqDiff,Nat.reduceAdd]
         exact bd _ _ (IH fU)
       |
        false =>
        rw[F3] at e5
        obtain⟨q,hq⟩:∃q,y[i]? = some q:=⟨_,List.getElem?_eq_getElem (by omega)⟩
        have hqd:y.getD i 0=q:=by rw[List.getD_eq_getElem?_getD,hq];rfl
        have a2:=fun H=>aG (f:=bG) (t := .op) (H:=H) (size:=3) (k := .i64) hq rfl
        have e6:=yC q
        by_cases hz:q=0
        case neg =>
         rw[decide_eq_false hz] at e6
         have bd:=bad (by unfold gG;rw[D5];exact if_neg (fun h=>hz (by rw[←hqd];exact h.2.2)))
         cases i with
         |
          zero =>
          simp only[cK,RB,sZ,g0,g2,g4,g5,g10,cB,a1,a2,e4,e5,e6,hl,dC,jI,Bool.not_false,ne_eq,not_true_eq_false,decide_false,iH,Nat.reduceLeDiff,Nat.reduceLT,Nat.reduceSub,kC,bL,bW,eE,jC,lW,bne_iff_ne,ne_eq,not_false_eq_true,not_true_eq_false,VX,Nat.reduceEqDiff,Nat.reduceAdd]
          exact bd _ _ (IE fU _)
         |
          succ i =>
          simp only[cK,RB,sZ,g0,g2,g4,g5,g10,cB,a1,a2,e4,e5,e6,hl,dC,jI,Bool.not_false,ne_eq,not_true_eq_false,decide_false,iH,Nat.reduceLeDiff,Nat.reduceLT,Nat.reduceSub,kC,bL,bW,eE,jC,lW,bne_iff_ne,ne_eq,not_false_eq_true,not_true_eq_false,VX,Nat.reduceEqDiff,Nat.reduceAdd]
          exact bd _ _ (IH fU)
        rw[decide_eq_true hz] at e6
        have nA:gG s.g.length i x=some y:=by unfold gG;rw[D5];exact if_pos ⟨by omega,F3,by rw[hqd,hz]⟩
        rw[nA] at uU
        have eL:∀K,tY false [.slice none 0 0] 1 [(0,aC bG y)] K=some (.tree [aC bG y] (.cl 1),K):=fun K=>uM rfl rfl rfl
        have eS:∀K,fF 1 (.tree [aC bG y] (.cl 1)) K=some [aC bG y]:=fun K=>oI rfl rfl
        cases i with
        |
         zero =>
         have ho:out=[]:=List.length_eq_zero_iff.1 fU
         subst ho
         have eP:∀K:aA,eJ 0 1 24 (.tree [] .nil) [aC bG y] K=some (.ref K.length 0 0 1 1,K++[.row 0 [aC bG y] 1 true]):=fun K=>by simp[eJ]
         simp only[cK,RB,sZ,g0,g2,g4,g5,g10,cB,a1,a2,e4,e5,e6,hl,eL,eS,eP,wi,dC,jI,Bool.not_false,Bool.not_true,ne_eq,not_true_eq_false,decide_false,List.length_cons,List.length_nil,List.cons_append,List.nil_append,iH,Nat.reduceLeDiff,Nat.reduceLT,Nat.reduceSub,kC,bL,bW,eE,jC,lW,bne_iff_ne,ne_eq,not_false_eq_true,not_true_eq_false,VX,Nat.reduceEqDiff,Nat.reduceAdd]
         exact⟨1,by omega,by omega,⟨[y],uU,rfl⟩,by (repeat' apply And.intro)<;>first | rfl | trivial | assumption⟩
        |
         succ i =>
         have eP:eJ 0 1 24 (.ref 2 i 0 (i+1) (i+1)) [aC bG y] (RB (i+1) out)=some (.ref 2 (i+1) 0 (i+2) (i+2),[kE,.row 0 [.agg [.tree [] .nil,.ref 2 i 0 (i+1) (i+1),.tree [] .nil]] 3 true,.row (i+1) ((out++[y]).map (aC bG)) 1 true]):=by
          rw[RB,oG (f:=aC bG) (xs:=out) (by rw[dU,dU,aR]) fU.symm (Nat.zero_le _) (by decide) (by decide) (by omega)]
          rfl
         simp only[RB] at eP
         simp only[cK,RB,sZ,g0,g2,g4,g5,g10,cB,a1,a2,e4,e5,e6,hl,eL,eS,eP,wi,dC,jI,Bool.not_false,Bool.not_true,ne_eq,not_true_eq_false,decide_false,iH,Nat.reduceLeDiff,Nat.reduceLT,Nat.reduceSub,kC,bL,bW,eE,jC,lW,bne_iff_ne,ne_eq,not_false_eq_true,not_true_eq_false,VX,Nat.reduceEqDiff,Nat.reduceAdd]
         exact⟨i+2,by omega,by omega,⟨out++[y],uU,rfl⟩,by (repeat' apply And.intro)<;>first | rfl | trivial | assumption⟩
     ·have pD:i=s.b.length:=by omega
      rw[pD] at yW fU
      obtain⟨k,hk⟩:∃k,s.b.length=k+1:=⟨s.b.length-1,by omega⟩
      have hik:i=k+1:=by omega
      subst hik
      have ajL:r.length=s.b.length:=by omega
      have asO:w.length=s.b.length:=(oT hwr).2.2
      have XF:Iv s = .eG [AZ bG w out r,VB (Jy (w,out,r))]:=by unfold Iv;rw[DK,yW];rfl
      rw[XF]
      have ahO:∀q∈r,0≤q:=fun q hq=>Rat.not_lt.1 (by have:=List.any_eq_false.1 vH q hq;simpa using this)
      have hF:=En (b:=w) (g:=out) (e:=r) (n:=r.length) (by omega) (by omega) (by omega) (fun z hz=>⟨by have:=(hof z hz).1;omega,fun q hq=>((hof z hz).2 q hq).1⟩) rfl ahO
      have Lw:∀Y X:eR,aK [Y,X,.row k (out.map (aC bG)) 1 true] 2 k=some (out.map (aC bG),1,true):=fun Y X=>by rw[dU,dU,aR]
      have WB:=fun Y X=>Dw (d:=4) (c:=k+1) (oS ·) (Lw Y X) (by omega)
      rw[hk] at fU
      rw[fU] at WB
      have hfa:∀Y X,PM.fz 7 [Y,X,.row k (out.map (aC bG)) 1 true] (.agg [aC bG w,.ref 2 k 0 (k+1) (k+1),aC bG r])=some (AZ bG w out r):=fun Y X=>by
       refine Db (d:=5) ?_
       rw[List.mapM_cons,aH (oS w),List.mapM_cons,WB,List.mapM_cons,aH (oS r)]
       rfl
      have hp1:PM.fz depth [kE,.row 0 [.agg [aC bG w,.ref 2 k 0 (k+1) (k+1),aC bG r]] 3 true,.row k (out.map (aC bG)) 1 true] (.ptr 1 0 0 0)=some (T0 w out r):=adO (o:=0) (b:=1) (g:=0) (j:=0) (es:=[.agg [aC bG w,.ref 2 k 0 (k+1) (k+1),aC bG r]]) (x := .agg [aC bG w,.ref 2 k 0 (k+1) (k+1),aC bG r]) (x':=AZ bG w out r) (dU.trans aR) rfl (hfa _ _)
      have V7:=fun lo K=>TC.flat (args:=[.ptr 1 0 0 0]) (kD:=[T0 w out r]) hF rfl (Bk (Of _ _ _)) (fz1 hp1) rfl lo K
      simp only[cK,RB,g2,g4,g5,g6,g8,g10,cB,V7,dC,iH,Nat.reduceLeDiff,Nat.reduceLT,Nat.reduceSub,kC,bL,bW,eE,jC,lW,bne_iff_ne,ne_eq,not_false_eq_true,not_true_eq_false,VX,Nat.reduceEqDiff,Nat.reduceAdd]
      exact bE (d:=6) (hfa _ _) (aH (v:=VB _) rfl)
theorem DC (s:Ag) (hb:Po s):TC 16 [sZ s] (VB (match gF s with | some x=>Jy x | none=>false)):=by
 refine TC.walk ⟨true,false⟩ DD rfl (Nat.le_of_ble_eq_true rfl) (Bk (qH _)) rfl ?_
 have e1:=It s hb
 unfold Iv at e1
 cases h:gF s with
 |
  none =>
  rw[h] at e1
  simp only[sJ,pU,rG,mK,e1,iH,Nat.reduceLeDiff,Nat.reduceLT,Nat.reduceSub,kC,bL,bW,eE,jC,lW,bne_iff_ne,ne_eq,not_false_eq_true,not_true_eq_false,VX,Nat.reduceEqDiff,Nat.reduceAdd]
  exact aJ rfl
 |
  some x =>
  rw[h] at e1
  simp only[AZ] at e1
  simp only[sJ,pU,rG,mK,e1,iH,Nat.reduceLeDiff,Nat.reduceLT,Nat.reduceSub,kC,bL,bW,eE,jC,lW,bne_iff_ne,ne_eq,not_false_eq_true,not_true_eq_false,VX,Nat.reduceEqDiff,Nat.reduceAdd]
  exact aJ rfl
end Go.PM
namespace Go.PM
def jV:aF:=(LS [LO 1 (.box (LT 0)),LO 2 (.mv LF)] (LS [LO 3 (.mv (LI 1000000))] (LS [LO 8 (LK 1),LM 9 3,LO 10 (.call 15 [(LT 8),(LT 9)]),LM 3 10] (.seq (LS [LM 11 3,LO 12 (.bin .lss (LT 11) (LI 0))] (.cond (LT 12) (LS [LO 2 (.mv LG)] .ret) .skip)) (LS [LO 13 (LK 1),LO 14 (.call 17 [(LT 13),LF]),LO 15 (.call 16 [(LT 14)]),LM 4 15] (LS [LO 16 (LK 1),LO 17 (.call 17 [(LT 16),LF]),LO 5 (.new [(.slice none 0 0),(.slice none 0 0),(.slice none 0 0)]),LN (.store 3 (LT 5) (LT 17))] (LS [LO 18 (LK 5),LO 19 (.call 18 [(LT 18)]),LM 6 19] (.seq (LS [LM 20 6,LM 21 4,LO 22 (.eqb true (LT 20) (LT 21))] (.cond (LT 22) (LS [LO 2 (.mv LF)] .ret) .skip)) (.seq (LS [LO 23 (LK 5),LO 24 (LK 1),LQ 25 (.call 17 [(LT 24),LF]),LQ 26 (.call 19 [(LT 23),(LT 25)]),LO 27 (.un .not (LT 26))] (.cond (LT 27) (LS [LO 2 (.mv LF)] .ret) .skip)) (LS [LO 28 (LK 1),LO 29 (.call 17 [(LT 28),LG]),LO 30 (.call 18 [(LT 29)]),LM 7 30] (.seq (LS [LM 31 7,LM 32 4,LO 33 (.eqb true (LT 31) (LT 32))] (.cond (LT 33) (LS [LO 2 (.mv LF)] .ret) .skip)) (LS [LO 2 (.mv LG)] .ret))))))))))))
def kZ:aY:=⟨34,[(.tmp 2)],jV⟩
theorem yS:jE 3=some kZ:=by kernel_rfl
end Go.PM
namespace Go.PM
def UF (N:Nat) (hi:Int) (st:List (Nat×Int)):Prop:=∀p∈st,p.1<N∧1≤p.2∧p.2≤hi
theorem UF.cons {N:Nat} {hi:Int} {p:Nat×Int} {st:List (Nat×Int)} (h:UF N hi (p::st)):(p.1<N∧1≤p.2∧p.2≤hi)∧UF N hi st:=⟨h p List.mem_cons_self,fun q hq=>h q (List.mem_cons_of_mem _ hq)⟩
theorem UF.of {N:Nat} {hi:Int} {p:Nat×Int} {st:List (Nat×Int)} (hp:p.1<N∧1≤p.2∧p.2≤hi) (h:UF N hi st):UF N hi (p::st):=fun q hq=>by
 rcases List.mem_cons.1 hq with rfl | hq
 ·exact hp
 ·exact h q hq
end Go.PM
namespace Go.PM
structure atT (bK lK room:Int) (cs:List fL) where
 I:Nat→Nat→List Nat→List Int→List Int→Prop
 A:Nat→Int→Nat→List Nat→List Int→List Int→Prop
 S:Nat→Int→Nat→List Nat→List Int→List Int→Prop
 bI:∀ {m bM ws ends st},I m bM ws ends st→bM≤cs.length∧st.length=cs.length∧ws.length≤24∧ends.length≤24
 bA:∀ {m now bM ws ends st},A m now bM ws ends st→bM≤cs.length∧st.length=cs.length∧ws.length≤24∧ends.length≤24
 bS:∀ {m now bM ws ends st},S m now bM ws ends st→bM≤cs.length∧st.length=cs.length∧ws.length≤24∧ends.length≤24∧(∀i∈ws,i<cs.length)∧(0≤now∧now≤100000)
 start:∃m,I m 0 [] [] (List.replicate cs.length (-1))
 toA:∀ {m bM ws ends st},I m bM ws ends st→bM<cs.length∨0<ws.length→A m (Fk cs bM ws ends) bM ws (ends.filter (ZF (Fk cs bM ws ends))) st
 auK:∀ {m now bM ws ends st},A m now bM ws ends st→bM<cs.length→Ii cs bM=now→A m now (bM+1) (if (ws.length:Int)+(ends.length:Int)<room then ws++[bM] else ws) ends st
 toS:∀ {m now bM ws ends st},A m now bM ws ends st→¬(bM<cs.length∧Ii cs bM=now)→S m now bM ws ends st
 avA:∀ {m now bM ws ends st},S m now bM ws ends st→(ends.length:Int)<lK→0<ws.length→∃k,ws[FB bK cs ws]? = some k∧S m now bM (ws.eraseIdx (FB bK cs ws)) (ends++[now+Uj cs k]) (st.set k now)
 toI:∀ {m now bM ws ends st},S m now bM ws ends st→¬((ends.length:Int)<lK∧0<ws.length)→∃m',m'<m∧I m' bM ws ends st
structure StE (bK lK room:Int) (cs:List fL) (n g1 k1 c1 g2 k2 c2 bM:Nat) (ρ:cG):Prop where
 r0:ρ 0=VI bK
 r1:ρ 1=VI lK
 r2:ρ 2=VI room
 r3:ρ 3=XS cs
 r9:ρ 9 = .ref n 0 0 cs.length cs.length
 r10:ρ 10 = .ref (n+1) g1 0 k1 c1
 r11:ρ 11 = .ref (n+2) g2 0 k2 c2
 r12:ρ 12=VI bM
structure Part {α:Type} (all xs:List α):Prop where
 le:xs.length≤all.length
 tk:all.take xs.length=xs
theorem Part.get {α:Type} {all xs:List α} (h:Part all xs) {i:Nat} {x:α} (hx:xs[i]? = some x):all[i]? = some x:=by
 rw[←h.tk,List.getElem?_take] at hx
 split at hx
 ·exact hx
 ·cases hx
theorem Part.fz {α:Type} {f:α→VV} {e b g:Nat} {all xs:List α} {w:Bool} {H:aA} (h:Part all xs) (hp:∀x,aP (f x)=true) (hr:aK H b g=some (all.map f,e,w)):fz depth H (.ref b g 0 xs.length all.length)=some (aC f xs):=by
 rw[Nu hr (by rw[List.length_map];exact h.le) h.le (dZ hp),←List.map_take,h.tk]
theorem StE.Fs {bK lK room:Int} {cs:List fL} {n g1 k1 c1 g2 k2 c2 bM:Nat} {ρ:cG} (h:StE bK lK room cs n g1 k1 c1 g2 k2 c2 bM ρ):StE bK lK room cs n g1 k1 c1 g2 k2 c2 bM (nG (n+3) ρ):=by
 obtain⟨h0,h1,h2,h3,h9,h10,h11,h12⟩:=h
 refine⟨?_,?_,?_,?_,?_,?_,?_,?_⟩
 ·rw[gT,h0];rfl
 ·rw[gT,h1];rfl
 ·rw[gT,h2];rfl
 ·rw[gT,h3,wS (Ot _)]
 ·rw[gT,h9,wL (by omega)]
 ·rw[gT,h10,wL (by omega)]
 ·rw[gT,h11,wL (by omega)]
 ·rw[gT,h12];rfl
end Go.PM
namespace Go.PM
theorem Xu {p:Nat→Bool} {a b:Nat} (h:a≤b):((List.range b).filter p).length≤((List.range a).filter p).length+(b-a):=by
 obtain⟨d,rfl⟩:∃d,b=a+d:=⟨b-a,by omega⟩
 rw[List.range_add,List.filter_append,List.length_append]
 have:=List.length_filter_le p ((List.range d).map fun x=>a+x)
 simp only[List.length_map,List.length_range] at this
 omega
structure StA (bK lK:Int) (cs:List fL) (m:Nat) (now:Int) (bM:Nat) (ws:List Nat) (ends st:List Int) (t:Int) (E5:Nat) (ws0:List Nat) (I9:List Int):Prop where
 imp:Il bK lK cs st t E5 ws0 I9
 gd:E5<cs.length∨0<ws0.length
 ms:m=2*(cs.length-E5)+ws0.length
 nw:now=Fk cs E5 ws0 I9
 c0:E5≤bM
 c1:bM≤cs.length
 eq:∀i,E5≤i→i<bM→Ii cs i=now
 UP:ws=(List.range bM).filter (JE st)
 enq:ends=I9.filter (ZF now)
theorem StA.bnd {bK lK:Int} {cs:List fL} {m:Nat} {now:Int} {bM:Nat} {ws:List Nat} {ends st:List Int} {t:Int} {E5:Nat} {ws0:List Nat} {I9:List Int} (h:StA bK lK cs m now bM ws ends st t E5 ws0 I9):ws.length+ends.length≤bM∧ws.length≤ws0.length+(bM-E5)∧ends.length≤I9.length:=by
 have h1:=Xu (p:=JE st) h.c0
 have h2:=Dt (st:=st) h.imp.KN h.imp.past fun i h3 h4=>(h.imp.Y7 i h3 h4).1
 rw[←h2,←h.imp.UP,←h.UP] at h1
 have h3:=List.length_filter_le (ZF now) I9
 rw[←h.enq] at h3
 have h4:=h.imp.room
 have h5:=h.c0
 omega
structure StS (bK lK:Int) (cs:List fL) (m:Nat) (now:Int) (bM:Nat) (ws:List Nat) (ends st:List Int) (ET:List Int) (w2 e2:Nat):Prop where
 ph:Ph4 bK lK cs ET now bM (w2+e2) st ws ends
 c1:bM≤cs.length
 tc:w2+e2≤bM
 run:runT bK lK cs now (100000-now).toNat ET=stL bK lK cs
 wle:ws.length≤w2
 ms:2*(cs.length-bM)+w2<m∨(2*(cs.length-bM)+w2=m∧0<w2∧(e2:Int)<lK)
def stR (bJ:List Int) (n:Nat) (r:VV) (L:aA):Prop:=r = .ref n 0 0 bJ.length bJ.length∧L[0]? = some (.row 0 (bJ.map nV) 1 true)
def akD (bJ:List Int) (n:Nat) (r:VV) (L:aA):Prop:=r = .ref n 0 0 bJ.length bJ.length∧L=[.row 0 (bJ.map nV) 1 true]
theorem akD.to {bJ:List Int} {n:Nat} {r:VV} {L:aA} (h:akD bJ n r L):stR bJ n r L:=⟨h.1,by rw[h.2];rfl⟩
end Go.PM
namespace Go.PM
def anS (bK lK:Int) (cs:List fL):Prop:=(0≤bK∧bK≤3)∧(1≤lK∧lK≤8)∧kA cs
noncomputable instance (bK lK:Int) (cs:List fL):Decidable (anS bK lK cs):=Classical.propDecidable _
theorem kA.mem {cs:List fL} (h:kA cs) {c:fL} (hc:c∈cs):(0≤c.t∧c.t≤10000)∧(1≤c.w∧c.w≤1000)∧(0≤c.k∧c.k≤9):=by
 obtain⟨i,hi⟩:=List.getElem?_of_mem hc
 exact h.at hi
theorem FC.mono {f:Nat} {args:List VV} {R R':Nat→VV→aA→Prop} (h:FC f args R) (hR:∀n r L,R n r L→R' n r L):FC f args R':=fun n=>(h n).mono fun _ _ ⟨L,h1,h2,h3,h4⟩=>⟨L,h1,h2,h3,hR _ _ _ h4⟩
theorem Il.all {bK lK:Int} {cs:List fL} {st:List Int} {t:Int} {bM:Nat} {ws:List Nat} {ends:List Int} (h:Il bK lK cs st t bM ws ends) (abZ:¬bM<cs.length) (hw:¬0<ws.length):∀i,i<cs.length→0≤FV st i:=by
 intro i hi
 have kU:=h.KN
 rcases Int.lt_or_le (FV st i) 0 with h1 | h1
 ·have h2:i∈wt cs st t:=G0.2 ⟨hi,h1,h.past i (by omega)⟩
  rw[←h.UP,List.eq_nil_of_length_eq_zero (by omega:ws.length=0)] at h2
  cases h2
 ·exact h1
end Go.PM
namespace Go.PM
theorem LR.of {bJ:List Int} {ok:Bool} {n:Nat} {r:VV} {L:aA} (h:stR bJ n r L):LR bJ ok n (.eG [r,.sc (.bool ok)]) L:=⟨r,rfl,.inr ⟨0,0,bJ.length,h.1,Nat.le_refl _,h.2⟩⟩
end Go.PM
namespace Go.PM
theorem LR.fz {bJ:List Int} {ok:Bool} {n:Nat} {v:VV} {L:aA} (h:(v = .tree [] .nil∧bJ=[])∨∃i g c,v = .ref (n+i) g 0 bJ.length c∧bJ.length≤c∧L[i]? = some (.row g (bJ.map nV) 1 true)):PM.fz depth (List.replicate n eR.dead++L) v=some (acG bJ):=by
 rcases h with⟨rfl,rfl⟩ | ⟨i,g,c,rfl,h2,h3⟩
 ·exact Kp
 ·exact NB (fun _=>rfl) (by rw[NV];exact cO.2 h3) h2
end Go.PM
namespace Go.PM
open Go.Lib
end Go.PM
namespace Go.PM
theorem MU {f lo:Nat} {args kD:List VV} {r:VV} {H:aA} {K:VV→aA→Prop} (h:TC f kD r) (A7:Ez.contains f=false) (Z3:aN kD=true) (hf:args.mapM (fz depth H)=some kD) (hr:Fa r=true) (hk:K r H):cW f args lo H K:=by
 rw[h.flat A7 Z3 hf hr]
 exact hk
end Go.PM
namespace Go.PM
def XC (s:Ag):Bool:=match gF s with | some x=>Jy x | none=>false
set_option maxHeartbeats 2000000 in
theorem xW (s0:Ag) (Rl:Z1 s0):TC 3 [sZ s0] (.sc (.bool true)):=by
 refine TC.walk ⟨true,false⟩ yS rfl (Nat.le_of_ble_eq_true rfl) (Bk (qH _)) rfl ?_
 have Va:=Ho s0 (1000000) Rl (by omega)
 change TC _ _ (VI (JB s0 (1000000))) at Va
 by_cases akV:JB s0 (1000000)<0
 ·rw[Zh akV] at Va
  simp only[kZ,jV,rG,mK,Va,Int.reduceNeg,Int.reduceLT,VX,Nat.reduceEqDiff,Nat.reduceAdd]
  exact aJ rfl
 have aiW:=ZA (s:=s0) (l:=1000000) (by omega) (by omega)
 have axO:=aiW.1
 have QO:Po s0:=aiW.2
 have V4:=QO.g9
 have Ym:=QO.g4
 have Xk:=QO.b4
 have KZ:=QO.e4
 simp only[kZ,jV,rG,mK,Va,akV,VX,Nat.reduceEqDiff,Nat.reduceAdd]
 have cs:TC _ [sZ s0] (VB (XC s0)):=DC s0 QO
 have ci:TC _ [sZ s0] (VB (XC s0)):=DO s0 QO
 have pa:aN [sZ s0]=true:=Bk (qH _)
 refine Tu (by have:=Xk;omega) V4 (by have:=KZ;omega) fun r1 H1 p1 s1' => ?_
 simp only[rG,mK,VX,Nat.reduceEqDiff,Nat.reduceAdd]
 refine MU cs rfl pa (fz1 (s1'.pre (List.prefix_refl _)).fz) rfl ?_
 simp only[rG,mK,VX,Nat.reduceEqDiff,Nat.reduceAdd]
 refine Tu (by have:=Xk;omega) V4 (by have:=KZ;omega) fun r2 H2 p2 s2' => ?_
 have w2:=apL (lo:=0) s2' (Nat.zero_le _)
 simp only[rG,mK,w2,oC,VX,Nat.reduceEqDiff,Nat.reduceAdd]
 have p3:=List.prefix_append H2 [.row 0 [r2] 3 true]
 have q2:aK (H2++[.row 0 [r2] 3 true]) H2.length 0=some ([r2],3,true):=AA
 generalize eh3:H2++[.row 0 [r2] 3 true]=H3 at *
 simp only[rG,mK,ld3 s2' (cT (List.prefix_refl _) q2),VX,Nat.reduceEqDiff,Nat.reduceAdd]
 refine MU ci rfl pa (fz1 (s2'.pre p3).fz) rfl ?_
 simp only[rG,mK,O7,ld3 s2' (cT (List.prefix_refl _) q2),VX,Nat.reduceEqDiff,Nat.reduceAdd]
 refine Tu (by have:=Xk;omega) V4 (by have:=KZ;omega) fun r4 H4 p4 s4' => ?_
 simp only[rG,mK,ld3 s2' (cT p4 q2),VX,Nat.reduceEqDiff,Nat.reduceAdd]
 refine CF s0 Xk Ym KZ (s2'.pre (p3.trans p4)) s4' ?_
 simp only[rG,mK,ld3 s2' (cT p4 q2),VX,Nat.reduceEqDiff,Nat.reduceAdd]
 refine Tu (by have:=Xk;omega) V4 (by have:=KZ;omega) fun r5 H5 p5 s5' => ?_
 simp only[rG,mK,VX,Nat.reduceEqDiff,Nat.reduceAdd]
 refine MU ci rfl pa (fz1 (s5'.pre (List.prefix_refl _)).fz) rfl ?_
 simp only[rG,mK,O7,VX,Nat.reduceEqDiff,Nat.reduceAdd]
 exact aJ rfl
end Go.PM
namespace Go.PM
open Go.Proofs
theorem D0 {P:Program} {w:World} {name:String} {d:DataW Unit}:∀ {l:List (String×DataW Unit)} {ps:List MemPlace},DataW.LaidVars P w l ps→(name,d)∈l →
  ∃g t cs fuel p,P.globalNamed name=some g∧(P.globals[g]?).map (·.type)=some t∧w.var? P name=some cs∧DataW.trod (fun _=>()) P w 0 (fun _=>true) false fuel t cs.toList=some (d,p)
 | [],_,_,hm=>by cases hm
 |
  (n,e)::r,ps,h,hm=>by
  obtain⟨g,t,cs,fuel,p,q,h1,h2,h3,h4,h5,_⟩:=h
  rcases List.mem_cons.1 hm with he | hm
  ·cases he
   exact⟨g,t,cs,fuel,p,h1,h2,h3,h4⟩
  ·exact D0 h5 hm
theorem Ka {W:World} {l:List (String×DataW Unit)} (hl:laidMetH Tryz.prog l W) (hp:(l.all fun x=>x.2.handleName?.isNone)=true) (hm:("internal/strconv.uint64pow10",Lib.tabData .u64 Lib.pow10Tab)∈l)
  {t e:TypeId} {n:Nat} (hty:(Tryz.prog.globals[1]?).map (·.type)=some t) (ht:Tryz.prog.underlying t=some (.array n e)) (he:Tryz.prog.underlying e=some (.int .u64)) (hce:Tryz.prog.cellsOf e=1) (hct:Tryz.prog.cellsOf t=n):Nw W:=by
 rw[MakeChecks.laidMetH_plain _ _ _ hp] at hl
 obtain⟨ps,h1,_⟩:=hl
 obtain⟨g',t',cs,fuel,p,Xc,Zt,YD,hd⟩:=D0 h1 hm
 have hg:Tryz.prog.globalNamed "internal/strconv.uint64pow10"=some 1:=by kernel_rfl
 obtain rfl:=Option.some.inj (hg.symm.trans Xc)
 obtain rfl:=Option.some.inj (hty.symm.trans Zt)
 have Kx:=Lib.cells_of_tab ht he hce hct hd
 intro x hx
 have Gk:x=(1,(Lib.pow10Tab.map fun z=>Value.int .u64 z).toArray):=by simpa[Zw] using hx
 subst Gk
 unfold World.var? at YD
 rw[hg,Option.bind_some] at YD
 split at YD
 ·rename_i Ad e' fz' hh
  cases YD
  refine⟨e',fz',?_⟩
  rw[←Kx]
  simpa using hh
 ·cases YD
end Go.PM