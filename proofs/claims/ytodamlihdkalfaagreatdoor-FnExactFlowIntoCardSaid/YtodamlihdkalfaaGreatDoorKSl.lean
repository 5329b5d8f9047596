/- Texts of a claim, in one: part 12. -/
import Derived.KernelRfl
import Derived.Lib.LaidTab
import Derived.LaidLaws
import Derived.LaidMore
import Derived.MakeChecks
import Derived.Handed
import Derived.Test.YtodamlihdkalfaaGreatDoorKSk
set_option linter.unusedSimpArgs false
set_option linter.unusedVariables false
namespace Go.PM
open Go.Lib
def CV (l:List UInt8):VV:=match xD l with
 | some q => .dL [bX q,VB true]
 | none => .dL [Lp,VB false]
theorem yW (q:Rat):aM (bX q)=true:=by simp[bX,aM,aJ,bZ,nF]
theorem Nw (q:Rat):eQ (bX q)=true:=by simp[bX,eQ,pR,mY,nF]
theorem Th (l:List UInt8):eQ (CV l)=true:=by
 unfold CV
 split<;>simp[eQ,pR,Nw,Rz,nF]
theorem KI {neg:Bool} {t b:Nat} (hb:b≠0) (hg:Nat.gcd t b=1) (hn:¬(neg=true∧t=0)):bX (mkRat (kG neg t) b) = .agg [VB neg,bQ t,bQ b]:=by
 obtain⟨e1,e2⟩:=IA (neg:=neg) hb hg
 refine OS ?_ (by rw[e1,nP]) e2
 rw[e1]
 cases neg with
 | false=>unfold kG;simp
 |
  true =>
  have:t≠0:=fun h=>hn ⟨rfl,h⟩
  unfold kG
  simp
  omega
theorem DA {n:Nat}:(((aC 1000000000 n).length:Nat):Int)=0↔n=0:=by
 rw[←lM (b:=1000000000) (n:=n) (by decide),←List.length_eq_zero_iff]
 omega
theorem Py {neg:Bool} {d t:List UInt8} (h:(47:UInt8)∈t):nZ neg d (some t)=none:=by
 have ht:iD t=false:=by
  cases hk:iD t with
  | false=>rfl
  | true=>exact absurd h (Xt (jS.1 hk).1)
 unfold nZ
 split
 ·rfl
 ·simp only
  rw[if_neg (fun h=>by rw[ht] at h;exact absurd h.1 (by decide))]
theorem at_one (x:List UInt8) (H:aA):bJ 1 (aL aW [x]) (VI 0) H=some (.cK (aW x) 0):=aI (f:=aW) (t := .op) (H:=H) (size:=1) (k := .i64) (xs:=[x]) (i:=0) rfl rfl
theorem aaO (x y:List UInt8) (H:aA):bJ 1 (aL aW [x,y]) (VI 0) H=some (.cK (aW x) 0):=aI (f:=aW) (t := .op) (H:=H) (size:=1) (k := .i64) (xs:=[x,y]) (i:=0) rfl rfl
theorem acS (x y:List UInt8) (H:aA):bJ 1 (aL aW [x,y]) (VI 1) H=some (.cK (aW y) 0):=aI (f:=aW) (t := .op) (H:=H) (size:=1) (k := .i64) (xs:=[x,y]) (i:=1) rfl rfl
theorem Tv (x:List UInt8) (H:aA):pV (aL aW [x]) H=some (VI 1):=eK (f:=aW) (xs:=[x])
theorem acL (x y:List UInt8) (H:aA):pV (aL aW [x,y]) H=some (VI 2):=eK (f:=aW) (xs:=[x,y])
set_option maxRecDepth 100000 in
set_option maxHeartbeats 4000000 in
theorem I1 (l:List UInt8) (hl:l.length≤1000000000):TC 175 [aW l] (CV l):=by
 refine TC.walk ⟨true,false⟩ I0 rfl (Nat.le_of_ble_eq_true rfl) rfl (Th l) ?_
 by_cases zX:l=[]
 ·subst zX
  have eC:TC 222 [.sc (.string ⟨#[]⟩),.sc (.int .u8 47)] (aL aW [[]]):=D6 [] 47 (by simp)
  have eD:TC 223 [.sc (.string ⟨#[]⟩)] (VB false):=oY [] (by simp)
  have e1:A2 (.string ⟨#[]⟩)=some (.int .i64 0):=rfl
  have a1:=at_one []
  have a2:=Tv []
  simp only[bU,bE,e1,eC,eD,a1,a2,Int.reduceLT,Int.reduceLE,aF,fD,Nat.reduceLeDiff,Nat.reduceLT,Nat.reduceSub,VX,Nat.reduceEqDiff,Nat.reduceAdd]
  exact bG (d:=6) fZ (aH (v:=VB false) rfl)
 have hp:0<l.length:=List.length_pos_iff.2 zX
 have lA:(0:Int)<(l.length:Int):=by omega
 have e0:=GQ l hp
 unfold CV
 unfold xD
 have lD:isNeg l=decide (((l.getD 0 0).toNat:Int)=45):=by
  unfold isNeg
  rw[decide_eq_true (show 1≤l.length from hp),Bool.true_and]
  refine decide_eq_decide.2 ⟨fun h=>by rw[h];rfl,fun h=>UInt8.toNat_inj.1 (by rw[show (45:UInt8).toNat=45 from rfl];omega)⟩
 have O3:(if isNeg l=true then l.drop 1 else l).length≤l.length:=by split<;>simp
 have q0:isNeg l=false→¬((l.getD 0 0).toNat:Int)=45:=fun h=>by rw[lD] at h;exact of_decide_eq_false h
 have q9:isNeg l=true→((l.getD 0 0).toNat:Int)=45:=fun h=>by rw[lD] at h;exact of_decide_eq_true h
 have r0:isNeg l=false→(if isNeg l=true then l.drop 1 else l)=l:=fun h=>by rw[h];rfl
 have r9:isNeg l=true→vA (aW l) (some (VI 1)) none=some (aW (if isNeg l=true then l.drop 1 else l)):=fun h=>by rw[h];exact Nx l (a:=1) hp
 generalize (if isNeg l=true then l.drop 1 else l)=r at *
 generalize isNeg l=neg at *
 clear lD
 have eC:TC 222 [aW r,.sc (.int .u8 47)] (aL aW (gZ 47 r)):=D6 r 47 (by omega)
 obtain⟨l1,l2⟩:=QG (c:=47) (l:=r)
 cases hs:(lS 47 r).2 with
 |
  none =>
  have hd:=(AR hs).2.1
  rw[Pr hs] at eC
  rw[hd]
  have a1:=at_one r
  have a2:=Tv r
  have eD:=oY r (by omega)
  cases hk:iD r with
  |
   false =>
   rw[hk] at eD
   have W2:nZ neg r none=none:=if_pos (.inl hk)
   rw[W2]
   cases neg with
   |
    false =>
    have q1:=q0 rfl
    have O3:=r0 rfl
    subst O3
    simp only[bU,bE,bF,lA,e0,q1,eC,eD,a1,a2,Int.reduceLT,aF,aU,aK,aQ,dM,fP,dK,fK,fD,Nat.reduceLeDiff,Nat.reduceLT,Nat.reduceSub,VX,Nat.reduceEqDiff,Nat.reduceAdd]
    exact bG (d:=6) fZ (aH (v:=VB false) rfl)
   |
    true =>
    have q1:=q9 rfl
    have e9:=r9 rfl
    simp only[bU,bE,bF,lA,e0,q1,eC,eD,a1,a2,Int.reduceLT,e9,aF,aU,aK,aQ,dM,fP,dK,fK,fD,Nat.reduceLeDiff,Nat.reduceLT,Nat.reduceSub,VX,Nat.reduceEqDiff,Nat.reduceAdd]
    exact bG (d:=6) fZ (aH (v:=VB false) rfl)
  |
   true =>
   rw[hk] at eD
   have hbt:=yJ hk
   have eN:=rG r (jS.1 hk).1 (by omega)
   by_cases hz:neg=true∧bP r=0
   ·have W2:nZ neg r none=none:=if_pos (.inr hz)
    rw[W2]
    obtain⟨rfl,Hf⟩:=hz
    have q1:=q9 rfl
    have e9:=r9 rfl
    have Hn:(((aC 1000000000 (bP r)).length:Nat):Int)=0:=DA.2 Hf
    simp only[bU,bE,bF,lA,e0,q1,eC,eD,a1,a2,eN,e9,cO,Hn,Int.reduceLT,aF,aU,aK,aQ,dM,fP,dK,fK,fD,Nat.reduceLeDiff,Nat.reduceLT,Nat.reduceSub,VX,Nat.reduceEqDiff,Nat.reduceAdd]
    exact bG (d:=6) fZ (aH (v:=VB false) rfl)
   ·have DQ:neg=true→¬(((aC 1000000000 (bP r)).length:Nat):Int)=0:=fun h h0=>hz ⟨h,DA.1 h0⟩
    have W2:nZ neg r none=some (mkRat (kG neg (bP r)) 1):=if_neg (by rw[hk];rintro(h | h);exact absurd h (by decide);exact hz h)
    rw[W2]
    simp only[]
    rw[KI (by decide) (Nat.gcd_one_right _) hz]
    cases neg with
    |
     false =>
     have q1:=q0 rfl
     have O3:=r0 rfl
     subst O3
     simp only[bU,bE,bF,lA,e0,q1,eC,eD,a1,a2,eN,Int.reduceLT,Int.reduceEq,aF,aU,aK,aQ,dM,fP,dK,fK,fD,Nat.reduceLeDiff,Nat.reduceLT,Nat.reduceSub,VX,Nat.reduceEqDiff,Nat.reduceAdd]
     exact bG (d:=6) (pZ (aH (v:=VB false) rfl) (aH (bZ _)) NZ) (aH (v:=VB true) rfl)
    |
     true =>
     have q1:=q9 rfl
     have e9:=r9 rfl
     have Hn:=DQ rfl
     simp only[bU,bE,bF,lA,e0,q1,eC,eD,a1,a2,eN,Int.reduceLT,Int.reduceEq,e9,cO,Hn,aF,aU,aK,aQ,dM,fP,dK,fK,fD,Nat.reduceLeDiff,Nat.reduceLT,Nat.reduceSub,VX,Nat.reduceEqDiff,Nat.reduceAdd]
     exact bG (d:=6) (pZ (aH (v:=VB true) rfl) (aH (bZ _)) NZ) (aH (v:=VB true) rfl)
 |
  some t =>
  have ltt:=l2 t hs
  rw[HT hs] at eC
  generalize (lS 47 r).1=d at *
  by_cases hm:(47:UInt8)∈t
  ·rw[Py hm]
   have hP:=QH hm
   generalize hPP:gZ 47 t=P at *
   have a2:∀H,pV (aL aW (d::P)) H=some (VI ((d::P).length:Int)):=fun H=>eK (f:=aW) (xs:=d::P)
   have hq3:(2:Int)<((d::P).length:Int):=by rw[List.length_cons];omega
   generalize hQQ:d::P=PP at *
   clear hQQ hPP hP
   cases neg with
   |
    false =>
    have q1:=q0 rfl
    have O3:=r0 rfl
    subst O3
    simp only[bU,bE,bF,lA,e0,q1,eC,a2,hq3,aF,aU,aK,aQ,dM,fP,dK,fK,fD,Nat.reduceLeDiff,Nat.reduceLT,Nat.reduceSub,VX,Nat.reduceEqDiff,Nat.reduceAdd]
    exact bG (d:=6) fZ (aH (v:=VB false) rfl)
   |
    true =>
    have q1:=q9 rfl
    have e9:=r9 rfl
    simp only[bU,bE,bF,lA,e0,q1,eC,a2,hq3,e9,aF,aU,aK,aQ,dM,fP,dK,fK,fD,Nat.reduceLeDiff,Nat.reduceLT,Nat.reduceSub,VX,Nat.reduceEqDiff,Nat.reduceAdd]
    exact bG (d:=6) fZ (aH (v:=VB false) rfl)
  ·rw[E1 hm] at eC
   have a1:=aaO d t
   have a3:=acS d t
   have a2:=acL d t
   have eD:=oY d (by omega)
   have eF:=oY t (by omega)
   cases hk:iD d with
   |
    false =>
    rw[hk] at eD
    have W2:nZ neg d (some t)=none:=if_pos (.inl hk)
    rw[W2]
    cases neg with
    |
     false =>
     have q1:=q0 rfl
     have O3:=r0 rfl
     subst O3
     simp only[bU,bE,bF,lA,e0,q1,eC,eD,a1,a2,Int.reduceLT,aF,aU,aK,aQ,dM,fP,dK,fK,fD,Nat.reduceLeDiff,Nat.reduceLT,Nat.reduceSub,VX,Nat.reduceEqDiff,Nat.reduceAdd]
     exact bG (d:=6) fZ (aH (v:=VB false) rfl)
    |
     true =>
     have q1:=q9 rfl
     have e9:=r9 rfl
     simp only[bU,bE,bF,lA,e0,q1,eC,eD,a1,a2,Int.reduceLT,e9,aF,aU,aK,aQ,dM,fP,dK,fK,fD,Nat.reduceLeDiff,Nat.reduceLT,Nat.reduceSub,VX,Nat.reduceEqDiff,Nat.reduceAdd]
     exact bG (d:=6) fZ (aH (v:=VB false) rfl)
   |
    true =>
    rw[hk] at eD
    have hbt:=yJ hk
    have eN:=rG d (jS.1 hk).1 (by omega)
    by_cases hz:neg=true∧bP d=0
    ·have W2:nZ neg d (some t)=none:=if_pos (.inr hz)
     rw[W2]
     obtain⟨rfl,Hf⟩:=hz
     have q1:=q9 rfl
     have e9:=r9 rfl
     have Hn:(((aC 1000000000 (bP d)).length:Nat):Int)=0:=DA.2 Hf
     simp only[bU,bE,bF,lA,e0,q1,eC,eD,a1,a2,eN,e9,cO,Hn,Int.reduceLT,aF,aU,aK,aQ,dM,fP,dK,fK,fD,Nat.reduceLeDiff,Nat.reduceLT,Nat.reduceSub,VX,Nat.reduceEqDiff,Nat.reduceAdd]
     exact bG (d:=6) fZ (aH (v:=VB false) rfl)
    ·have DQ:neg=true→¬(((aC 1000000000 (bP d)).length:Nat):Int)=0:=fun h h0=>hz ⟨h,DA.1 h0⟩
     have W2:nZ neg d (some t)=if iD t=true∧1<bP t∧Nat.gcd (bP d) (bP t)=1 then some (mkRat (kG neg (bP d)) (bP t)) else none:=if_neg (by rw[hk];rintro(h | h);exact absurd h (by decide);exact hz h)
     rw[W2]
     clear W2
     cases ht:iD t with
     |
      false =>
      rw[ht] at eF
      rw[if_neg (fun h=>absurd h.1 (by decide))]
      cases neg with
      |
       false =>
       have q1:=q0 rfl
       have O3:=r0 rfl
       subst O3
       simp only[bU,bE,bF,lA,e0,q1,eC,eD,eF,a1,a2,a3,eN,Int.reduceLT,Int.reduceEq,aF,aU,aK,aQ,dM,fP,dK,fK,fD,Nat.reduceLeDiff,Nat.reduceLT,Nat.reduceSub,VX,Nat.reduceEqDiff,Nat.reduceAdd]
       exact bG (d:=6) fZ (aH (v:=VB false) rfl)
      |
       true =>
       have q1:=q9 rfl
       have e9:=r9 rfl
       have Hn:=DQ rfl
       simp only[bU,bE,bF,lA,e0,q1,eC,eD,eF,a1,a2,a3,eN,Int.reduceLT,Int.reduceEq,e9,cO,Hn,aF,aU,aK,aQ,dM,fP,dK,fK,fD,Nat.reduceLeDiff,Nat.reduceLT,Nat.reduceSub,VX,Nat.reduceEqDiff,Nat.reduceAdd]
       exact bG (d:=6) fZ (aH (v:=VB false) rfl)
     |
      true =>
      rw[ht] at eF
      have JE:=yJ ht
      have eM:=rG t (jS.1 ht).1 (by omega)
      have c2:∀lo H K,_:=fun lo H K=>Je (n:=bP t) (lo:=lo) (H:=H) (K:=K) (Nat.le_of_lt (oI (by omega)))
      have c3:=Ei (bP d) (bP t) (oI (by omega)) (oI (by omega))
      by_cases h1:fC (bP t) 1≤0
      ·have hle:¬1<bP t:=fun h=>by unfold fC at h1;rw[if_neg (by omega),if_neg (by omega)] at h1;exact absurd h1 (by decide)
       rw[if_neg (fun h=>hle h.2.1)]
       cases neg with
       |
        false =>
        have q1:=q0 rfl
        have O3:=r0 rfl
        subst O3
        simp only[bU,bE,bF,lA,e0,q1,eC,eD,eF,a1,a2,a3,eN,eM,c2,h1,Int.reduceLT,Int.reduceEq,aF,aU,aK,aQ,dM,fP,dK,fK,fD,Nat.reduceLeDiff,Nat.reduceLT,Nat.reduceSub,VX,Nat.reduceEqDiff,Nat.reduceAdd]
        exact bG (d:=6) fZ (aH (v:=VB false) rfl)
       |
        true =>
        have q1:=q9 rfl
        have e9:=r9 rfl
        have Hn:=DQ rfl
        simp only[bU,bE,bF,lA,e0,q1,eC,eD,eF,a1,a2,a3,eN,eM,c2,h1,Int.reduceLT,Int.reduceEq,e9,cO,Hn,aF,aU,aK,aQ,dM,fP,dK,fK,fD,Nat.reduceLeDiff,Nat.reduceLT,Nat.reduceSub,VX,Nat.reduceEqDiff,Nat.reduceAdd]
        exact bG (d:=6) fZ (aH (v:=VB false) rfl)
      ·have bD:1<bP t:=by
        rcases Nat.lt_or_ge 1 (bP t) with h | h
        ·exact h
        ·exfalso
         apply h1
         unfold fC
         split<;>(try split)<;>first | decide | omega
       have YQ:bl (Nat.gcd (bP d) (bP t))≤665:=Nat.le_trans (kV (Nat.le_of_dvd (by omega) (Nat.gcd_dvd_right _ _))) JE
       have c4:∀lo H K,_:=fun lo H K=>Je (n:=Nat.gcd (bP d) (bP t)) (lo:=lo) (H:=H) (K:=K) (Nat.le_of_lt (oI (by omega)))
       by_cases hg:Nat.gcd (bP d) (bP t)=1
       ·have h4:fC (Nat.gcd (bP d) (bP t)) 1=0:=by rw[hg];rfl
        rw[if_pos ⟨rfl,bD,hg⟩]
        simp only[]
        rw[KI (by omega) hg hz]
        cases neg with
        |
         false =>
         have q1:=q0 rfl
         have O3:=r0 rfl
         subst O3
         simp only[bU,bE,bF,lA,e0,q1,eC,eD,eF,a1,a2,a3,eN,eM,c2,c3,c4,h1,h4,Int.reduceLT,Int.reduceEq,aF,aU,aK,aQ,dM,fP,dK,fK,fD,Nat.reduceLeDiff,Nat.reduceLT,Nat.reduceSub,VX,Nat.reduceEqDiff,Nat.reduceAdd]
         exact bG (d:=6) (pZ (aH (v:=VB false) rfl) (aH (bZ _)) (aH (bZ _))) (aH (v:=VB true) rfl)
        |
         true =>
         have q1:=q9 rfl
         have e9:=r9 rfl
         have Hn:=DQ rfl
         simp only[bU,bE,bF,lA,e0,q1,eC,eD,eF,a1,a2,a3,eN,eM,c2,c3,c4,h1,h4,Int.reduceLT,Int.reduceEq,e9,cO,Hn,aF,aU,aK,aQ,dM,fP,dK,fK,fD,Nat.reduceLeDiff,Nat.reduceLT,Nat.reduceSub,VX,Nat.reduceEqDiff,Nat.reduceAdd]
         exact bG (d:=6) (pZ (aH (v:=VB true) rfl) (aH (bZ _)) (aH (bZ _))) (aH (v:=VB true) rfl)
       ·have h4:¬fC (Nat.gcd (bP d) (bP t)) 1=0:=by
         unfold fC
         split<;>(try split)<;>first | decide | omega
        rw[if_neg (fun h=>hg h.2.2)]
        cases neg with
        |
         false =>
         have q1:=q0 rfl
         have O3:=r0 rfl
         subst O3
         simp only[bU,bE,bF,lA,e0,q1,eC,eD,eF,a1,a2,a3,eN,eM,c2,c3,c4,h1,h4,Int.reduceLT,Int.reduceEq,aF,aU,aK,aQ,dM,fP,dK,fK,fD,Nat.reduceLeDiff,Nat.reduceLT,Nat.reduceSub,VX,Nat.reduceEqDiff,Nat.reduceAdd]
         exact bG (d:=6) fZ (aH (v:=VB false) rfl)
        |
         true =>
         have q1:=q9 rfl
         have e9:=r9 rfl
         have Hn:=DQ rfl
         simp only[bU,bE,bF,lA,e0,q1,eC,eD,eF,a1,a2,a3,eN,eM,c2,c3,c4,h1,h4,Int.reduceLT,Int.reduceEq,e9,cO,Hn,aF,aU,aK,aQ,dM,fP,dK,fK,fD,Nat.reduceLeDiff,Nat.reduceLT,Nat.reduceSub,VX,Nat.reduceEqDiff,Nat.reduceAdd]
         exact bG (d:=6) fZ (aH (v:=VB false) rfl)
end Go.PM
namespace Go.PM
open Go.Lib
end Go.PM
namespace Go.PM
open Go.Lib
theorem Qn {l:List UInt8} {q:Rat} (h:xD l=some q):CV l = .dL [bX q,VB true]:=by unfold CV;rw[h]
theorem Pn {l:List UInt8} (h:xD l=none):CV l = .dL [Lp,VB false]:=by unfold CV;rw[h]
end Go.PM
namespace Go.PM
open Go.Lib
def Ql (o:Option (List Rat)):VV:=match o with
 | some qs => .dL [aL bX qs,VB true]
 | none => .dL [aL bX [],VB false]
theorem EA:Ql none = .dL [aL bX [],VB false]:=rfl
theorem Ez (qs:List Rat):Ql (some qs) = .dL [aL bX qs,VB true]:=rfl
theorem GX (q:Rat):(aB (bX q)).length=3:=rfl
theorem Bs (qs:List Rat):aM (aL bX qs)=true:=gW GX yW
theorem Vw (q:Rat):yH (bX q)=true:=by simp[yH,bX,bQ,iE]
theorem GU (qs:List Rat):eQ (aL bX qs)=true:=xF GX Nw Vw
theorem WJ (o:Option (List Rat)):eQ (Ql o)=true:=by
 unfold Ql
 split
 ·exact uP (GU _) rfl
 ·exact uP (GU []) rfl
set_option maxHeartbeats 1000000 in
theorem Dd (xs:List ByteArray) (hn:xs.length≤1000000000) (hs:∀s∈xs,s.size≤1000000000):TC 115 [dI xs] (Ql (zT xs)):=by
 refine TC.walk ⟨true,false⟩ Kl rfl (Nat.le_of_ble_eq_true rfl) (by simp[aJ,dG]) (WJ _) ?_
 unfold zT
 by_cases Sj:(300:Int)<(xs.length:Int)
 ·rw[if_neg (by omega)]
  simp only[Bj,xQ,Sj,VX,Nat.reduceEqDiff,Nat.reduceAdd]
  exact xL
 rw[if_pos (by omega)]
 have e0:=fun H=>oH (H:=H) (lr:=false) (z:=[.bool false,.slice none 0 0,.slice none 0 0]) rfl
 simp only[Bj,xQ,Sj,e0,VX,Nat.reduceEqDiff,Nat.reduceAdd]
 refine KO (fun(s:Nat×List Rat) ρ H=>s.1≤xs.length∧(xs.take s.1).mapM pQ=some s.2∧H=[.row s.1 (s.2.map bX) 3 true]∧ρ 4 = .ref 0 s.1 0 s.1 s.1∧ρ 0=dI xs∧ρ 13=VI xs.length∧ρ 14=VI s.1) (fun s=>xs.length-s.1) (0,[]) ⟨Nat.zero_le _,rfl,rfl,rfl,rfl,rfl,rfl⟩ ?_
 rintro⟨i,out⟩ ρ H ⟨hi,wI,rfl,g4,g13,g14,g15⟩
 simp only at hi wI g4 g15
 have iK:out.length=i:=by rw[pL wI,List.length_take];omega
 by_cases cQ:(i:Int)<(xs.length:Int)
 ·obtain⟨x,hx⟩:∃x,xs[i]? = some x:=⟨_,List.getElem?_eq_getElem (by omega)⟩
  have hxm:=List.mem_of_getElem? hx
  have e1:=fun H=>aI (f:=sV) (t := .op) (H:=H) (size:=1) (k := .i64) hx rfl
  have wi:IntKind.i64.wrap ((i:Int)+1)=((i+1:Nat):Int):=wrapN (i+1) (by omega) (by omega)
  have e2:=I1 x.data.toList (by have:=hs x hxm;rw[Array.length_toList];show x.size≤_;omega)
  rw[←YA] at e2
  cases hp:pQ x with
  |
   none =>
   rw[Pn hp] at e2
   rw[mapM_none hp hxm]
   simp only[pX,g4,g13,g14,g15,cQ,e1,e2,Iy,Jy,P8,aS,aT,aN,fD,Nat.reduceLeDiff,Nat.reduceLT,Nat.reduceSub,dU,aR,aX,cC,dJ,gR,bne_iff_ne,ne_eq,not_false_eq_true,not_true_eq_false,VX,Nat.reduceEqDiff,Nat.reduceAdd]
   exact xL
  |
   some q =>
   rw[Qn hp] at e2
   have eL:∀H,pT false [.bool false,.slice none 0 0,.slice none 0 0] 1 [(0,bX q)] H=some (.tree [bX q] (.cl 3),H):=fun H=>pN rfl rfl rfl
   have eS:∀H,eW 3 (.tree [bX q] (.cl 3)) H=some [bX q]:=fun H=>lY rfl rfl
   have eP:fE 0 3 56 (.ref 0 i 0 i i) [bX q] [.row i (out.map bX) 3 true,.row 0 [bX q] 3 true]=some (.ref 0 (i+1) 0 (i+1) (i+1),[.row (i+1) ((out++[q]).map bX) 3 true,.row 0 [bX q] 3 true]):=by
    rw[lT (f:=bX) (xs:=out) (by rw[bK]) iK.symm (Nat.le_refl _) (by decide) (by decide) (by omega),List.set_cons_zero]
   simp only[pX,g4,g13,g14,g15,cQ,e1,e2,eL,eS,eP,wi,bO,dB,gO,aK,aU,aQ,fD,Nat.reduceLeDiff,Nat.reduceLT,Nat.reduceSub,dU,aR,aX,cC,dJ,gR,bne_iff_ne,ne_eq,not_false_eq_true,not_true_eq_false,VX,Nat.reduceEqDiff,Nat.reduceAdd]
   refine⟨(i+1,out++[q]),by simp only;omega,?_,by simp only;omega,by simp only[wM hx];exact AO wI hp,rfl,?_⟩
   ·rw[Aw (mA _ (eO yW)),Dm]
   ·simp only[eU,g13,g14,oC (dG _),A1 (Nat.lt_succ_self 0),VX,Nat.reduceEqDiff,Nat.reduceAdd,List.take_zero,iW,List.all_nil,List.length_nil,eU,Fi,oC]
 ·have qR:i=xs.length:=by omega
  subst qR
  rw[List.take_length] at wI
  rw[wI]
  simp only[pX,g4,g13,g14,g15,cQ,VX,Nat.reduceEqDiff,Nat.reduceAdd]
  refine bG (d:=6) ?_ (aH (v:=VB true) rfl)
  have:=FR (d:=5) (w:=true) (f:=bX) (e:=3) (b:=0) (g:=xs.length) (c:=xs.length) (xs:=out) (H:=[.row xs.length (out.map bX) 3 true]) yW (by rw[bK]) (by omega)
  rw[iK] at this
  exact this
set_option maxHeartbeats 1000000 in
theorem WC {lo:Nat} {H:aA} {q:Rat} (h:lo≤H.length):cR lo 3 (.ptr H.length 0 0 0) (bX q) (H++[cell0])=some (H++[.row 0 [bX q] 3 true]):=by
 rw[gA (g:=0) (e:=3) (j:=0) A8 (by exact Nat.zero_lt_one) h rfl rfl,J2]
 rfl
theorem IQ {lo:Nat} {H:aA} {v:VV} (qs:List Rat) {B:Nat} (hv:Rd bX 3 qs H v) (iC:lo≤H.length) (hb:∀q∈qs,cW q≤B) (hk:qs.length*(B+1)+1≤1099511627776) (hB:B≤1099511627776) (hn:qs.length≤1000000000) :
  oO 142 [v] lo H (Yd (fun _ _ _ r=>r=bX (uS qs)) H):=by
 refine oO.walk ⟨true,false⟩ IH (Nat.le_of_ble_eq_true rfl) ?_
 have e1:=C2
 have e2:=hv.len (H++[cell0,.row 0 [bX 0] 3 true]) (List.prefix_append _ _)
 have s0:cR lo 3 (.ptr (H.length+1) 0 0 0) (bX 0) (H++[cell0,cell0])=some (H++[cell0,.row 0 [bX 0] 3 true]):=by
  have:=WC (lo:=lo) (H:=H++[cell0]) (q:=0) (by rw[List.length_append];omega)
  simpa only[List.length_append,List.length_cons,List.length_nil,Nat.zero_add,List.append_assoc,List.cons_append,List.nil_append] using this
 simp only[Em,B0,e1,e2,s0,List.length_append,List.length_cons,List.length_nil,List.append_assoc,List.cons_append,List.nil_append,VEX,VX,Nat.reduceEqDiff,Nat.reduceAdd,Nat.reduceLeDiff,Nat.reduceLT,Nat.reduceSub]
 refine bC (fun(i:Nat) ρ H1=>i≤qs.length∧H <+: H1∧aP H1 H.length 0=some ([rz],3,true)∧aP H1 (H.length+1) 0=some ([bX (uS (qs.take i))],3,true)∧ρ 2 = .ptr H.length 0 0 0∧ρ 3 = .ptr (H.length+1) 0 0 0∧ρ 0=v∧ρ 7=VI qs.length∧ρ 8=VI i) (fun i=>qs.length-i) 0 ⟨Nat.zero_le _,List.prefix_append _ _,Jp.trans bK,N0.trans (qZ.trans bK),rfl,rfl,rfl,rfl,rfl⟩ ?_
 rintro i ρ H1 ⟨hi,hp,OW,OV,g2,g3,g0,g7,g8⟩
 have Dg:=F7 OV
 have s3:dN true 3 (.ptr (H.length+1) 0 0 0) H1=some (bX (uS (qs.take i))):=by
  rw[jB,OV]
  exact gO _
 by_cases cQ:(i:Int)<(qs.length:Int)
 ·obtain⟨q,hq⟩:∃q,qs[i]? = some q:=⟨_,List.getElem?_eq_getElem (by omega)⟩
  obtain⟨p,a1,a2⟩:=hv.get H1 hp i q hq
  have a2':=(a2 true).trans (gO _)
  have wi:IntKind.i64.wrap ((i:Int)+1)=((i+1:Nat):Int):=wrapN (i+1) (by omega) (by omega)
  have h1:=Bl hb i
  have h2:=hb q (List.mem_of_getElem? hq)
  have h3:(i+1)*(B+1)≤qs.length*(B+1):=Nat.mul_le_mul_right _ (by omega)
  have e3:=Ed (uS (qs.take i)) q (by omega) (by omega)
  rw[←Mw hq] at e3
  have s4:=gA (lo:=lo) (v:=bX (uS (qs.take (i+1)))) (j:=0) OV (by exact Nat.zero_lt_one) (by omega) rfl rfl
  rw[List.set_cons_zero] at s4
  simp only[tA,g2,g3,g0,g7,g8,cQ,a1,a2',e3,s3,s4,wi,VEX,VX,Nat.reduceEqDiff,Nat.reduceAdd,Nat.reduceLeDiff,Nat.reduceLT,Nat.reduceSub]
  exact⟨i+1,by omega,by omega,F8 hp (by omega),dQ (by omega) OW,kM OV,by (repeat' apply And.intro)<;>first | rfl | trivial | assumption⟩
 ·have qR:i=qs.length:=by omega
  subst qR
  rw[List.take_length] at s3
  have s4:=gA (lo:=lo) (v:=bX (uS qs)) (j:=0) OW (by exact Nat.zero_lt_one) iC rfl rfl
  rw[List.set_cons_zero] at s4
  have s5:dN true 3 (.ptr H.length 0 0 0) (H1.set H.length (.row 0 [bX (uS qs)] 3 true))=some (bX (uS qs)):=by
   rw[jB,kM OW]
   exact gO _
  simp only[tA,g2,g3,g7,g8,cQ,s3,s4,s5,VEX,VX,Nat.reduceEqDiff,Nat.reduceAdd,Nat.reduceLeDiff,Nat.reduceLT,Nat.reduceSub]
  exact⟨F8 hp (Nat.le_refl _),rfl⟩
theorem Tx {q:Rat}:q.num<0↔q<0:=by rw[←Int.not_le,Rat.num_nonneg];constructor<;>intro h<;>grind
theorem Ev (qs:List Rat) (hn:qs.length≤1000000000):TC 140 [aL bX qs] (VB (!(qs.any fun q=>decide (q<0)))):=by
 refine TC.walk ⟨true,false⟩ E2 rfl (Nat.le_of_ble_eq_true rfl) (by simp[aJ,Bs]) rfl ?_
 simp only[Bb,yL,VX,Nat.reduceEqDiff,Nat.reduceAdd]
 refine bC (fun(i:Nat) ρ H=>i≤qs.length∧H=[]∧(∀j x,j<i→qs[j]? = some x→¬x<0)∧ρ 0=aL bX qs∧ρ 5=VI qs.length∧ρ 6=VI i) (fun i=>qs.length-i) 0 ⟨Nat.zero_le _,rfl,fun j x h=>by omega,rfl,rfl,rfl⟩ ?_
 rintro i ρ H ⟨hi,rfl,lP,g0,g5,g6⟩
 by_cases cQ:(i:Int)<(qs.length:Int)
 ·obtain⟨q,hq⟩:∃q,qs[i]? = some q:=⟨_,List.getElem?_eq_getElem (by omega)⟩
  have e2:=fun H=>aI (f:=bX) (t := .op) (H:=H) (size:=3) (k := .i64) hq rfl
  have wi:IntKind.i64.wrap ((i:Int)+1)=((i+1:Nat):Int):=wrapN (i+1) (by omega) (by omega)
  by_cases lD:q.num<0
  ·have I6:qs.any (fun q=>decide (q<0))=true:=List.any_eq_true.2 ⟨q,List.mem_of_getElem? hq,decide_eq_true (Tx.1 lD)⟩
   rw[I6]
   simp only[lG,g0,g5,g6,cQ,e2,lD,lR,bO,dB,gO,aK,aU,aQ,fD,Nat.reduceLeDiff,Nat.reduceLT,Nat.reduceSub,dU,aR,aX,cC,dJ,gR,bne_iff_ne,ne_eq,not_false_eq_true,not_true_eq_false,VX,Nat.reduceEqDiff,Nat.reduceAdd]
   exact aG rfl
  ·simp only[lG,g0,g5,g6,cQ,e2,lD,wi,lR,bO,dB,gO,aK,aU,aQ,fD,Nat.reduceLeDiff,Nat.reduceLT,Nat.reduceSub,dU,aR,aX,cC,dJ,gR,bne_iff_ne,ne_eq,not_false_eq_true,not_true_eq_false,VX,Nat.reduceEqDiff,Nat.reduceAdd]
   refine⟨i+1,by omega,by omega,fun j y hj hy => ?_,rfl⟩
   rcases Nat.lt_or_ge j i with Km | Km
   ·exact lP j y Km hy
   ·have:j=i:=by omega
    subst this
    rw[hq] at hy
    cases hy
    exact mt Tx.2 lD
 ·have qR:i=qs.length:=by omega
  subst qR
  have I6:qs.any (fun q=>decide (q<0))=false:=by
   rw[List.any_eq_false]
   intro x hx
   obtain⟨j,hj⟩:=List.getElem?_of_mem hx
   simpa using lP j x (List.getElem?_eq_some_iff.1 hj).1 hj
  rw[I6]
  simp only[lG,g0,g5,g6,cQ,VX,Nat.reduceEqDiff,Nat.reduceAdd]
  exact aG rfl
theorem St {a b:Rat}:a=b↔(decide (a.num<0)=decide (b.num<0)∧a.num.natAbs*b.den=b.num.natAbs*a.den):=by
 constructor
 ·rintro rfl
  exact⟨rfl,rfl⟩
 ·rintro⟨h1,h2⟩
  have h3:a.num<0↔b.num<0:=by simpa using h1
  have ha:=a.den_nz
  have hb:=b.den_nz
  have key:a.num*b.den=b.num*a.den→a=b:=fun h=>by
   have:=(Rat.mkRat_eq_iff (n₁:=a.num) (n₂:=b.num) ha hb).2 h
   rwa [Rat.mkRat_self,Rat.mkRat_self] at this
  refine key ?_
  have e1:(a.num.natAbs:Int)*b.den=b.num.natAbs*a.den:=by exact_mod_cast h2
  by_cases hn:a.num<0
  ·have hn2:=h3.1 hn
   have q1:a.num = -(a.num.natAbs:Int):=by omega
   have q2:b.num = -(b.num.natAbs:Int):=by omega
   rw[q1,q2,Int.neg_mul,Int.neg_mul,e1]
  ·have hn2:=mt h3.2 hn
   have q1:a.num=(a.num.natAbs:Int):=by omega
   have q2:b.num=(b.num.natAbs:Int):=by omega
   rw[q1,q2,e1]
set_option maxHeartbeats 1000000 in
theorem IP (a b:Rat) (Rh:cW a≤1099511627776) (Mb:cW b≤1099511627776):TC 197 [bX a,bX b] (VB (decide (a=b))):=by
 refine TC.walk ⟨true,false⟩ IG rfl (Nat.le_of_ble_eq_true rfl) (by simp only[aJ,yW];rfl) rfl ?_
 have b1 := @tK a
 have b2 := @tK b
 have b3 := @qW a
 have b4 := @qW b
 have b5:=nH a.num.natAbs b.den
 have b6:=nH b.num.natAbs a.den
 have c1:=gU a.num.natAbs b.den (Nat.le_of_lt (oI (by omega))) (Nat.le_of_lt (oI (by omega)))
 have c2:=gU b.num.natAbs a.den (Nat.le_of_lt (oI (by omega))) (Nat.le_of_lt (oI (by omega)))
 have c3:=uA (a.num.natAbs*b.den) (b.num.natAbs*a.den) (Nat.le_of_lt (oI (by omega))) (Nat.le_of_lt (oI (by omega)))
 by_cases q1:decide (a.num<0)=decide (b.num<0)
 ·have q2:(decide (a.num<0) == decide (b.num<0))=true:=by simpa using q1
  have hz := @wU (a.num.natAbs*b.den) (b.num.natAbs*a.den)
  by_cases q3:fC (a.num.natAbs*b.den) (b.num.natAbs*a.den)=0
  ·rw[decide_eq_true (St.2 ⟨q1,hz.1 q3⟩)]
   simp only[uD,qH,c1,c2,c3,q2,q3,sZ,bO,lR,oG,oD,aK,fD,Nat.reduceLeDiff,Nat.reduceLT,Nat.reduceSub,dU,aR,aX,cC,dJ,gR,bne_iff_ne,ne_eq,not_false_eq_true,not_true_eq_false,VX,Nat.reduceEqDiff,Nat.reduceAdd]
   exact aG rfl
  ·rw[decide_eq_false (fun h=>q3 (hz.2 (St.1 h).2))]
   simp only[uD,qH,c1,c2,c3,q2,q3,sZ,bO,lR,oG,oD,aK,fD,Nat.reduceLeDiff,Nat.reduceLT,Nat.reduceSub,dU,aR,aX,cC,dJ,gR,bne_iff_ne,ne_eq,not_false_eq_true,not_true_eq_false,VX,Nat.reduceEqDiff,Nat.reduceAdd]
   exact aG rfl
 ·have q2:(decide (a.num<0) == decide (b.num<0))=false:=by simpa using q1
  rw[decide_eq_false (fun h=>q1 (St.1 h).1)]
  simp only[uD,qH,q2,sZ,bO,lR,oG,oD,aK,fD,Nat.reduceLeDiff,Nat.reduceLT,Nat.reduceSub,dU,aR,aX,cC,dJ,gR,bne_iff_ne,ne_eq,not_false_eq_true,not_true_eq_false,VX,Nat.reduceEqDiff,Nat.reduceAdd]
  exact aG rfl
theorem Ab (qs:List Rat) (hb:∀q∈qs,cW q≤665) (hl:qs.length≤300):TC 116 [aL bX qs] (VB (hC qs)):=by
 refine TC.walk ⟨true,false⟩ Fc rfl (Nat.le_of_ble_eq_true rfl) (by simp[aJ,Bs]) rfl ?_
 have e1:=Ev qs (by omega)
 have e2:=fun(K:aA)=>IQ (lo:=0) (H:=K) (v:=aL bX qs) qs (Rd.tree GX) (Nat.zero_le _) hb (J1 hl) (by omega) (by omega)
 have W6:=Bl hb qs.length
 rw[List.take_length] at W6
 have e3:=Lw
 have hsr:=J1 hl
 have e4:=IP (uS qs) 1 (by omega) (by rw[MS];omega)
 unfold hC
 cases I6:qs.any (fun q=>decide (q<0)) with
 |
  true =>
  rw[I6] at e1
  simp only[Bool.not_true,Bool.false_and] at e1 ⊢
  simp only[vD,sI,e1,VX,Nat.reduceEqDiff,Nat.reduceAdd]
  exact aG rfl
 |
  false =>
  rw[I6] at e1
  simp only[Bool.not_false,Bool.true_and] at e1 ⊢
  simp only[vD,sI,e1,VX,Nat.reduceEqDiff,Nat.reduceAdd]
  refine Et rfl (e2 _) fun r L hr => ?_
  subst hr
  simp only[e3,e4,VX,Nat.reduceEqDiff,Nat.reduceAdd]
  exact aG rfl
end Go.PM
namespace Go.PM
def dY:aD:=(LS [LO 2 (.box (LT 0)),LO 4 (.mv (.const (.slice none 0 0))),LO 5 (.mv (.const (.slice none 0 0))),LO 6 (.mv LF)] (LS [LO 12 (.load true 1 (LT 2)),LO 13 (.call 113 [(LT 12)]),LM 11 13,LO 14 (LX 11 0),LO 15 (LX 11 1),LM 7 14,LM 8 15] (LS [LM 17 1,LO 18 (.call 114 [(LT 17)]),LM 16 18,LO 19 (LX 16 0),LO 20 (LX 16 1),LM 9 19,LM 10 20] (LS [LM 21 7,LM 22 9,LM 23 8,LM 24 23,LY 24 25 (.mv (LT 10)),LO 26 (.pick (LT 24) (LT 25) LF),LM 27 26,LY 27 28 (.mv (LT 9)),LY 27 29 (.len (LT 28)),LY 27 30 (.mv (LT 7)),LY 27 31 (.len (LT 30)),LY 27 32 (.bin .eql (LT 29) (LT 31)),LO 33 (.pick (LT 27) (LT 32) LF),LM 4 21,LM 5 22,LM 6 33] .ret))))
def fN:aV:=⟨34,[(.tmp 4),(.tmp 5),(.tmp 6)],dY⟩
theorem Bp:gT 110=some fN:=by kernel_rfl
def Cq:aD:=(LS [LO 4 (.mv LF)] (LS [LM 5 1,LM 6 0,LO 7 (.len (LT 6)),LO 8 (.bin .sub (LT 7) (LI 1)),LO 9 (.call 95 [(LT 5),(LI 0),(LT 8)]),LM 4 9] .ret))
def Gq:aV:=⟨10,[(.tmp 4)],Cq⟩
theorem J3:gT 139=some Gq:=by kernel_rfl
def mX:aD:=(LS [LO 24 (.bin .lss (LT 23) (LT 22))] (.seq (.cond (LT 24) .skip (.exit 0)) (.seq (.block 1 (LS [LO 25 (.iaddr 1 (LT 21) (LT 23)),LO 26 (LL 25),LM 6 26] (LS [LM 28 6,LO 29 (.call 114 [(LT 28)]),LM 27 29,LO 30 (LX 27 0),LO 31 (LX 27 1),LM 7 30,LM 8 31] (.seq (LS [LM 32 8,LO 33 (.un .not (LT 32)),LM 34 33,LZ 34 35 (.mv (LT 7)),LZ 34 36 (.len (LT 35)),LZ 34 37 (LA 0 1),LZ 34 38 (LL 37),LZ 34 39 (.len (LT 38)),LZ 34 40 (.bin .neq (LT 36) (LT 39)),LO 41 (.pick (LT 34) LG (LT 40))] (.cond (LT 41) (LS [LO 2 (.mv (.const (.slice none 0 0))),LO 3 (.mv LF)] .ret) .skip)) (.dT [LM 42 4,LM 43 7,LO 44 (.lit [(.slice none 0 0)] 1 [(0,(LT 43))]),LO 45 (.app 1 24 (LT 42) (LT 44)),LM 4 45]))))) (.dT [LO 46 (.bin .add (LT 23) (LI 1)),LM 23 46]))))
def rC:aD:=(LS [LO 1 (.box (LT 0)),LO 2 (.mv (.const (.slice none 0 0))),LO 3 (.mv LF)] (.seq (LS [LO 9 (LA 0 1),LO 10 (LL 9),LO 11 (.len (LT 10)),LO 12 (.bin .lss (LT 11) (LI 1)),LM 13 12,LZ 13 14 (LA 0 1),LZ 13 15 (LL 14),LZ 13 16 (.len (LT 15)),LZ 13 17 (.bin .gtr (LT 16) (LI 12)),LO 18 (.pick (LT 13) LG (LT 17))] (.cond (LT 18) (LS [LO 2 (.mv (.const (.slice none 0 0))),LO 3 (.mv LF)] .ret) .skip)) (LS [LO 19 (.lit [(.slice none 0 0)] 0 []),LM 4 19] (.seq (LS [LO 20 (LA 0 1),LO 21 (LL 20),LO 22 (.len (LT 21)),LO 23 (.mv (LI 0))] (.block 0 (.loop mX))) (LS [LM 47 4,LM 2 47,LO 3 (.mv LG)] .ret)))))
def wF:aV:=⟨48,[(.tmp 2),(.tmp 3)],rC⟩
theorem JR:gT 113=some wF:=by kernel_rfl
end Go.PM
namespace Go.PM
open Go.Lib
abbrev uE (c:List (List ByteArray)):VV:=aL dI c
abbrev sQ (x:VV):VV := .agg [x]
theorem qS {x:VV}:dA true 1 (sQ x) 0=some (sQ x):=rfl
theorem jM {x:VV}:dA false 1 (sQ x) 0=some x:=rfl
theorem S4 (x:List ByteArray):(aB (dI x)).length=1:=rfl
theorem rP (c:List (List ByteArray)):aM (uE c)=true:=gW S4 dG
def Af (n:Nat) (r:List ByteArray):Option (List Rat):=match fB r with
 | some w=>if w.length=n then some w else none
 | none=>none
def vO (c:List (List ByteArray)):Option (List (List Rat)):=if 1≤c.length∧c.length≤12 then c.mapM (Af c.length) else none
def Xv (o:Option (List (List Rat))):VV:=match o with
 | some m => .dL [aL (aL bR) m,VB true]
 | none => .dL [.tree [] .op,VB false]
theorem NB (x:List Rat):(aB (aL bR x)).length=1:=rfl
theorem A3 (m:List (List Rat)):aM (aL (aL bR) m)=true:=gW NB kZ
theorem On (m:List (List Rat)):eQ (aL (aL bR) m)=true:=xF NB Dy fun _=>rfl
theorem XM (o:Option (List (List Rat))):eQ (Xv o)=true:=by
 unfold Xv
 split
 ·exact uP (On _) rfl
 ·exact uP (On []) rfl
theorem Nl {n:Nat} {r:List ByteArray} {w:List Rat} (h:Af n r=some w):fB r=some w∧w.length=n:=by
 unfold Af at h
 split at h
 ·rename_i ps hp
  split at h
  ·rename_i hw
   cases h
   exact⟨hp,hw⟩
  ·cases h
 ·cases h
theorem KD {c:List (List ByteArray)} {m:List (List Rat)} (h:vO c=some m):(1≤m.length∧m.length≤12)∧m.length=c.length∧∀w∈m,w.length=m.length∧∀q∈w,cW q≤665:=by
 unfold vO at h
 split at h
 ·rename_i hl
  have hlen:=pL h
  refine⟨by omega,hlen,fun w hw => ?_⟩
  have:=mapM_mem (P:=fun w=>w.length=c.length∧∀q∈w,cW q≤665) (fun r w hr=>⟨(Nl hr).2,(tD (Al (Nl hr).1).1).1⟩) h w hw
  rw[hlen]
  exact this
 ·cases h
set_option maxHeartbeats 1000000 in
theorem Ku (c:List (List ByteArray)) (hn:c.length≤1000000000) (hs:∀r∈c,r.length≤1000000000∧∀s∈r,s.size≤1000000000):TC 113 [sQ (uE c)] (Xv (vO c)):=by
 refine TC.walk ⟨true,false⟩ JR rfl (Nat.le_of_ble_eq_true rfl) (Tg (uW (rP _))) (XM _) ?_
 unfold vO
 by_cases h1:(c.length:Int)<1
 ·rw[if_neg (by omega)]
  simp only[wF,rC,h1,jM,fD,Nat.reduceLeDiff,Nat.reduceLT,Nat.reduceSub,dU,aR,aX,cC,dJ,gR,bne_iff_ne,ne_eq,not_false_eq_true,not_true_eq_false,VX,Nat.reduceEqDiff,Nat.reduceAdd]
  exact xL
 by_cases h12:12<(c.length:Int)
 ·rw[if_neg (by omega)]
  simp only[wF,rC,h1,h12,jM,fD,Nat.reduceLeDiff,Nat.reduceLT,Nat.reduceSub,dU,aR,aX,cC,dJ,gR,bne_iff_ne,ne_eq,not_false_eq_true,not_true_eq_false,VX,Nat.reduceEqDiff,Nat.reduceAdd]
  exact xL
 rw[if_pos ⟨by omega,by omega⟩]
 have e0:=fun H=>oH (H:=H) (lr:=false) (z:=[.slice none 0 0]) rfl
 simp only[wF,rC,h1,h12,e0,jM,fD,Nat.reduceLeDiff,Nat.reduceLT,Nat.reduceSub,dU,aR,aX,cC,dJ,gR,bne_iff_ne,ne_eq,not_false_eq_true,not_true_eq_false,VX,Nat.reduceEqDiff,Nat.reduceAdd]
 refine bC (fun(s:Nat×List (List Rat)) ρ H=>s.1≤c.length∧(c.take s.1).mapM (Af c.length)=some s.2∧H=[.row s.1 (s.2.map (aL bR)) 1 true]∧ρ 1=(sQ (uE c)).cK 0∧ρ 4 = .ref 0 s.1 0 s.1 s.1∧ρ 21=uE c∧ρ 22=VI c.length∧ρ 23=VI s.1) (fun s=>c.length-s.1) (0,[]) ⟨Nat.zero_le _,rfl,rfl,rfl,rfl,rfl,rfl,rfl⟩ ?_
 rintro⟨i,out⟩ ρ H ⟨hi,wI,rfl,g1,g4,g21,g22,g23⟩
 simp only at hi wI g4 g23
 have iK:out.length=i:=by rw[pL wI,List.length_take];omega
 by_cases cQ:(i:Int)<(c.length:Int)
 ·obtain⟨r,hr⟩:∃r,c[i]? = some r:=⟨_,List.getElem?_eq_getElem (by omega)⟩
  have Se:=List.mem_of_getElem? hr
  have e1:=fun H=>aI (f:=dI) (t := .op) (H:=H) (size:=1) (k := .i64) hr rfl
  have wi:IntKind.i64.wrap ((i:Int)+1)=((i+1:Nat):Int):=wrapN (i+1) (by omega) (by omega)
  have e2:=AM r (hs r Se).1 (hs r Se).2
  cases hw:fB r with
  |
   none =>
   rw[hw] at e2
   have hq:Af c.length r=none:=by unfold Af;rw[hw]
   rw[mapM_none hq Se]
   simp only[Ii] at e2
   simp only[mX,g1,g4,g21,g22,g23,cQ,e1,e2,VX,Nat.reduceEqDiff,Nat.reduceAdd]
   exact xL
  |
   some w =>
   rw[hw] at e2
   simp only[Ii] at e2
   by_cases hl:w.length=c.length
   ·have hq:Af c.length r=some w:=by unfold Af;rw[hw];exact if_pos hl
    have zA:(w.length:Int)=(c.length:Int):=by omega
    have eL:∀H,pT false [.slice none 0 0] 1 [(0,aL bR w)] H=some (.tree [aL bR w] (.cl 1),H):=fun H=>pN rfl rfl rfl
    have eS:∀H,eW 1 (.tree [aL bR w] (.cl 1)) H=some [aL bR w]:=fun H=>lY rfl rfl
    have eP:fE 0 1 24 (.ref 0 i 0 i i) [aL bR w] [.row i (out.map (aL bR)) 1 true]=some (.ref 0 (i+1) 0 (i+1) (i+1),[.row (i+1) ((out++[w]).map (aL bR)) 1 true]):=by
     rw[lT (f:=aL bR) (xs:=out) (by rw[bK]) iK.symm (Nat.le_refl _) (by decide) (by decide) (by omega),List.set_cons_zero]
    simp only[mX,g1,g4,g21,g22,g23,cQ,e1,e2,zA,eL,eS,eP,wi,jM,ne_eq,not_true_eq_false,decide_false,VX,Nat.reduceEqDiff,Nat.reduceAdd]
    exact⟨(i+1,out++[w]),by simp only;omega,by simp only;omega,by simp only[wM hr];exact AO wI hq,rfl,rfl,rfl⟩
   ·have hq:Af c.length r=none:=by unfold Af;rw[hw];exact if_neg hl
    have zA:¬(w.length:Int)=(c.length:Int):=by omega
    rw[mapM_none hq Se]
    simp only[mX,g1,g4,g21,g22,g23,cQ,e1,e2,zA,jM,ne_eq,not_false_eq_true,decide_true,VX,Nat.reduceEqDiff,Nat.reduceAdd]
    exact xL
 ·have qR:i=c.length:=by omega
  subst qR
  rw[List.take_length] at wI
  rw[wI]
  simp only[mX,g1,g4,g21,g22,g23,cQ,VX,Nat.reduceEqDiff,Nat.reduceAdd]
  refine bG (d:=6) ?_ (aH (v:=VB true) rfl)
  have:=FR (d:=5) (w:=true) (f:=aL bR) (e:=1) (b:=0) (g:=c.length) (c:=c.length) (xs:=out) (H:=[.row c.length (out.map (aL bR)) 1 true]) kZ (by rw[bK]) (by omega)
  rw[iK] at this
  exact this
theorem Lm (m:List (List Rat)) (k:Int) (hl:m.length≤1000000):TC 139 [aL (aL bR) m,VI k] (VB (decide (0≤k∧k≤(m.length:Int)-1))):=by
 refine TC.walk ⟨true,false⟩ J3 rfl (Nat.le_of_ble_eq_true rfl) (Ow (A3 _) rfl) rfl ?_
 have w:IntKind.i64.wrap ((m.length:Int)-1)=(m.length:Int)-1:=wrap64 (by omega) (by omega)
 have e:=Wv k 0 ((m.length:Int)-1)
 simp only[Gq,Cq,w,e,VX,Nat.reduceEqDiff,Nat.reduceAdd]
 exact aG rfl
end Go.PM
namespace Go.PM
def pF:aD:=(LS [LO 33 (.bin .lss (LT 32) (LT 31))] (.seq (.cond (LT 33) .skip (.exit 0)) (.seq (.block 1 (LS [LM 34 32,LO 35 (.iaddr 3 (LT 30) (LT 32)),LO 36 (LK 35),LO 13 (.new [(.bool false),(.slice none 0 0),(.slice none 0 0)]),LM 12 34,LN (.store 3 (LT 13) (LT 36))] (LS [LM 37 12,LM 38 2,LO 39 (.bin .neq (LT 37) (LT 38))] (.cond (LT 39) (.dT [LO 40 (LK 11),LO 41 (LK 13),LM 42 8,LM 43 12,LO 44 (.iaddr 1 (LT 42) (LT 43)),LO 45 (LL 44),LM 46 2,LO 47 (.iaddr 3 (LT 45) (LT 46)),LO 48 (LK 47),LQ 49 (.call 96 [(LT 41),(LT 48)]),LQ 50 (.call 99 [(LT 40),(LT 49)]),LN (.store 3 (LT 11) (LT 50))]) .skip)))) (.dT [LO 51 (.bin .add (LT 32) (LI 1)),LM 32 51]))))
def qA:aD:=(LS [LO 3 (.box (LT 0)),LO 6 (.mv (.const (.string ⟨#[]⟩))),LO 7 (.mv LF)] (LS [LO 15 (.load true 1 (LT 3)),LM 16 1,LO 17 (.call 110 [(LT 15),(LT 16)]),LM 14 17,LO 18 (LX 14 0),LO 19 (LX 14 1),LO 20 (LX 14 2),LM 8 18,LM 9 19,LM 10 20] (.seq (LS [LM 21 10,LO 22 (.un .not (LT 21)),LM 23 22,LZ 23 24 (.mv (LT 8)),LZ 23 25 (.mv (LT 2)),LZ 23 26 (.call 139 [(LT 24),(LT 25)]),LZ 23 27 (.un .not (LT 26)),LO 28 (.pick (LT 23) LG (LT 27))] (.cond (LT 28) (LS [LO 6 (.mv (.const (.string ⟨#[]⟩))),LO 7 (.mv LF)] .ret) .skip)) (LS [LO 29 (.call 97 [(LI 0)]),LO 11 (.new [(.bool false),(.slice none 0 0),(.slice none 0 0)]),LN (.store 3 (LT 11) (LT 29))] (.seq (LS [LM 30 9,LO 31 (.len (LT 30)),LO 32 (.mv (LI 0))] (.block 0 (.loop pF))) (LS [LO 52 (LK 11),LO 53 (.call 90 [(LT 52)]),LO 54 (LX 53 0),LO 55 (LX 53 1),LM 6 54,LM 7 55] .ret))))))
def uK:aV:=⟨56,[(.tmp 6),(.tmp 7)],qA⟩
theorem IM:gT 61=some uK:=by kernel_rfl
end Go.PM
namespace Go.PM
open Go.Lib
theorem VG:Xv none = .dL [.tree [] .op,VB false]:=rfl
theorem Vy (m:List (List Rat)):Xv (some m) = .dL [aL (aL bR) m,VB true]:=rfl
def T5 (o:Option (List (List Rat))):VV:=match o with
 | some m=>aL (aL bR) m
 | none => .tree [] .op
def N8 (o:Option (List Rat)):VV:=match o with
 | some m=>aL bR m
 | none => .tree [] .op
def Qd (c:List (List ByteArray)) (ws:List ByteArray):Bool:=match vO c,fB ws with
 | some m,some w=>decide (w.length=m.length)
 | _,_=>false
def cwV (c:List (List ByteArray)) (ws:List ByteArray):VV := .dL [T5 (vO c),N8 (fB ws),VB (Qd c ws)]
theorem adL (c:List (List ByteArray)) (ws:List ByteArray):eQ (cwV c ws)=true:=by
 have h1:eQ (T5 (vO c))=true:=by cases vO c<;>first | rfl | exact On _
 have h2:eQ (N8 (fB ws))=true:=by cases fB ws<;>first | rfl | exact Dy _
 exact X8 h1 h2 rfl
set_option maxHeartbeats 1000000 in
theorem BE (c:List (List ByteArray)) (ws:List ByteArray) (hn:c.length≤1000000000) (hs:∀r∈c,r.length≤1000000000∧∀s∈r,s.size≤1000000000) (hn1:ws.length≤1000000000) (IU:∀s∈ws,s.size≤1000000000):TC 110 [sQ (uE c),dI ws] (cwV c ws):=by
 refine TC.walk ⟨true,false⟩ Bp rfl (Nat.le_of_ble_eq_true rfl) (Ow (uW (rP _)) (dG _)) (adL _ _) ?_
 have e1:=Ku c hn hs
 have e2:=AM ws hn1 IU
 unfold cwV Qd
 cases h1:vO c with
 |
  none =>
  rw[h1] at e1
  rw[VG] at e1
  cases h2:fB ws with
  |
   none =>
   rw[h2,tX] at e2
   simp only[fN,dY,e1,e2,qS,fD,Nat.reduceLeDiff,Nat.reduceLT,Nat.reduceSub,dU,aR,aX,cC,dJ,gR,bne_iff_ne,ne_eq,not_false_eq_true,not_true_eq_false,VX,Nat.reduceEqDiff,Nat.reduceAdd]
   exact aG (AV rfl rfl rfl)
  |
   some w =>
   rw[h2,Bf] at e2
   simp only[fN,dY,e1,e2,qS,fD,Nat.reduceLeDiff,Nat.reduceLT,Nat.reduceSub,dU,aR,aX,cC,dJ,gR,bne_iff_ne,ne_eq,not_false_eq_true,not_true_eq_false,VX,Nat.reduceEqDiff,Nat.reduceAdd]
   exact aG (AV rfl (kZ _) rfl)
 |
  some m =>
  rw[h1] at e1
  rw[Vy] at e1
  cases h2:fB ws with
  |
   none =>
   rw[h2,tX] at e2
   simp only[fN,dY,e1,e2,qS,fD,Nat.reduceLeDiff,Nat.reduceLT,Nat.reduceSub,dU,aR,aX,cC,dJ,gR,bne_iff_ne,ne_eq,not_false_eq_true,not_true_eq_false,VX,Nat.reduceEqDiff,Nat.reduceAdd]
   exact aG (AV (A3 _) rfl rfl)
  |
   some w =>
   rw[h2,Bf] at e2
   by_cases hl:(w.length:Int)=(m.length:Int)
   ·have zA:w.length=m.length:=by omega
    simp only[decide_eq_true zA]
    simp only[fN,dY,e1,e2,hl,qS,fD,Nat.reduceLeDiff,Nat.reduceLT,Nat.reduceSub,dU,aR,aX,cC,dJ,gR,bne_iff_ne,ne_eq,not_false_eq_true,not_true_eq_false,VX,Nat.reduceEqDiff,Nat.reduceAdd]
    exact aG (AV (A3 _) (kZ _) rfl)
   ·have zA:¬w.length=m.length:=by omega
    simp only[decide_eq_false zA]
    simp only[fN,dY,e1,e2,hl,qS,fD,Nat.reduceLeDiff,Nat.reduceLT,Nat.reduceSub,dU,aR,aX,cC,dJ,gR,bne_iff_ne,ne_eq,not_false_eq_true,not_true_eq_false,VX,Nat.reduceEqDiff,Nat.reduceAdd]
    exact aG (AV (A3 _) (kZ _) rfl)
def gM (m:List (List Rat)) (w:List Rat) (k:Int):Nat→Rat
 | 0=>0
 | i+1=>if (i:Int)=k then gM m w k i else gM m w k i+w.getD i 0*(m.getD i []).getD k.toNat 0
theorem GH {m:List (List Rat)} {w:List Rat} {k:Int} (hm:∀r∈m,∀q∈r,cW q≤665) (hw:∀q∈w,cW q≤665):∀i,cW (gM m w k i)≤1400*i+1
 | 0=>by rw[gM,EJ];omega
 |
  i+1=>by
  have h1:=GH (k:=k) hm hw i
  rw[gM]
  split
  ·omega
  ·have b0:∀(l:List Rat) (j:Nat),(∀q∈l,cW q≤665)→cW (l.getD j 0)≤665:=by
    intro l j hl
    rw[List.getD_eq_getElem?_getD]
    cases h:l[j]? with
    | none=>rw[Option.getD_none,EJ];omega
    | some q=>exact hl q (List.mem_of_getElem? h)
   have h2:=b0 w i hw
   have h3:cW ((m.getD i []).getD k.toNat 0)≤665:=b0 _ _ fun q hq=>by
    rw[List.getD_eq_getElem?_getD] at hq
    cases h:m[i]? with
    | none=>rw[h] at hq;cases hq
    | some r=>rw[h] at hq;exact hm r (List.mem_of_getElem? h) q hq
   have h4:=GC (w.getD i 0) ((m.getD i []).getD k.toNat 0)
   have h5:=Mn (gM m w k i) (w.getD i 0*(m.getD i []).getD k.toNat 0)
   omega
def zO (c:List (List ByteArray)) (ws:List ByteArray) (k:Int):VV:=match vO c,fB ws with
 | some m,some w=>if w.length=m.length∧0≤k∧k≤(m.length:Int)-1 then BY (gM m w k m.length) else .dL [aW [],VB false]
 | _,_ => .dL [aW [],VB false]
theorem MO (c:List (List ByteArray)) (ws:List ByteArray) (k:Int):∃s b,zO c ws k = .dL [aW s,VB b]:=by
 unfold zO
 split
 ·split
  ·exact GK _
  ·exact⟨_,_,rfl⟩
 ·exact⟨_,_,rfl⟩
theorem MF (c:List (List ByteArray)) (ws:List ByteArray) (k:Int):eQ (zO c ws k)=true:=by
 obtain⟨s,b,h⟩:=MO c ws k
 rw[h];rfl
set_option maxHeartbeats 2000000 in
theorem IY (c:List (List ByteArray)) (ws:List ByteArray) (k:Int) (KR:c.length≤1000000000∧∀r∈c,r.length≤1000000000∧∀s∈r,s.size≤1000000000) (Ao:ws.length≤1000000000∧∀s∈ws,s.size≤1000000000):TC 61 [sQ (uE c),dI ws,VI k] (zO c ws k):=by
 refine TC.walk ⟨true,false⟩ IM rfl (Nat.le_of_ble_eq_true rfl) (Kv (uW (rP _)) (dG _) rfl) (MF _ _ _) ?_
 have e1:=BE c ws KR.1 KR.2 Ao.1 Ao.2
 unfold cwV at e1
 by_cases zR:Qd c ws=true
 ·unfold Qd at zR
  cases h1:vO c with
  | none=>rw[h1] at zR;cases zR
  |
   some m =>
   cases h2:fB ws with
   | none=>rw[h1,h2] at zR;cases zR
   |
    some w =>
    rw[h1,h2] at zR
    have hl:w.length=m.length:=by simpa using zR
    have hk1:Qd c ws=true:=by unfold Qd;rw[h1,h2];exact zR
    rw[hk1,h1,h2] at e1
    simp only[T5,N8] at e1
    obtain⟨⟨Kc,Xg⟩,hm3,hm4⟩:=KD h1
    have hw4:=(tD (Al h2).1).1
    have e2:=Lm m k (by omega)
    unfold zO
    rw[h1,h2]
    simp only[]
    by_cases hk:0≤k∧k≤(m.length:Int)-1
    ·rw[decide_eq_true hk] at e2
     rw[if_pos ⟨hl,hk⟩]
     have e3:TC 97 [VI 0] (bR 0):=vV 0 (by decide) (by decide)
     have hfb:=fun i=>GH (m:=m) (w:=w) (k:=k) (fun r hr=>(hm4 r hr).2) hw4 i
     have e4:=RA (gM m w k m.length) (by have:=hfb m.length;omega)
     obtain⟨ts,tb,Tm⟩:=GK (gM m w k m.length)
     rw[Tm] at e4 ⊢
     have zA:((w.length:Nat):Int)=(m.length:Int):=by omega
     simp only[uK,qA,e1,e2,e3,zA,qS,aF,cB,dP,aS,aT,aN,fD,Nat.reduceLeDiff,Nat.reduceLT,Nat.reduceSub,dU,aR,aX,cC,dJ,gR,bne_iff_ne,ne_eq,not_false_eq_true,not_true_eq_false,VX,Nat.reduceEqDiff,Nat.reduceAdd]
     refine KO (fun(i:Nat) ρ H=>i≤m.length∧H=[.row 0 [bR (gM m w k i)] 3 true]∧ρ 2=VI k∧ρ 8=aL (aL bR) m∧ρ 11 = .ptr 0 0 0 0∧ρ 30=aL bR w∧ρ 31=VI m.length∧ρ 32=VI i) (fun i=>m.length-i) 0 ⟨Nat.zero_le _,rfl,rfl,rfl,rfl,rfl,rfl,rfl⟩ ?_
     rintro i ρ H ⟨hi,rfl,g2,g8,g11,g30,g31,g32⟩
     by_cases cQ:(i:Int)<(m.length:Int)
     ·obtain⟨q,hq⟩:∃q,w[i]? = some q:=⟨_,List.getElem?_eq_getElem (by omega)⟩
      obtain⟨r,hr⟩:∃r,m[i]? = some r:=⟨_,List.getElem?_eq_getElem (by omega)⟩
      obtain⟨n,rfl⟩:∃n:Nat,k=n:=⟨k.toNat,by omega⟩
      have FX:=hm4 r (List.mem_of_getElem? hr)
      obtain⟨x,hx⟩:∃x,r[n]? = some x:=⟨_,List.getElem?_eq_getElem (by omega)⟩
      have a1:=fun H=>aI (f:=bR) (t := .op) (H:=H) (size:=3) (k := .i64) hq rfl
      have a2:=fun H=>aI (f:=aL bR) (t := .op) (H:=H) (size:=1) (k := .i64) hr rfl
      have a3:=fun H=>aI (f:=bR) (t := .op) (H:=H) (size:=3) (k := .i64) hx rfl
      have wi:IntKind.i64.wrap ((i:Int)+1)=((i+1:Nat):Int):=wrapN (i+1) (by omega) (by omega)
      by_cases hik:(i:Int)=(n:Int)
      ·have hf:gM m w n (i+1)=gM m w n i:=by rw[gM,if_pos hik]
       have VZ:i=n:=by omega
       subst VZ
       simp only[pF,g2,g8,g11,g30,g31,g32,cQ,a1,wi,ne_eq,not_true_eq_false,decide_false,aF,cB,dP,aS,aT,aN,fD,Nat.reduceLeDiff,Nat.reduceLT,Nat.reduceSub,dU,aR,aX,cC,dJ,gR,bne_iff_ne,ne_eq,not_false_eq_true,not_true_eq_false,VX,Nat.reduceEqDiff,Nat.reduceAdd]
       refine⟨i+1,by omega,by rw[Ih,Dm],by omega,by rw[hf],?_⟩
       simp only[eU,g2,g8,g11,g30,g31,oC (A3 _),oC (kZ _),Mx (by decide:0<1),VX,Nat.reduceEqDiff,Nat.reduceAdd,List.take_zero,iW,List.all_nil,List.length_nil,eU,Fi,oC]
      ·have hf:gM m w n (i+1)=gM m w n i+q*x:=by
        rw[gM,if_neg hik]
        simp only[List.getD_eq_getElem?_getD,hq,hr,hx,Int.toNat_natCast,Option.getD_some]
       have hx1:=hw4 q (List.mem_of_getElem? hq)
       have hx2:=FX.2 x (List.mem_of_getElem? hx)
       have hx3:=GC q x
       have hx4:=hfb i
       have e5:=Ki q x (by omega) (by omega)
       have e6:=Cr (gM m w n i) (q*x) (by omega) (by omega)
       rw[←hf] at e6
       simp only[pF,g2,g8,g11,g30,g31,g32,cQ,hik,a1,a2,a3,e5,e6,wi,ne_eq,not_false_eq_true,decide_true,aF,cB,dP,aS,aT,aN,fD,Nat.reduceLeDiff,Nat.reduceLT,Nat.reduceSub,dU,aR,aX,cC,dJ,gR,bne_iff_ne,ne_eq,not_false_eq_true,not_true_eq_false,VX,Nat.reduceEqDiff,Nat.reduceAdd]
       refine⟨i+1,by omega,by rw[Ih,Dm],by omega,rfl,?_⟩
       simp only[eU,g2,g8,g11,g30,g31,oC (A3 _),oC (kZ _),Mx (by decide:0<1),VX,Nat.reduceEqDiff,Nat.reduceAdd,List.take_zero,iW,List.all_nil,List.length_nil,eU,Fi,oC]
     ·have qR:i=m.length:=by omega
      subst qR
      simp only[pF,g11,g31,g32,cQ,e4,aF,cB,dP,aS,aT,aN,fD,Nat.reduceLeDiff,Nat.reduceLT,Nat.reduceSub,dU,aR,aX,cC,dJ,gR,bne_iff_ne,ne_eq,not_false_eq_true,not_true_eq_false,VX,Nat.reduceEqDiff,Nat.reduceAdd]
      exact aG rfl
    ·rw[decide_eq_false hk] at e2
     rw[if_neg (fun h=>hk h.2)]
     simp only[uK,qA,e1,e2,qS,fD,Nat.reduceLeDiff,Nat.reduceLT,Nat.reduceSub,dU,aR,aX,cC,dJ,gR,bne_iff_ne,ne_eq,not_false_eq_true,not_true_eq_false,VX,Nat.reduceEqDiff,Nat.reduceAdd]
     exact aG rfl
 ·have hk0:Qd c ws=false:=by simpa using zR
  rw[hk0] at e1
  have Z5:zO c ws k = .dL [aW [],VB false]:=by
   unfold zO
   unfold Qd at hk0
   cases h1:vO c with
   | none=>rfl
   |
    some m =>
    cases h2:fB ws with
    | none=>rfl
    |
     some w =>
     rw[h1,h2] at hk0
     simp only[]
     rw[if_neg (fun h=>by simp[h.1] at hk0)]
  rw[Z5]
  generalize T5 (vO c)=u at *
  generalize N8 (fB ws)=v at *
  simp only[uK,qA,e1,qS,fD,Nat.reduceLeDiff,Nat.reduceLT,Nat.reduceSub,dU,aR,aX,cC,dJ,gR,bne_iff_ne,ne_eq,not_false_eq_true,not_true_eq_false,VX,Nat.reduceEqDiff,Nat.reduceAdd]
  exact aG rfl
end Go.PM
namespace Go.PM
def iB:aD:=(LS [LO 28 (.bin .lss (LT 27) (LT 26))] (.seq (.cond (LT 28) .skip (.exit 0)) (.seq (.block 1 (LS [LM 29 27,LM 6 29] (.seq (LS [LM 30 0,LO 31 (.chk (LT 30)),LO 32 (LA 0 31),LO 33 (LL 32),LM 34 6,LO 35 (.iaddr 1 (LT 33) (LT 34)),LO 36 (LL 35),LO 37 (.len (LT 36)),LM 38 4,LO 39 (.bin .neq (LT 37) (LT 38))] (.cond (LT 39) (LS [LO 40 (.build [(.slice none 0 0)] [(0,1)] []),LN (.store 1 (LT 2) (LT 40)),LO 3 (.mv LF)] .ret) .skip)) (LS [LM 42 0,LO 43 (.chk (LT 42)),LO 44 (LA 0 43),LO 45 (LL 44),LM 46 6,LO 47 (.iaddr 1 (LT 45) (LT 46)),LO 48 (LL 47),LO 49 (.call 115 [(LT 48)]),LM 41 49,LO 50 (LX 41 0),LO 51 (LX 41 1),LM 7 50,LM 8 51] (.seq (LS [LM 52 8,LO 53 (.un .not (LT 52)),LM 54 53,LZ 54 55 (.mv (LT 7)),LZ 54 56 (.call 116 [(LT 55)]),LZ 54 57 (.un .not (LT 56)),LO 58 (.pick (LT 54) LG (LT 57))] (.cond (LT 58) (LS [LO 59 (.build [(.slice none 0 0)] [(0,1)] []),LN (.store 1 (LT 2) (LT 59)),LO 3 (.mv LF)] .ret) .skip)) (.dT [LO 60 (LA 0 5),LO 61 (LL 60),LM 62 7,LO 63 (.lit [(.slice none 0 0)] 1 [(0,(LT 62))]),LO 64 (.app 1 24 (LT 61) (LT 63)),LO 65 (LA 0 5),LN (.store 1 (LT 65) (LT 64))])))))) (.dT [LO 66 (.bin .add (LT 27) (LI 1)),LM 27 66]))))
def qD:aD:=(LS [LO 2 (.new [(.slice none 0 0)]),LO 3 (.mv LF)] (LS [LM 9 0,LO 10 (.chk (LT 9)),LO 11 (LA 0 10),LO 12 (LL 11),LO 13 (.len (LT 12)),LM 4 13] (.seq (LS [LM 14 4,LO 15 (.bin .lss (LT 14) (LI 1)),LM 16 15,LZ 16 17 (.mv (LT 4)),LZ 16 18 (.bin .gtr (LT 17) (LI 12)),LO 19 (.pick (LT 16) LG (LT 18))] (.cond (LT 19) (LS [LO 20 (.build [(.slice none 0 0)] [(0,1)] []),LN (.store 1 (LT 2) (LT 20)),LO 3 (.mv LF)] .ret) .skip)) (LS [LO 21 (.build [(.slice none 0 0)] [(0,1)] []),LO 5 (.new [(.slice none 0 0)]),LN (.store 1 (LT 5) (LT 21))] (.seq (LS [LM 22 0,LO 23 (.chk (LT 22)),LO 24 (LA 0 23),LO 25 (LL 24),LO 26 (.len (LT 25)),LO 27 (.mv (LI 0))] (.block 0 (.loop iB))) (LS [LO 67 (.load true 1 (LT 5)),LN (.store 1 (LT 2) (LT 67)),LO 3 (.mv LG)] .ret))))))
def uH:aV:=⟨68,[(.cell 2 true 1),(.tmp 3)],qD⟩
theorem IT:gT 134=some uH:=by kernel_rfl
def BU:aD:=(LS [LO 4 (.mv LF)] (LS [LM 5 1,LM 6 0,LO 7 (.chk (LT 6)),LO 8 (LA 0 7),LO 9 (LL 8),LO 10 (.len (LT 9)),LO 11 (.bin .sub (LT 10) (LI 1)),LO 12 (.call 119 [(LT 5),(LI 0),(LT 11)]),LM 4 12] .ret))
def D4:aV:=⟨13,[(.tmp 4)],BU⟩
theorem IS:gT 135=some D4:=by kernel_rfl
end Go.PM
namespace Go.PM
open Go.Lib
theorem Ul {d:Nat} {H:aA} {u u':VV} (h1:fz (d+1) H u=some u'):fz (d+2) H (.agg [u])=some (.agg [u']):=by
 have e:fz (d+2) H (.agg [u])=if aM (.agg [u])=true then some (.agg [u]) else ([u].mapM (fz (d+1) H)).map .agg:=rfl
 rw[e]
 by_cases hp:aM (.agg [u])=true
 ·rw[if_pos hp]
  have hu:aM u=true:=by simpa[aM,aJ] using hp
  rw[aH hu] at h1
  cases h1
  rfl
 ·rw[if_neg hp,List.mapM_cons,h1]
  rfl
theorem KL (x:List Rat):(aB (aL bX x)).length=1:=rfl
theorem Gu (m:List (List Rat)):aM (aL (aL bX) m)=true:=gW KL Bs
theorem Q1 (m:List (List Rat)):eQ (aL (aL bX) m)=true:=xF KL GU fun _=>rfl
theorem UA {u:VV} (hu:eQ u=true) (he:yH u=true):eQ (.agg [u])=true:=by simp[eQ,pR,hu]
def WK (o:Option (List (List Rat))):VV:=match o with
 | some m => .dL [sQ (aL (aL bX) m),VB true]
 | none => .dL [sQ (.tree [] .op),VB false]
theorem Gs:WK none = .dL [sQ (.tree [] .op),VB false]:=rfl
theorem Ns (m:List (List Rat)):WK (some m) = .dL [sQ (aL (aL bX) m),VB true]:=rfl
theorem XA (o:Option (List (List Rat))):eQ (WK o)=true:=by
 unfold WK
 split
 ·exact uP (UA (Q1 _) rfl) rfl
 ·exact uP (UA (Q1 []) rfl) rfl
theorem ON {H:aA}:fz depth H (.dL [sQ (.tree [] .nil),VB false])=some (.dL [sQ (.tree [] .op),VB false]):=bG (d:=6) (Ul (d:=5) Ux) (aH (v:=VB false) rfl)
theorem abY {b g o n c:Nat}:dA true 1 (.ref b g o n c) 0=some (sQ (.ref b g o n c)):=rfl
def hpM (i:Nat) (out:List (List Rat)):aA:=match i with
 | 0=>[.row 0 [.tree [] .nil] 1 true,.row 0 [sQ (.tree [] .nil)] 1 true]
 | i+1=>[.row 0 [.tree [] .nil] 1 true,.row 0 [.ref 2 i 0 (i+1) (i+1)] 1 true,.row i (out.map (aL bX)) 1 true]
set_option maxHeartbeats 2000000 in
theorem IV (c:List (List ByteArray)) (hn:c.length≤1000000000) (hs:∀r∈c,r.length≤1000000000∧∀s∈r,s.size≤1000000000):TC 134 [(sQ (uE c)).cK 0] (WK (vO c)):=by
 refine TC.walk ⟨true,false⟩ IT rfl (Nat.le_of_ble_eq_true rfl) (Tg (show aM (sQ (uE c))=true from uW (rP _))) (XA _) ?_
 unfold vO
 by_cases h1:(c.length:Int)<1
 ·rw[if_neg (by omega),Gs]
  simp only[uH,qD,h1,jM,fD,Nat.reduceLeDiff,Nat.reduceLT,Nat.reduceSub,dU,aR,aX,cC,dJ,gR,bne_iff_ne,ne_eq,not_false_eq_true,not_true_eq_false,VX,Nat.reduceEqDiff,Nat.reduceAdd]
  exact ON
 by_cases h12:12<(c.length:Int)
 ·rw[if_neg (by omega),Gs]
  simp only[uH,qD,h1,h12,jM,fD,Nat.reduceLeDiff,Nat.reduceLT,Nat.reduceSub,dU,aR,aX,cC,dJ,gR,bne_iff_ne,ne_eq,not_false_eq_true,not_true_eq_false,VX,Nat.reduceEqDiff,Nat.reduceAdd]
  exact ON
 rw[if_pos ⟨by omega,by omega⟩]
 simp only[uH,qD,h1,h12,jM,fD,Nat.reduceLeDiff,Nat.reduceLT,Nat.reduceSub,dU,aR,aX,cC,dJ,gR,bne_iff_ne,ne_eq,not_false_eq_true,not_true_eq_false,VX,Nat.reduceEqDiff,Nat.reduceAdd]
 refine bC (fun(s:Nat×List (List Rat)) ρ H=>s.1≤c.length∧(c.take s.1).mapM (Af c.length)=some s.2∧H=hpM s.1 s.2∧ρ 0=(sQ (uE c)).cK 0∧ρ 2 = .ptr 0 0 0 0∧ρ 4=VI c.length∧ρ 5 = .ptr 1 0 0 0∧ρ 26=VI c.length∧ρ 27=VI s.1) (fun s=>c.length-s.1) (0,[]) ⟨Nat.zero_le _,rfl,rfl,rfl,rfl,rfl,rfl,rfl,rfl⟩ ?_
 rintro⟨i,out⟩ ρ H ⟨hi,wI,rfl,g0,g2,g4,g5,g26,g27⟩
 simp only at hi wI g27
 have iK:out.length=i:=by rw[pL wI,List.length_take];omega
 by_cases cQ:(i:Int)<(c.length:Int)
 ·obtain⟨r,hr⟩:∃r,c[i]? = some r:=⟨_,List.getElem?_eq_getElem (by omega)⟩
  have Se:=List.mem_of_getElem? hr
  have e1:=fun H=>aI (f:=dI) (t := .op) (H:=H) (size:=1) (k := .i64) hr rfl
  have wi:IntKind.i64.wrap ((i:Int)+1)=((i+1:Nat):Int):=wrapN (i+1) (by omega) (by omega)
  have bad:Af c.length r=none→∀K:aA,fz depth K (.dL [sQ (.tree [] .nil),VB false])=some (WK ((c.mapM (Af c.length)))):=fun hq K=>by
   rw[mapM_none hq Se]
   exact ON
  have DN:∀v:VV,aB v=[v]→cI v=true→∀x K,cR 0 1 (.ptr 0 0 0 0) (sQ (.tree [] .nil)) (.row 0 [x] 1 true::K)=some (.row 0 [sQ (.tree [] .nil)] 1 true::K):=fun v _ _ x K=>by simp only[fD,Nat.reduceLeDiff,Nat.reduceLT,Nat.reduceSub,VX,Nat.reduceEqDiff,Nat.reduceAdd]
  by_cases hl:(r.length:Int)=(c.length:Int)
  ·have e2:=Dd r (hs r Se).1 (hs r Se).2
   cases hw:zT r with
   |
    none =>
    rw[hw,EA] at e2
    have hq:Af c.length r=none:=by unfold Af;rw[C3 hw]
    cases i <;>
    ·simp only[iB,hpM,g0,g2,g4,g5,g26,g27,cQ,hl,e1,e2,jM,ne_eq,not_true_eq_false,decide_false,fD,Nat.reduceLeDiff,Nat.reduceLT,Nat.reduceSub,dU,aR,aX,cC,dJ,gR,bne_iff_ne,ne_eq,not_false_eq_true,not_true_eq_false,VX,Nat.reduceEqDiff,Nat.reduceAdd]
     exact bad hq _
   |
    some w =>
    rw[hw,Ez] at e2
    obtain⟨hb,hlw,O3⟩:=tD hw
    have e3:=Ab w hb hlw
    cases hww:hC w with
    |
     false =>
     rw[hww] at e3
     have hq:Af c.length r=none:=by unfold Af;rw[zP hw,if_neg (by simp[hww])]
     cases i <;>
     ·simp only[iB,hpM,g0,g2,g4,g5,g26,g27,cQ,hl,e1,e2,e3,jM,ne_eq,not_true_eq_false,decide_false,fD,Nat.reduceLeDiff,Nat.reduceLT,Nat.reduceSub,dU,aR,aX,cC,dJ,gR,bne_iff_ne,ne_eq,not_false_eq_true,not_true_eq_false,VX,Nat.reduceEqDiff,Nat.reduceAdd]
      exact bad hq _
    |
     true =>
     rw[hww] at e3
     have hq:Af c.length r=some w:=by unfold Af;rw[zP hw,if_pos hww];exact if_pos (by omega)
     have eL:∀H,pT false [.slice none 0 0] 1 [(0,aL bX w)] H=some (.tree [aL bX w] (.cl 1),H):=fun H=>pN rfl rfl rfl
     have eS:∀H,eW 1 (.tree [aL bX w] (.cl 1)) H=some [aL bX w]:=fun H=>lY rfl rfl
     cases i with
     |
      zero =>
      have ho:out=[]:=List.length_eq_zero_iff.1 iK
      subst ho
      have eP:∀K:aA,fE 0 1 24 (.tree [] .nil) [aL bX w] K=some (.ref K.length 0 0 1 1,K++[.row 0 [aL bX w] 1 true]):=fun K=>by simp[fE]
      simp only[iB,hpM,g0,g2,g4,g5,g26,g27,cQ,hl,e1,e2,e3,eL,eS,eP,wi,jM,ne_eq,not_true_eq_false,decide_false,fD,Nat.reduceLeDiff,Nat.reduceLT,Nat.reduceSub,dU,aR,aX,cC,dJ,gR,bne_iff_ne,ne_eq,not_false_eq_true,not_true_eq_false,VX,Nat.reduceEqDiff,Nat.reduceAdd,List.length_cons,List.length_nil,List.cons_append,List.nil_append]
      exact⟨(1,[w]),by simp only;omega,by simp only;omega,by simp only[wM hr];exact AO wI hq,rfl,rfl⟩
     |
      succ i =>
      have eP:fE 0 1 24 (.ref 2 i 0 (i+1) (i+1)) [aL bX w] (hpM (i+1) out)=some (.ref 2 (i+1) 0 (i+2) (i+2),[.row 0 [.tree [] .nil] 1 true,.row 0 [.ref 2 i 0 (i+1) (i+1)] 1 true,.row (i+1) ((out++[w]).map (aL bX)) 1 true]):=by
       rw[hpM,lT (f:=aL bX) (xs:=out) (by rw[qZ,qZ,bK]) iK.symm (Nat.zero_le _) (by decide) (by decide) (by omega)]
       rfl
      simp only[hpM] at eP
      simp only[iB,hpM,g0,g2,g4,g5,g26,g27,cQ,hl,e1,e2,e3,eL,eS,eP,wi,jM,ne_eq,not_true_eq_false,decide_false,fD,Nat.reduceLeDiff,Nat.reduceLT,Nat.reduceSub,dU,aR,aX,cC,dJ,gR,bne_iff_ne,ne_eq,not_false_eq_true,not_true_eq_false,VX,Nat.reduceEqDiff,Nat.reduceAdd]
      exact⟨(i+2,out++[w]),by simp only;omega,by simp only;omega,by simp only[wM hr];exact AO wI hq,rfl,rfl⟩
  ·have hq:Af c.length r=none:=by
    unfold Af
    cases hw:fB r with
    | none=>rfl
    |
     some w =>
     obtain⟨_,_,O3⟩:=tD (Al hw).1
     exact if_neg (by omega)
   cases i <;>
   ·simp only[iB,hpM,g0,g2,g4,g5,g26,g27,cQ,hl,e1,jM,ne_eq,not_false_eq_true,decide_true,fD,Nat.reduceLeDiff,Nat.reduceLT,Nat.reduceSub,dU,aR,aX,cC,dJ,gR,bne_iff_ne,ne_eq,not_false_eq_true,not_true_eq_false,VX,Nat.reduceEqDiff,Nat.reduceAdd]
    exact bad hq _
 ·have qR:i=c.length:=by omega
  subst qR
  rw[List.take_length] at wI
  rw[wI,Ns]
  obtain⟨k,hk⟩:∃k,c.length=k+1:=⟨c.length-1,by omega⟩
  simp only[iB,g2,g5,g26,g27,cQ,VX,Nat.reduceEqDiff,Nat.reduceAdd]
  rw[hk]
  simp only[hpM,g2,abY,fD,Nat.reduceLeDiff,Nat.reduceLT,Nat.reduceSub,dU,aR,aX,cC,dJ,gR,bne_iff_ne,ne_eq,not_false_eq_true,not_true_eq_false,VX,Nat.reduceEqDiff,Nat.reduceAdd]
  refine bG (d:=6) (Ul (d:=5) ?_) (aH (v:=VB true) rfl)
  have:=FR (d:=4) (w:=true) (f:=aL bX) (e:=1) (b:=2) (g:=k) (c:=k+1) (xs:=out) (H:=[.row 0 [sQ (.ref 2 k 0 (k+1) (k+1))] 1 true,.row 0 [.ref 2 k 0 (k+1) (k+1)] 1 true,.row k (out.map (aL bX)) 1 true]) Bs (by rw[qZ,qZ,bK]) (by omega)
  rw[iK,hk] at this
  exact this
end Go.PM
namespace Go.PM
def yN:aD:=(LS [LO 1 (.box (LT 0)),LO 2 (.mv (.const (.string ⟨#[]⟩))),LO 3 (.mv LF)] (LS [LO 7 (LK 1),LO 8 (.call 93 [(LT 7)]),LM 6 8,LO 9 (LX 6 0),LO 10 (LX 6 1),LM 4 9,LM 5 10] (.seq (LS [LM 11 5,LO 12 (.un .not (LT 11))] (.cond (LT 12) (LS [LO 2 (.mv (.const (.string ⟨#[]⟩))),LO 3 (.mv LF)] .ret) .skip)) (LS [LM 13 4,LM 2 13,LO 3 (.mv LG)] .ret))))
def Bg:aV:=⟨14,[(.tmp 2),(.tmp 3)],yN⟩
theorem Ks:gT 138=some Bg:=by kernel_rfl
end Go.PM
namespace Go.PM
def oQ:aD:=(.seq (LS [LM 48 13,LM 49 10,LO 50 (.len (LT 49)),LO 51 (.bin .lss (LT 48) (LT 50))] (.cond (LT 51) .skip (.exit 0))) (.seq (.block 1 (LS [LM 54 13,LM 55 2,LO 56 (.bin .neq (LT 54) (LT 55))] (.cond (LT 56) (.dT [LO 57 (LK 12),LM 58 10,LM 59 13,LO 60 (.iaddr 3 (LT 58) (LT 59)),LO 61 (LK 60),LO 62 (LA 0 8),LO 63 (LL 62),LM 64 13,LO 65 (.iaddr 1 (LT 63) (LT 64)),LO 66 (LL 65),LM 67 2,LO 68 (.iaddr 3 (LT 66) (LT 67)),LO 69 (LK 68),LQ 70 (.call 137 [(LT 61),(LT 69)]),LQ 71 (.call 94 [(LT 57),(LT 70)]),LN (.store 3 (LT 12) (LT 71))]) .skip))) (.dT [LM 52 13,LO 53 (.bin .add (LT 52) (LI 1)),LM 13 53])))
def gJ:aD:=(LS [LO 3 (.box (LT 0)),LO 6 (.mv (.const (.string ⟨#[]⟩))),LO 7 (.mv LF)] (LS [LO 15 (.call 134 [(LT 3)]),LM 14 15,LO 16 (LX 14 0),LO 17 (LX 14 1),LO 8 (.new [(.slice none 0 0)]),LN (.store 1 (LT 8) (LT 16)),LM 9 17] (LS [LM 19 1,LO 20 (.call 115 [(LT 19)]),LM 18 20,LO 21 (LX 18 0),LO 22 (LX 18 1),LM 10 21,LM 11 22] (.seq (LS [LM 23 9,LO 24 (.un .not (LT 23)),LM 25 24,LZ 25 26 (.mv (LT 11)),LZ 25 27 (.un .not (LT 26)),LO 28 (.pick (LT 25) LG (LT 27)),LM 29 28,LZ 29 30 (.mv (LT 10)),LZ 29 31 (.len (LT 30)),LZ 29 32 (LA 0 8),LZ 29 33 (LL 32),LZ 29 34 (.len (LT 33)),LZ 29 35 (.bin .neq (LT 31) (LT 34)),LO 36 (.pick (LT 29) LG (LT 35)),LM 37 36,LZ 37 38 (.mv (LT 10)),LZ 37 39 (.call 116 [(LT 38)]),LZ 37 40 (.un .not (LT 39)),LO 41 (.pick (LT 37) LG (LT 40)),LM 42 41,LZ 42 43 (.mv (LT 2)),LZ 42 44 (.call 135 [(LT 8),(LT 43)]),LZ 42 45 (.un .not (LT 44)),LO 46 (.pick (LT 42) LG (LT 45))] (.cond (LT 46) (LS [LO 6 (.mv (.const (.string ⟨#[]⟩))),LO 7 (.mv LF)] .ret) .skip)) (LS [LO 47 (.call 136 []),LO 12 (.new [(.bool false),(.slice none 0 0),(.slice none 0 0)]),LN (.store 3 (LT 12) (LT 47))] (.seq (LS [LO 13 (.mv (LI 0))] (.block 0 (.loop oQ))) (LS [LO 72 (LK 12),LO 73 (.call 138 [(LT 72)]),LO 74 (LX 73 0),LO 75 (LX 73 1),LM 6 74,LM 7 75] .ret)))))))
def jQ:aV:=⟨76,[(.tmp 6),(.tmp 7)],gJ⟩
theorem II:gT 59=some jQ:=by kernel_rfl
end Go.PM
namespace Go.PM
open Go.Lib
theorem ahW {b g j o e:Nat} {H:aA} {es:List VV} {w:Bool} {x x':VV} (h:aP H b g=some (es,e,w)) (hx:es[j]? = some x) (hf:PM.fz 7 H x=some x'):PM.fz depth H (.ptr b g j o)=some (x'.cK o):=by
 show PM.fz (7+1) H _=_
 unfold PM.fz
 have:aM (.ptr b g j o)=false:=rfl
 simp[this,h,hx,hf]
theorem JI (q:Rat) (hk:cW q≤1099511627776):TC 138 [bX q] (BY q):=by
 refine TC.walk ⟨true,false⟩ Ks rfl (Nat.le_of_ble_eq_true rfl) (Tg (yW _)) (G1 q) ?_
 have e1:=Ko q hk
 unfold BY at e1 ⊢
 by_cases h:BQ q=true
 ·rw[if_pos h] at e1 ⊢
  simp only[Bg,yN,e1,bO,dB,gO,aK,aU,aQ,fD,Nat.reduceLeDiff,Nat.reduceLT,Nat.reduceSub,dU,aR,aX,cC,dJ,gR,bne_iff_ne,ne_eq,not_false_eq_true,not_true_eq_false,VX,Nat.reduceEqDiff,Nat.reduceAdd]
  exact aG rfl
 ·rw[if_neg h] at e1 ⊢
  simp only[Bg,yN,e1,bO,dB,gO,aK,aU,aQ,fD,Nat.reduceLeDiff,Nat.reduceLT,Nat.reduceSub,dU,aR,aX,cC,dJ,gR,bne_iff_ne,ne_eq,not_false_eq_true,not_true_eq_false,VX,Nat.reduceEqDiff,Nat.reduceAdd]
  exact aG rfl
theorem I9 (m:List (List Rat)) (k:Int) (hl:m.length≤1000000):TC 135 [(sQ (aL (aL bX) m)).cK 0,VI k] (VB (decide (0≤k∧k≤(m.length:Int)-1))):=by
 refine TC.walk ⟨true,false⟩ IS rfl (Nat.le_of_ble_eq_true rfl) (Ow (show aM (sQ (aL (aL bX) m))=true from uW (Gu _)) rfl) rfl ?_
 have w:IntKind.i64.wrap ((m.length:Int)-1)=(m.length:Int)-1:=wrap64 (by omega) (by omega)
 have e:=NC k 0 ((m.length:Int)-1)
 simp only[D4,BU,w,e,jM,VX,Nat.reduceEqDiff,Nat.reduceAdd]
 exact aG rfl
set_option maxHeartbeats 2000000 in
theorem IZ (c:List (List ByteArray)) (ws:List ByteArray) (k:Int) (KR:c.length≤1000000000∧∀r∈c,r.length≤1000000000∧∀s∈r,s.size≤1000000000) (Ao:ws.length≤1000000000∧∀s∈ws,s.size≤1000000000):TC 59 [sQ (uE c),dI ws,VI k] (zO c ws k):=by
 refine TC.walk ⟨true,false⟩ II rfl (Nat.le_of_ble_eq_true rfl) (Kv (uW (rP _)) (dG _) rfl) (MF _ _ _) ?_
 have e1:=IV c KR.1 KR.2
 have e2:=Dd ws Ao.1 Ao.2
 cases h1:vO c with
 |
  none =>
  rw[h1,Gs] at e1
  have Z5:zO c ws k = .dL [aW [],VB false]:=by unfold zO;rw[h1]
  rw[Z5]
  cases h2:zT ws with
  |
   none =>
   rw[h2,EA] at e2
   simp only[jQ,gJ,e1,e2,qS,fD,Nat.reduceLeDiff,Nat.reduceLT,Nat.reduceSub,dU,aR,aX,cC,dJ,gR,bne_iff_ne,ne_eq,not_false_eq_true,not_true_eq_false,VX,Nat.reduceEqDiff,Nat.reduceAdd]
   exact aG rfl
  |
   some w =>
   rw[h2,Ez] at e2
   simp only[jQ,gJ,e1,e2,qS,fD,Nat.reduceLeDiff,Nat.reduceLT,Nat.reduceSub,dU,aR,aX,cC,dJ,gR,bne_iff_ne,ne_eq,not_false_eq_true,not_true_eq_false,VX,Nat.reduceEqDiff,Nat.reduceAdd]
   exact aG rfl
 |
  some m =>
  rw[h1,Ns] at e1
  obtain⟨⟨Kc,Xg⟩,hm3,hm4⟩:=KD h1
  cases h2:zT ws with
  |
   none =>
   rw[h2,EA] at e2
   have Z5:zO c ws k = .dL [aW [],VB false]:=by unfold zO;rw[h1,C3 h2]
   rw[Z5]
   simp only[jQ,gJ,e1,e2,qS,fD,Nat.reduceLeDiff,Nat.reduceLT,Nat.reduceSub,dU,aR,aX,cC,dJ,gR,bne_iff_ne,ne_eq,not_false_eq_true,not_true_eq_false,VX,Nat.reduceEqDiff,Nat.reduceAdd]
   exact aG rfl
  |
   some w =>
   rw[h2,Ez] at e2
   obtain⟨hw4,hwl,_⟩:=tD h2
   have e3:=Ab w hw4 hwl
   have hfl:zO c ws k=if hC w=true∧w.length=m.length∧0≤k∧k≤(m.length:Int)-1 then BY (gM m w k m.length) else .dL [aW [],VB false]:=by
    unfold zO
    rw[h1,zP h2]
    by_cases hw:hC w=true
    ·rw[if_pos hw]
     simp only[hw,true_and]
    ·rw[if_neg hw,if_neg (fun h=>hw h.1)]
   rw[hfl]
   by_cases hl:(w.length:Int)=(m.length:Int)
   ·cases hw:hC w with
    |
     false =>
     rw[hw] at e3
     rw[if_neg (fun h=>by simp at h)]
     simp only[jQ,gJ,e1,e2,e3,hl,qS,jM,ne_eq,not_true_eq_false,decide_false,fD,Nat.reduceLeDiff,Nat.reduceLT,Nat.reduceSub,dU,aR,aX,cC,dJ,gR,bne_iff_ne,ne_eq,not_false_eq_true,not_true_eq_false,VX,Nat.reduceEqDiff,Nat.reduceAdd]
     exact aG rfl
    |
     true =>
     rw[hw] at e3
     have eS:=fun lo K=>TC.flat (I9 m k (by omega)) rfl (Ow (show aM (sQ (aL (aL bX) m))=true from uW (Gu _)) rfl) (fz2 (ahW (b:=0) (g:=0) (j:=0) (o:=0) (H:=[.row 0 [sQ (aL (aL bX) m)] 1 true]) bK rfl (aH (uW (Gu m)))) (aG rfl)) rfl lo K
     by_cases hk:0≤k∧k≤(m.length:Int)-1
     ·rw[decide_eq_true hk] at eS
      rw[if_pos ⟨rfl,by omega,hk⟩]
      have e4:=C2
      have hfb:=fun i=>GH (m:=m) (w:=w) (k:=k) (fun r hr=>(hm4 r hr).2) hw4 i
      have e5:=JI (gM m w k m.length) (by have:=hfb m.length;omega)
      obtain⟨ts,tb,Tm⟩:=GK (gM m w k m.length)
      rw[Tm] at e5 ⊢
      simp only[jQ,gJ,e1,e2,e3,e4,hl,eS,qS,jM,ne_eq,not_true_eq_false,decide_false,bO,dB,gO,aK,aU,aQ,fD,Nat.reduceLeDiff,Nat.reduceLT,Nat.reduceSub,dU,aR,aX,cC,dJ,gR,bne_iff_ne,ne_eq,not_false_eq_true,not_true_eq_false,VX,Nat.reduceEqDiff,Nat.reduceAdd]
      refine bC (fun(i:Nat) ρ H=>i≤m.length∧H=[.row 0 [sQ (aL (aL bX) m)] 1 true,.row 0 [bX (gM m w k i)] 3 true]∧ρ 2=VI k∧ρ 8 = .ptr 0 0 0 0∧ρ 10=aL bX w∧ρ 12 = .ptr 1 0 0 0∧ρ 13=VI i) (fun i=>m.length-i) 0 ⟨Nat.zero_le _,rfl,rfl,rfl,rfl,rfl,rfl⟩ ?_
      rintro i ρ H ⟨hi,rfl,g2,g8,g10,g12,g13⟩
      by_cases cQ:(i:Int)<(m.length:Int)
      ·obtain⟨q,hq⟩:∃q,w[i]? = some q:=⟨_,List.getElem?_eq_getElem (by omega)⟩
       obtain⟨r,hr⟩:∃r,m[i]? = some r:=⟨_,List.getElem?_eq_getElem (by omega)⟩
       obtain⟨n,rfl⟩:∃n:Nat,k=n:=⟨k.toNat,by omega⟩
       have FX:=hm4 r (List.mem_of_getElem? hr)
       obtain⟨x,hx⟩:∃x,r[n]? = some x:=⟨_,List.getElem?_eq_getElem (by omega)⟩
       have a1:=fun H=>aI (f:=bX) (t := .op) (H:=H) (size:=3) (k := .i64) hq rfl
       have a2:=fun H=>aI (f:=aL bX) (t := .op) (H:=H) (size:=1) (k := .i64) hr rfl
       have a3:=fun H=>aI (f:=bX) (t := .op) (H:=H) (size:=3) (k := .i64) hx rfl
       have wi:IntKind.i64.wrap ((i:Int)+1)=((i+1:Nat):Int):=wrapN (i+1) (by omega) (by omega)
       by_cases hik:(i:Int)=(n:Int)
       ·have hf:gM m w n (i+1)=gM m w n i:=by rw[gM,if_pos hik]
        have VZ:i=n:=by omega
        subst VZ
        simp only[oQ,g2,g8,g10,g12,g13,cQ,hl,a1,wi,ne_eq,not_true_eq_false,decide_false,bO,dB,gO,aK,aU,aQ,fD,Nat.reduceLeDiff,Nat.reduceLT,Nat.reduceSub,dU,aR,aX,cC,dJ,gR,bne_iff_ne,ne_eq,not_false_eq_true,not_true_eq_false,VX,Nat.reduceEqDiff,Nat.reduceAdd]
        exact⟨i+1,by omega,by omega,by rw[hf],rfl⟩
       ·have hf:gM m w n (i+1)=gM m w n i+q*x:=by
         rw[gM,if_neg hik]
         simp only[List.getD_eq_getElem?_getD,hq,hr,hx,Int.toNat_natCast,Option.getD_some]
        have hx1:=hw4 q (List.mem_of_getElem? hq)
        have hx2:=FX.2 x (List.mem_of_getElem? hx)
        have hx3:=GC q x
        have hx4:=hfb i
        have e6:=I5 q x (by omega) (by omega)
        have e7:=Ed (gM m w n i) (q*x) (by omega) (by omega)
        rw[←hf] at e7
        simp only[oQ,g2,g8,g10,g12,g13,cQ,hl,hik,a1,a2,a3,e6,e7,wi,jM,ne_eq,not_false_eq_true,decide_true,bO,dB,gO,aK,aU,aQ,fD,Nat.reduceLeDiff,Nat.reduceLT,Nat.reduceSub,dU,aR,aX,cC,dJ,gR,bne_iff_ne,ne_eq,not_false_eq_true,not_true_eq_false,VX,Nat.reduceEqDiff,Nat.reduceAdd]
        exact⟨i+1,by omega,by omega,rfl,rfl⟩
      ·have qR:i=m.length:=by omega
       subst qR
       simp only[oQ,g10,g12,g13,hl,cQ,e5,bO,dB,gO,aK,aU,aQ,fD,Nat.reduceLeDiff,Nat.reduceLT,Nat.reduceSub,dU,aR,aX,cC,dJ,gR,bne_iff_ne,ne_eq,not_false_eq_true,not_true_eq_false,VX,Nat.reduceEqDiff,Nat.reduceAdd]
       exact aG rfl
     ·rw[decide_eq_false hk] at eS
      rw[if_neg (fun h=>hk h.2.2)]
      simp only[jQ,gJ,e1,e2,e3,hl,eS,qS,jM,ne_eq,not_true_eq_false,decide_false,bO,dB,gO,aK,aU,aQ,fD,Nat.reduceLeDiff,Nat.reduceLT,Nat.reduceSub,dU,aR,aX,cC,dJ,gR,bne_iff_ne,ne_eq,not_false_eq_true,not_true_eq_false,VX,Nat.reduceEqDiff,Nat.reduceAdd]
      exact aG rfl
   ·rw[if_neg (fun h=>hl (by omega))]
    simp only[jQ,gJ,e1,e2,hl,qS,jM,ne_eq,not_false_eq_true,decide_true,bO,dB,gO,aK,aU,aQ,fD,Nat.reduceLeDiff,Nat.reduceLT,Nat.reduceSub,dU,aR,aX,cC,dJ,gR,bne_iff_ne,ne_eq,not_false_eq_true,not_true_eq_false,VX,Nat.reduceEqDiff,Nat.reduceAdd]
    exact aG rfl
end Go.PM
namespace Go.PM
def jK:aD:=(LS [LO 3 (.box (LT 0)),LO 6 (.mv LF)] (LS [LO 7 (.mv (LI 1000000))] (LS [LO 16 (.load true 1 (LT 3)),LM 17 7,LO 18 (.call 58 [(LT 16),(LT 17)]),LM 7 18] (.seq (LS [LM 19 7,LO 20 (.bin .lss (LT 19) (LI 0))] (.cond (LT 20) (LS [LO 6 (.mv LG)] .ret) .skip)) (LS [LM 21 1,LM 22 7,LO 23 (.call 41 [(LT 21),(LT 22)]),LM 7 23] (.seq (LS [LM 24 7,LO 25 (.bin .lss (LT 24) (LI 0))] (.cond (LT 25) (LS [LO 6 (.mv LG)] .ret) .skip)) (LS [LO 27 (.load true 1 (LT 3)),LO 28 (.call 60 [(LT 27),LF]),LM 29 1,LO 30 (.call 43 [(LT 29),LF]),LM 31 2,LO 32 (.call 59 [(LT 28),(LT 30),(LT 31)]),LM 26 32,LO 33 (LX 26 0),LO 34 (LX 26 1),LM 8 33,LM 9 34] (LS [LO 35 (.load true 1 (LT 3)),LO 36 (.call 60 [(LT 35),LF]),LO 10 (.new [(.slice none 0 0)]),LN (.store 1 (LT 10) (LT 36))] (LS [LM 37 1,LO 38 (.call 43 [(LT 37),LF]),LM 11 38] (LS [LO 40 (.load true 1 (LT 10)),LM 41 11,LM 42 2,LO 43 (.call 61 [(LT 40),(LT 41),(LT 42)]),LM 39 43,LO 44 (LX 39 0),LO 45 (LX 39 1),LM 12 44,LM 13 45] (.seq (LS [LM 46 12,LM 47 8,LO 48 (.bin .neq (LT 46) (LT 47)),LM 49 48,LZ 49 50 (.mv (LT 13)),LZ 49 51 (.mv (LT 9)),LZ 49 52 (.eqb true (LT 50) (LT 51)),LO 53 (.pick (LT 49) LG (LT 52))] (.cond (LT 53) (LS [LO 6 (.mv LF)] .ret) .skip)) (.seq (LS [LO 54 (.load true 1 (LT 10)),LO 55 (.load true 1 (LT 3)),LQ 56 (.call 60 [(LT 55),LF]),LQ 57 (.call 62 [(LT 54),(LT 56)]),LO 58 (.un .not (LT 57))] (.cond (LT 58) (LS [LO 6 (.mv LF)] .ret) .skip)) (.seq (LS [LM 59 11,LM 60 1,LO 61 (.call 43 [(LT 60),LF]),LO 62 (.call 45 [(LT 59),(LT 61)]),LO 63 (.un .not (LT 62))] (.cond (LT 63) (LS [LO 6 (.mv LF)] .ret) .skip)) (LS [LO 65 (.load true 1 (LT 3)),LO 66 (.call 60 [(LT 65),LG]),LM 67 1,LO 68 (.call 43 [(LT 67),LG]),LM 69 2,LO 70 (.call 61 [(LT 66),(LT 68),(LT 69)]),LM 64 70,LO 71 (LX 64 0),LO 72 (LX 64 1),LM 14 71,LM 15 72] (.seq (LS [LM 73 14,LM 74 8,LO 75 (.bin .neq (LT 73) (LT 74)),LM 76 75,LZ 76 77 (.mv (LT 15)),LZ 76 78 (.mv (LT 9)),LZ 76 79 (.eqb true (LT 77) (LT 78)),LO 80 (.pick (LT 76) LG (LT 79))] (.cond (LT 80) (LS [LO 6 (.mv LF)] .ret) .skip)) (LS [LO 6 (.mv LG)] .ret))))))))))))))))
def kT:aV:=⟨81,[(.tmp 6)],jK⟩
theorem BM:gT 11=some kT:=by kernel_rfl
end Go.PM
namespace Go.PM
end Go.PM
namespace Go.PM
def ID (cs:List fO) (i:Nat):Int:=((cs[i]?).map (·.t)).getD 0
def VH (cs:List fO) (i:Nat):Int:=((cs[i]?).map (·.w)).getD 0
def klC (cs:List fO) (i:Nat):Int:=((cs[i]?).map (·.k)).getD 0
def Gf (st:List Int) (i:Nat):Int:=(st[i]?).getD 0
theorem Tc {cs:List fO} {i:Nat} {x:fO} (h:cs[i]? = some x):ID cs i=x.t:=by simp[ID,h]
theorem agN {cs:List fO} {i:Nat} {x:fO} (h:cs[i]? = some x):VH cs i=x.w:=by simp[VH,h]
theorem Yq {st:List Int} {i:Nat} {x:Int} (h:st[i]? = some x):Gf st i=x:=by simp[Gf,h]
def inS (cs:List fO) (st:List Int) (t:Int) (i:Nat):Bool:=decide (0≤Gf st i)&&decide (Gf st i≤t)&&decide (t<Gf st i+VH cs i)
def bz (cs:List fO) (st:List Int) (t:Int):Nat:=(List.range cs.length).countP (inS cs st t)
def isW (cs:List fO) (st:List Int) (t:Int) (i:Nat):Bool:=decide (Gf st i<0)&&decide (ID cs i≤t)
def wt (cs:List fO) (st:List Int) (t:Int):List Nat:=(List.range cs.length).filter (isW cs st t)
def I4 (bL:Int) (cs:List fO) (i k:Nat):Bool :=
 if bL=1 then true else if bL=2 then decide (VH cs i<VH cs k) else if bL=3 then decide (klC cs i<klC cs k) else false
def zN (bL:Int) (cs:List fO) (b:Option Nat) (i:Nat):Option Nat:=match b with
 | none=>some i
 | some k=>if I4 bL cs i k then some i else some k
def nxt (bL:Int) (cs:List fO) (st:List Int) (t:Int):Option Nat:=(wt cs st t).foldl (zN bL cs) none
def fill (bL lI:Int) (cs:List fO) (t:Int):Nat→List Int→List Int
 | 0,st=>st
 |
  n+1,st=>if (bz cs st t:Int)<lI then (match nxt bL cs st t with
  | none=>st
  | some k=>fill bL lI cs t n (st.set k t)) else st
def full (bL lI:Int) (cs:List fO) (st:List Int) (t:Int):Prop:=lI≤(bz cs st t:Int)∨nxt bL cs st t=none
def runT (bL lI:Int) (cs:List fO):Int→Nat→List Int→List Int
 | _,0,st=>st
 | t,n+1,st=>runT bL lI cs (t+1) n (fill bL lI cs t cs.length st)
def stL (bL lI:Int) (cs:List fO):List Int:=runT bL lI cs 0 100000 (List.replicate cs.length (-1))
section
variable {bL lI:Int} {cs:List fO} {st:List Int} {t:Int}
theorem wT (h:full bL lI cs st t) (n:Nat):fill bL lI cs t n st=st:=by
 cases n with
 | zero=>rfl
 |
  succ n =>
  rw[fill]
  rcases h with h | h
  ·rw[if_neg (by omega)]
  ·split
   ·rw[h]
   ·rfl
theorem MT (m:Nat):∀(t:Int) (n:Nat),(∀u,t≤u→u<t+m→full bL lI cs st u)→m≤n→runT bL lI cs t n st=runT bL lI cs (t+m) (n-m) st:=by
 induction m with
 | zero=>intro t n _ _;simp
 |
  succ m ih =>
  intro t n h hm
  obtain⟨n,rfl⟩:∃k,n=k+1:=⟨n-1,by omega⟩
  rw[runT,wT (h t (Int.le_refl _) (by omega)),ih (t+1) n (fun u h1 h2=>h u (by omega) (by omega)) (by omega)]
  congr 1
  ·omega
  ·omega
theorem V6 (n:Nat):∀(t:Int),(∀u,t≤u→full bL lI cs st u)→runT bL lI cs t n st=st:=by
 intro t h
 rw[MT n t n (fun u h1 _=>h u h1) (Nat.le_refl _),Nat.sub_self]
 rfl
theorem TE {a b:Int} (ha:0≤a) (E6:a≤b) (hb:b≤100000) (h:∀u,a≤u→u<b→full bL lI cs st u):runT bL lI cs a (100000-a).toNat st=runT bL lI cs b (100000-b).toNat st:=by
 rw[MT (b-a).toNat a _ (fun u h1 h2=>h u h1 (by omega)) (by omega)]
 congr 1
 ·omega
 ·omega
theorem Zh {a:Int} (ha:0≤a) (hb:a<100000):runT bL lI cs a (100000-a).toNat st=runT bL lI cs (a+1) (100000-(a+1)).toNat (fill bL lI cs a cs.length st):=by
 rw[show (100000-a).toNat=(100000-(a+1)).toNat+1 by omega,runT]
theorem Nt {ws:List Nat} {k:Nat}:∃j,(ws.foldl (zN bL cs) (some k))=some j∧(j=k∨j∈ws):=by
 induction ws generalizing k with
 | nil=>exact⟨k,rfl,.inl rfl⟩
 |
  cons i ws ih =>
  rw[List.foldl_cons]
  have:∃q,zN bL cs (some k) i=some q∧(q=k∨q=i):=by
   unfold zN
   simp only
   split
   ·exact⟨i,rfl,.inr rfl⟩
   ·exact⟨k,rfl,.inl rfl⟩
  obtain⟨q,hq,hqq⟩:=this
  rw[hq]
  obtain⟨j,h1,h2⟩:=ih (k:=q)
  refine⟨j,h1,?_⟩
  rcases h2 with rfl | h2
  ·rcases hqq with rfl | rfl
   ·exact .inl rfl
   ·exact .inr List.mem_cons_self
  ·exact .inr (List.mem_cons_of_mem _ h2)
theorem yM:nxt bL cs st t=none↔wt cs st t=[]:=by
 unfold nxt
 cases h:wt cs st t with
 | nil=>exact⟨fun _=>rfl,fun _=>rfl⟩
 |
  cons i ws =>
  refine⟨fun h2 => ?_,fun h2=>(by cases h2)⟩
  rw[List.foldl_cons] at h2
  obtain⟨j,h3,_⟩:=Nt (bL:=bL) (cs:=cs) (ws:=ws) (k:=i)
  rw[show zN bL cs none i=some i from rfl,h3] at h2
  cases h2
theorem Oe {k:Nat} (h:nxt bL cs st t=some k):k∈wt cs st t:=by
 unfold nxt at h
 cases hw:wt cs st t with
 | nil=>rw[hw] at h;cases h
 |
  cons i ws =>
  rw[hw,List.foldl_cons] at h
  obtain⟨j,h3,h4⟩:=Nt (bL:=bL) (cs:=cs) (ws:=ws) (k:=i)
  rw[show zN bL cs none i=some i from rfl,h3] at h
  injection h with h
  subst h
  rcases h4 with rfl | h4
  ·exact List.mem_cons_self
  ·exact List.mem_cons_of_mem _ h4
theorem GJ {k:Nat}:k∈wt cs st t↔k<cs.length∧Gf st k<0∧ID cs k≤t:=by
 simp[wt,isW]
theorem Zr:(wt cs st t).Nodup:=List.Pairwise.filter _ List.nodup_range
theorem Gl {k i:Nat} (hk:k<st.length):Gf (st.set k t) i=if i=k then t else Gf st i:=by
 unfold Gf
 rw[List.getElem?_set]
 by_cases h:i=k
 ·subst h
  simp[hk]
 ·rw[if_neg (fun h'=>h h'.symm),if_neg h]
theorem Oa {p q:Nat→Bool} {k:Nat} (hp:p k=false) (h:∀i,i≠k→q i=p i):∀n,(List.range n).countP q=(List.range n).countP p+if k<n∧q k=true then 1 else 0:=by
 intro n
 induction n with
 | zero=>simp
 |
  succ n ih =>
  rw[List.range_succ,List.countP_append,List.countP_append,ih]
  by_cases hk:n=k
  ·subst hk
   simp only[List.countP_singleton,hp]
   cases hq:q n<;>simp
  ·rw[List.countP_singleton,List.countP_singleton,h n hk]
   have:(k<n+1∧q k=true)↔(k<n∧q k=true):=by
    constructor
    ·rintro⟨h1,h2⟩;exact⟨by omega,h2⟩
    ·rintro⟨h1,h2⟩;exact⟨by omega,h2⟩
   simp only[this]
   omega
theorem aiQ {k:Nat} {u:Int} (hk:k<cs.length) (hl:st.length=cs.length) (hs:Gf st k<0) (h0:0≤t):bz cs (st.set k t) u=bz cs st u+if t≤u∧u<t+VH cs k then 1 else 0:=by
 unfold bz
 rw[Oa (p:=inS cs st u) (q:=inS cs (st.set k t) u) (k:=k)]
 ·congr 1
  have:(k<cs.length∧inS cs (st.set k t) u k=true)↔(t≤u∧u<t+VH cs k):=by
   simp only[inS,Gl (t:=t) (i:=k) (by omega:k<st.length),if_true,Bool.and_eq_true,decide_eq_true_eq]
   constructor
   ·rintro⟨_,⟨_,h1⟩,h2⟩;exact⟨h1,h2⟩
   ·rintro⟨h1,h2⟩;exact⟨hk,⟨h0,h1⟩,h2⟩
  simp only[this]
 ·simp only[inS]
  rw[decide_eq_false (by omega)]
  rfl
 ·intro i hi
  simp only[inS,Gl (t:=t) (i:=i) (by omega:k<st.length),if_neg hi]
theorem ajJ {k:Nat} {u:Int} (hl:st.length=cs.length) (hk:k<cs.length) (h0:0≤t):wt cs (st.set k t) u=(wt cs st u).filter (· != k):=by
 unfold wt
 rw[List.filter_filter]
 refine List.filter_congr fun i hi => ?_
 simp only[isW,Gl (t:=t) (i:=i) (by omega:k<st.length)]
 by_cases h:i=k
 ·subst h
  simp
  omega
 ·simp[h]
def EI (st:List Int):Nat:=st.countP (fun s=>decide (s<0))
theorem Az {k:Nat} (hk:k<st.length) (hs:Gf st k<0) (h0:0≤t):EI (st.set k t)+1=EI st:=by
 unfold EI
 rw[List.countP_set hk]
 have hx:st[k]=Gf st k:=by
  rw[Yq (x:=st[k]) (List.getElem?_eq_getElem hk)]
 have h1:decide (st[k]<0)=true:=by rw[hx];exact decide_eq_true hs
 have h2:decide (t<0)=false:=decide_eq_false (by omega)
 have h3:0<st.countP (fun s=>decide (s<0)):=by
  rw[List.countP_pos_iff]
  exact⟨st[k],List.getElem_mem hk,h1⟩
 simp only[h1,h2,if_true,Bool.false_eq_true,if_false]
 omega
theorem Vq (hl:st.length=cs.length) (h0:0≤t):∀(n m:Nat),EI st≤n→EI st≤m→fill bL lI cs t n st=fill bL lI cs t m st:=by
 intro n
 induction n generalizing st with
 |
  zero =>
  intro m hn hm
  have hf:full bL lI cs st t:=by
   right
   rw[yM]
   cases hw:wt cs st t with
   | nil=>rfl
   |
    cons i ws =>
    have h1:i∈wt cs st t:=by rw[hw];exact List.mem_cons_self
    obtain⟨h2,h3,_⟩:=GJ.1 h1
    have:=Az (t:=t) (by omega:i<st.length) h3 h0
    omega
  rw[wT hf,wT hf]
 |
  succ n ih =>
  intro m hn hm
  cases m with
  |
   zero =>
   have hf:full bL lI cs st t:=by
    right
    rw[yM]
    cases hw:wt cs st t with
    | nil=>rfl
    |
     cons i ws =>
     have h1:i∈wt cs st t:=by rw[hw];exact List.mem_cons_self
     obtain⟨h2,h3,_⟩:=GJ.1 h1
     have:=Az (t:=t) (by omega:i<st.length) h3 h0
     omega
   rw[wT hf,wT hf]
  |
   succ m =>
   rw[fill,fill]
   split
   ·split
    ·rfl
    ·rename_i k hk
     obtain⟨h2,h3,_⟩:=GJ.1 (Oe hk)
     have:=Az (t:=t) (by omega:k<st.length) h3 h0
     exact ih (by simp[hl]) m (by omega) (by omega)
   ·rfl
theorem Ut:EI st≤st.length:=List.countP_le_length
theorem W1 {k:Nat} (hl:st.length=cs.length) (h0:0≤t) (hb:(bz cs st t:Int)<lI) (hk:nxt bL cs st t=some k):fill bL lI cs t cs.length (st.set k t)=fill bL lI cs t cs.length st:=by
 obtain⟨h2,h3,_⟩:=GJ.1 (Oe hk)
 have h4:=Az (t:=t) (by omega:k<st.length) h3 h0
 have h5:=Ut (st:=st)
 rw[Vq (st:=st) hl h0 cs.length (cs.length+1) (by omega) (by omega)]
 conv=>rhs;rw[fill,if_pos hb,hk]
def evT (cs:List fO) (st:List Int) (i:Nat):Int:=if 0≤Gf st i then Gf st i+VH cs i else ID cs i
def aiO (cs:List fO) (st:List Int) (t:Int) (b:Int) (i:Nat):Int:=if t<evT cs st i∧(b<0∨evT cs st i<b) then evT cs st i else b
def later (cs:List fO) (st:List Int) (t:Int):Int:=(List.range cs.length).foldl (aiO cs st t) (-1)
structure Way (cs:List fO) (st:List Int) (t:Int):Prop where
 len:st.length=cs.length
 low:∀i,i<cs.length → -1≤Gf st i
 high:∀i,i<cs.length→Gf st i≤t
 bd:∀i,i<cs.length→Gf st i+1000*(EI st:Int)≤10000+1000*(cs.length:Int)
 tm:0≤t∧t+1000*(EI st:Int)≤11000+1000*(cs.length:Int)
theorem Way.set {k:Nat} (h:Way cs st t) (hk:k<cs.length) (hs:Gf st k<0):Way cs (st.set k t) t:=by
 have hl:=h.len
 have W8:=h.tm
 have h4:=Az (t:=t) (by omega:k<st.length) hs W8.1
 refine⟨by simp[hl],fun i hi => ?_,fun i hi => ?_,fun i hi => ?_,W8.1,by omega⟩
 all_goals rw[Gl (by omega:k<st.length)]
 ·have:=h.low i hi
  split<;>omega
 ·have:=h.high i hi
  split<;>omega
 ·have:=h.bd i hi
  split<;>omega
theorem Way.le (h:Way cs st t) (hc:kC cs):t≤35000∧∀i,i<cs.length→Gf st i≤34000:=by
 have hlen:=hc.2
 have W8:=h.tm
 refine⟨by omega,fun i hi => ?_⟩
 have:=h.bd i hi
 omega
theorem kC.bnd (hc:kC cs) {i:Nat} (hi:i<cs.length):(0≤ID cs i∧ID cs i≤10000)∧(1≤VH cs i∧VH cs i≤1000):=by
 have hx:cs[i]? = some cs[i]:=List.getElem?_eq_getElem hi
 have:=hc.at hx
 rw[Tc hx,agN hx]
 exact⟨this.1,this.2.1⟩
def F2 (bL:Int) (cs:List fO) (ws:List Nat):Nat :=
 if bL=1 then ws.length-1 else if bL=2∨bL=3 then (List.range ws.length).foldl (fun b k=>if I4 bL cs (ws.getD k 0) (ws.getD b 0) then k else b) 0 else 0
theorem SD {ws:List Nat} {k:Nat} (h:∀i j,I4 bL cs i j=false):ws.foldl (zN bL cs) (some k)=some k:=by
 induction ws with
 | nil=>rfl
 |
  cons i ws ih =>
  rw[List.foldl_cons]
  have:zN bL cs (some k) i=some k:=by
   unfold zN
   simp only[h]
   rfl
  rw[this,ih]
theorem ZQ {ws:List Nat} (fR:ws≠[]) (hr:0≤bL∧bL≤3):F2 bL cs ws<ws.length∧ws[F2 bL cs ws]? = ws.foldl (zN bL cs) none:=by
 have hlen:0<ws.length:=List.length_pos_iff.2 fR
 unfold F2
 by_cases h1:bL=1
 ·rw[if_pos h1]
  rcases List.eq_nil_or_concat ws with rfl | ⟨xs,y,rfl⟩
  ·exact absurd rfl fR
  ·rw[List.concat_eq_append,List.foldl_append]
   refine⟨by simp,?_⟩
   simp only[List.length_append,List.length_cons,List.length_nil,Nat.zero_add,Nat.add_sub_cancel,List.foldl_cons,List.foldl_nil]
   rw[List.getElem?_append_right (Nat.le_refl _),Nat.sub_self]
   unfold zN
   split
   ·rfl
   ·simp only[I4,if_pos h1,if_true]
    rfl
 ·rw[if_neg h1]
  by_cases h2:bL=2∨bL=3
  ·rw[if_pos h2]
   have arY:∀i,I4 bL cs i i=false:=fun i=>by
    unfold I4
    rw[if_neg h1]
    split
    ·exact decide_eq_false (by omega)
    ·split
     ·exact decide_eq_false (by omega)
     ·rfl
   have key:∀n,n<ws.length→(List.range (n+1)).foldl (fun b k=>if I4 bL cs (ws.getD k 0) (ws.getD b 0) then k else b) 0<ws.length ∧
     ws[(List.range (n+1)).foldl (fun b k=>if I4 bL cs (ws.getD k 0) (ws.getD b 0) then k else b) 0]? = (ws.take (n+1)).foldl (zN bL cs) none:=by
    intro n
    induction n with
    |
     zero =>
     intro _
     have:(List.range (0+1)).foldl (fun b k=>if I4 bL cs (ws.getD k 0) (ws.getD b 0) then k else b) 0=0:=by
      simp[List.range_succ,arY]
     rw[this]
     refine⟨hlen,?_⟩
     cases ws with
     | nil=>exact absurd rfl fR
     | cons i ws=>rfl
    |
     succ n ih =>
     intro hn
     obtain⟨g1,g2⟩:=ih (by omega)
     rw[List.range_succ,List.foldl_append,List.foldl_cons,List.foldl_nil]
     generalize (List.range (n+1)).foldl (fun b k=>if I4 bL cs (ws.getD k 0) (ws.getD b 0) then k else b) 0=b at *
     obtain⟨x,hx⟩:∃x,ws[n+1]? = some x:=⟨_,List.getElem?_eq_getElem hn⟩
     obtain⟨y,hy⟩:∃y,ws[b]? = some y:=⟨_,List.getElem?_eq_getElem g1⟩
     rw[List.take_add_one,hx,List.foldl_append,←g2,hy]
     simp only[Option.toList_some,List.foldl_cons,List.foldl_nil,List.getD_eq_getElem?_getD,hx,hy,Option.getD_some,zN]
     split
     ·exact⟨hn,hx⟩
     ·exact⟨g1,hy⟩
   have:=key (ws.length-1) (by omega)
   rw[show ws.length-1+1=ws.length by omega,List.take_of_length_le (Nat.le_refl _)] at this
   exact this
  ·rw[if_neg h2]
   refine⟨hlen,?_⟩
   have hb:∀i j,I4 bL cs i j=false:=fun i j=>by
    unfold I4
    rw[if_neg h1,if_neg (by omega),if_neg (by omega)]
   cases ws with
   | nil=>exact absurd rfl fR
   |
    cons i ws =>
    rw[List.foldl_cons,show zN bL cs none i=some i from rfl,SD hb]
    rfl
end
end Go.PM
namespace Go.PM
def Kn (st:List Int) (i:Nat):Bool:=decide (Gf st i<0)
def gtB (u e:Int):Bool:=decide (u<e)
section
variable {bL lI:Int} {cs:List fO} {st:List Int} {t:Int}
theorem kC.sorted (hc:kC cs):∀ {i j:Nat},i≤j→j<cs.length→ID cs i≤ID cs j:=by
 intro i j So hj
 induction j with
 |
  zero =>
  have:i=0:=by omega
  subst this
  exact Int.le_refl _
 |
  succ j ih =>
  rcases Nat.lt_or_ge i (j+1) with h | h
  ·have h1:=ih (by omega) (by omega)
   have hx:cs[j+1]? = some cs[j+1]:=List.getElem?_eq_getElem hj
   have hy:cs[j]? = some cs[j]:=List.getElem?_eq_getElem (by omega)
   have h2:=(hc.1 (j+1) _ hx).2 _ (by omega) (by rw[Nat.add_sub_cancel];exact hy)
   rw[Tc hx]
   rw[Tc hy] at h1
   omega
  ·have:i=j+1:=by omega
   subst this
   exact Int.le_refl _
theorem Dl {bN:Nat} (adZ:bN≤cs.length) (past:∀i,i<bN→ID cs i≤t) (fut:∀i,bN≤i→i<cs.length→t<ID cs i):wt cs st t=(List.range bN).filter (Kn st):=by
 unfold wt
 rw[show cs.length=bN+(cs.length-bN) by omega,List.range_add,List.filter_append]
 have h1:(List.range bN).filter (isW cs st t)=(List.range bN).filter (Kn st):=by
  refine List.filter_congr fun i hi => ?_
  rw[List.mem_range] at hi
  simp[isW,Kn,past i hi]
 have h2:((List.range (cs.length-bN)).map fun x=>bN+x).filter (isW cs st t)=[]:=by
  rw[List.filter_eq_nil_iff]
  intro i hi
  obtain⟨j,hj,rfl⟩:=List.mem_map.1 hi
  rw[List.mem_range] at hj
  have:=fut (bN+j) (by omega) (by omega)
  simp only[isW,Bool.and_eq_true,decide_eq_true_eq]
  omega
 rw[h1,h2,List.append_nil]
structure Ja (bL lI:Int) (cs:List fO) (st:List Int) (t:Int) (bN:Nat) (ws:List Nat) (ends:List Int):Prop where
 len:st.length=cs.length
 low:∀i,i<cs.length → -1≤Gf st i
 high:∀i,i<cs.length→Gf st i≤t
 bd:∀i,i<cs.length→Gf st i+1000*(EI st:Int)≤10000+1000*(cs.length:Int)
 tm : -1≤t
 Lq:bN≤cs.length
 past:∀i,i<bN→ID cs i≤t
 fut:∀i,bN≤i→i<cs.length→t<ID cs i∧Gf st i<0
 WG:ws=wt cs st t
 cnt:∀u,t≤u→ends.countP (gtB u)=bz cs st u
 ef:∀e∈ends,t<e
 eb:∀e∈ends,e+1000*(EI st:Int)≤11000+1000*(cs.length:Int)
 fl:full bL lI cs st t
 room:ws.length+ends.length≤bN
 es:(ends.length:Int)≤lI
 run:runT bL lI cs (t+1) (100000-(t+1)).toNat st=stL bL lI cs
theorem FZ {n i:Nat} (h:i<n):Gf (List.replicate n (-1)) i = -1:=Yq (by rw[List.getElem?_replicate,if_pos h])
theorem Ja.start (hc:kC cs) (hs:1≤lI):Ja bL lI cs (List.replicate cs.length (-1)) (-1) 0 [] []:=by
 have hw:wt cs (List.replicate cs.length (-1)) (-1)=[]:=by
  rw[Dl (Nat.zero_le _) (fun i hi=>by omega) fun i _ hi=>by have:=hc.bnd hi;omega]
  rfl
 have hu:EI (List.replicate cs.length (-1))=cs.length:=by simp[EI,List.countP_replicate]
 refine⟨by simp,fun i hi=>by rw[FZ hi];decide,fun i hi=>by rw[FZ hi];decide,fun i hi=>by rw[FZ hi,hu];omega,by decide,Nat.zero_le _,fun i hi=>by omega,fun i _ hi=>⟨by have:=hc.bnd hi;omega,by rw[FZ hi];decide⟩,hw.symm,fun u _ => ?_,fun e he=>(by cases he),fun e he=>(by cases he),.inr (yM.2 hw),Nat.le_refl _,by simp;omega,rfl⟩
 unfold bz
 rw[(List.countP_eq_zero (p:=inS cs (List.replicate cs.length (-1)) u)).2]
 ·rfl
 ·intro i hi
  rw[List.mem_range] at hi
  simp only[inS,FZ hi,Bool.and_eq_true,decide_eq_true_eq]
  omega
def OZ (w:Bool) (b e:Int):Int:=if b<0∨(w=true∧e<b) then e else b
theorem ajD {es:List Int} {b:Int} (h:0≤b):es.foldl (OZ false) b=b:=by
 induction es with
 | nil=>rfl
 |
  cons e es ih =>
  rw[List.foldl_cons]
  have:OZ false b e=b:=by
   unfold OZ
   rw[if_neg (by simp;omega)]
  rw[this,ih]
theorem aeL:∀ {es:List Int} {b:Int},(∀e∈es,0≤e)→(es.foldl (OZ true) b=b∨es.foldl (OZ true) b∈es)∧(∀e∈es,es.foldl (OZ true) b≤e)∧(0≤b→es.foldl (OZ true) b≤b)∧(es≠[]→0≤es.foldl (OZ true) b)
 | [],b,_=>⟨.inl rfl,fun e he=>(by cases he),fun _=>Int.le_refl _,fun h=>absurd rfl h⟩
 |
  e::es,b,h=>by
  rw[List.foldl_cons]
  have h1:=h e List.mem_cons_self
  have h2:∀e'∈es,0≤e':=fun e' he=>h e' (List.mem_cons_of_mem _ he)
  have hm:(OZ true b e=b∨OZ true b e=e)∧OZ true b e≤e∧(0≤b→OZ true b e≤b)∧0≤OZ true b e:=by
   unfold OZ
   by_cases hc:b<0∨(true=true∧e<b)
   ·rw[if_pos hc]
    refine⟨.inr rfl,Int.le_refl _,fun hb => ?_,h1⟩
    rcases hc with hc | hc<;>omega
   ·rw[if_neg hc]
    simp at hc
    exact⟨.inl rfl,hc.2,fun _=>Int.le_refl _,hc.1⟩
  obtain⟨m1,m2,m3,m4⟩:=hm
  obtain⟨g1,g2,g3,g4⟩:=aeL (es:=es) (b:=OZ true b e) h2
  have g3:=g3 m4
  refine⟨?_,?_,fun hb=>by have:=m3 hb;omega,fun _ => ?_⟩
  ·rcases g1 with g1 | g1
   ·rw[g1]
    rcases m1 with m1 | m1
    ·exact .inl m1
    ·rw[m1];exact .inr List.mem_cons_self
   ·exact .inr (List.mem_cons_of_mem _ g1)
  ·intro e' he
   rcases List.mem_cons.1 he with rfl | he
   ·omega
   ·exact g2 e' he
  ·rcases g1 with g1 | g1
   ·rw[g1];exact m4
   ·exact h2 _ g1
def NN (cs:List fO) (bN:Nat):Int:=if bN<cs.length then ID cs bN else -1
def Fj (cs:List fO) (bN:Nat) (ws:List Nat) (ends:List Int):Int:=ends.foldl (OZ (decide (0<ws.length))) (NN cs bN)
theorem Ja.Zl {bN:Nat} {ws:List Nat} {ends:List Int} (h:Ja bL lI cs st t bN ws ends):ends.length=bz cs st t:=by
 rw[←h.cnt t (Int.le_refl _),List.countP_eq_length.2]
 intro e he
 exact decide_eq_true (h.ef e he)
theorem Ja.time {bN:Nat} {ws:List Nat} {ends:List Int} (h:Ja bL lI cs st t bN ws ends) (hc:kC cs) (hs:1≤lI) (hg:bN<cs.length∨0<ws.length) :
  (t<Fj cs bN ws ends∧Fj cs bN ws ends+1000*(EI st:Int)≤11000+1000*(cs.length:Int))∧(∀i,bN≤i→i<cs.length→Fj cs bN ws ends≤ID cs i) ∧
   (bN<cs.length∧ID cs bN=Fj cs bN ws ends∨0<ws.length∧Fj cs bN ws ends∈ends)∧runT bL lI cs (Fj cs bN ws ends) (100000-Fj cs bN ws ends).toNat st=stL bL lI cs:=by
 have W8:=h.tm
 have OX:=Ut (st:=st)
 have hlen:=h.len
 have he0:∀e∈ends,0≤e:=fun e he=>by have:=h.ef e he;omega
 have auG:=hc.2
 by_cases hw:0<ws.length
 ·have hbz:lI≤(bz cs st t:Int):=by
   rcases h.fl with hf | hf
   ·exact hf
   ·rw[yM,←h.WG] at hf
    rw[hf] at hw
    simp at hw
  have fR:ends≠[]:=by
   intro he
   have:=h.Zl
   rw[he] at this
   simp at this
   omega
  obtain⟨g1,g2,g3,g4⟩:=aeL (es:=ends) (b:=NN cs bN) he0
  have Wa:Fj cs bN ws ends=ends.foldl (OZ true) (NN cs bN):=by unfold Fj;rw[decide_eq_true hw]
  rw[Wa]
  generalize ends.foldl (OZ true) (NN cs bN)=w at *
  have g4:=g4 fR
  have KW:(bN<cs.length∧ID cs bN=w)∨w∈ends:=by
   rcases g1 with g1 | g1
   ·unfold NN at g1
    split at g1
    ·rename_i kX
     exact .inl ⟨kX,g1.symm⟩
    ·omega
   ·exact .inr g1
  have htw:t<w∧w+1000*(EI st:Int)≤11000+1000*(cs.length:Int):=by
   rcases KW with⟨h1,h2⟩ | h1
   ·have:=h.fut bN (Nat.le_refl _) h1
    have:=hc.bnd h1
    omega
   ·exact⟨h.ef _ h1,h.eb _ h1⟩
  refine⟨htw,fun i h1 h2 => ?_,KW.imp id fun h1=>⟨hw,h1⟩,?_⟩
  ·have h3:=hc.sorted h1 h2
   have h4:=hc.bnd (i:=bN) (by omega)
   have h5:NN cs bN=ID cs bN:=by unfold NN;rw[if_pos (by omega)]
   have:=g3 (by rw[h5];omega)
   omega
  ·rw[←h.run]
   refine(TE (by omega) (by omega) (by omega) fun u h1 h2 => .inl ?_).symm
   rw[←h.cnt u (by omega),(List.countP_eq_length (p:=gtB u)).2 fun e he=>decide_eq_true (by have:=g2 e he;omega),h.Zl]
   exact hbz
 ·have kX:bN<cs.length:=by omega
  have h5:NN cs bN=ID cs bN:=by unfold NN;rw[if_pos kX]
  have h4:=hc.bnd kX
  have hf:=(h.fut bN (Nat.le_refl _) kX).1
  have Wa:Fj cs bN ws ends=ID cs bN:=by unfold Fj;rw[decide_eq_false hw,ajD (by rw[h5];omega),h5]
  rw[Wa]
  refine⟨⟨hf,by omega⟩,fun i h1 h2=>hc.sorted h1 h2,.inl ⟨kX,rfl⟩,?_⟩
  rw[←h.run]
  refine(TE (by omega) (by omega) (by omega) fun u h1 h2 => .inr ?_).symm
  rw[yM,Dl h.Lq (fun i hi=>by have:=h.past i hi;omega) fun i h3 h4=>by have:=hc.sorted h3 h4;omega]
  have e1:=Dl (st:=st) h.Lq h.past fun i h3 h4=>(h.fut i h3 h4).1
  rw[←e1,←h.WG]
  exact List.eq_nil_of_length_eq_zero (by omega)
theorem Ja.done {bN:Nat} {ws:List Nat} {ends:List Int} (h:Ja bL lI cs st t bN ws ends) (adZ:¬bN<cs.length) (hw:¬0<ws.length):st=stL bL lI cs:=by
 rw[←h.run]
 refine(V6 _ _ fun u hu => .inr ?_).symm
 have kX:=h.Lq
 have e1:=Dl (st:=st) h.Lq h.past fun i h3 h4=>(h.fut i h3 h4).1
 rw[yM,Dl h.Lq (fun i hi=>by have:=h.past i hi;omega) fun i h3 h4=>by omega,←e1,←h.WG]
 exact List.eq_nil_of_length_eq_zero (by omega)
structure Ph4 (bL lI:Int) (cs:List fO) (st0:List Int) (now:Int) (bN tot:Nat) (st:List Int) (ws:List Nat) (ends:List Int):Prop where
 V5:Way cs st now
 WG:ws=wt cs st now
 cnt:∀u,now≤u→ends.countP (gtB u)=bz cs st u
 ef:∀e∈ends,now<e
 eb:∀e∈ends,e+1000*(EI st:Int)≤11000+1000*(cs.length:Int)
 fl:fill bL lI cs now cs.length st=fill bL lI cs now cs.length st0
 past:∀i,i<bN→ID cs i≤now
 fut:∀i,bN≤i→i<cs.length→now<ID cs i∧Gf st i<0
 tot:ws.length+ends.length=tot
 es:(ends.length:Int)≤lI
theorem BV:∀ {l:List Nat} {i k:Nat},l.Nodup→l[i]? = some k→l.eraseIdx i=l.filter (· != k)
 | [],_,_,_,h=>by cases h
 |
  x::l,0,k,hn,h=>by
  injection h with h
  subst h
  rw[List.nodup_cons] at hn
  rw[List.eraseIdx_cons_zero,List.filter_cons_of_neg (by simp),List.filter_eq_self.2]
  intro y hy
  have:y≠x:=fun he=>hn.1 (he▸hy)
  simpa using this
 |
  x::l,i+1,k,hn,h=>by
  rw[List.nodup_cons] at hn
  rw[List.getElem?_cons_succ] at h
  have hx:x≠k:=fun he=>hn.1 (he▸List.mem_of_getElem? h)
  rw[List.eraseIdx_cons_succ,List.filter_cons_of_pos (by simpa using hx),BV hn.2 h]
theorem Ph4.step {now:Int} {st0:List Int} {bN tot:Nat} {ws:List Nat} {ends:List Int} (h:Ph4 bL lI cs st0 now bN tot st ws ends) (hc:kC cs) (hr:0≤bL∧bL≤3) (hb:(ends.length:Int)<lI) (fR:0<ws.length) :
  ∃k,ws[F2 bL cs ws]? = some k∧k<cs.length∧F2 bL cs ws<ws.length∧(0≤now∧now≤35000)∧Ph4 bL lI cs st0 now bN tot (st.set k now) (ws.eraseIdx (F2 bL cs ws)) (ends++[now+VH cs k]):=by
 have Vb:ws≠[]:=fun he=>by rw[he] at fR;simp at fR
 obtain⟨g1,g2⟩:=ZQ (cs:=cs) Vb hr
 obtain⟨k,hk⟩:∃k,ws[F2 bL cs ws]? = some k:=⟨_,List.getElem?_eq_getElem g1⟩
 have hnx:nxt bL cs st now=some k:=by
  unfold nxt
  rw[←h.WG,←g2,hk]
 obtain⟨m1,m2,m3⟩:=GJ.1 (Oe hnx)
 have W8:=h.V5.tm
 have hle:=(h.V5.le hc).1
 have hbz:(bz cs st now:Int)=ends.length:=by
  rw[←h.cnt now (Int.le_refl _),(List.countP_eq_length (p:=gtB now)).2 fun e he=>decide_eq_true (h.ef e he)]
 have Oh:k<st.length:=by rw[h.V5.len];exact m1
 have hus:=Az (t:=now) Oh m2 W8.1
 have hwk:=(hc.bnd m1).2
 refine⟨k,hk,m1,g1,⟨W8.1,hle⟩,h.V5.set m1 m2,?_,?_,?_,?_,?_,h.past,?_,?_,?_⟩
 ·rw[ajJ h.V5.len m1 W8.1,←h.WG]
  exact BV (by rw[h.WG];exact Zr) hk
 ·intro u hu
  rw[List.countP_append,h.cnt u hu,aiQ m1 h.V5.len m2 W8.1,List.countP_singleton]
  congr 1
  simp only[gtB,decide_eq_true_eq]
  by_cases hq:u<now+VH cs k
  ·rw[if_pos hq,if_pos ⟨hu,hq⟩]
  ·rw[if_neg hq,if_neg fun h'=>hq h'.2]
 ·intro e he
  rcases List.mem_append.1 he with he | he
  ·exact h.ef e he
  ·rw[List.mem_singleton] at he
   omega
 ·intro e he
  rcases List.mem_append.1 he with he | he
  ·have:=h.eb e he
   omega
  ·rw[List.mem_singleton] at he
   omega
 ·rw[W1 h.V5.len W8.1 (by rw[hbz];exact hb) hnx,h.fl]
 ·intro i h1 h2
  have h3:=h.fut i h1 h2
  refine⟨h3.1,?_⟩
  rw[Gl Oh,if_neg (fun he=>by subst he;omega)]
  exact h3.2
 ·rw[List.length_eraseIdx_of_lt g1,List.length_append,List.length_cons,List.length_nil]
  have:=h.tot
  omega
 ·rw[List.length_append,List.length_cons,List.length_nil]
  omega
theorem Ph4.done {now:Int} {st0:List Int} {bN tot:Nat} {ws:List Nat} {ends:List Int} (h:Ph4 bL lI cs st0 now bN tot st ws ends) (hc:kC cs) (kX:bN≤cs.length) (ht:tot≤bN) (hf:lI≤(ends.length:Int)∨ws=[])
  (hr:runT bL lI cs now (100000-now).toNat st0=stL bL lI cs):Ja bL lI cs st now bN ws ends:=by
 have W8:=h.V5.tm
 have hle:=(h.V5.le hc).1
 have hbz:(bz cs st now:Int)=ends.length:=by
  rw[←h.cnt now (Int.le_refl _),(List.countP_eq_length (p:=gtB now)).2 fun e he=>decide_eq_true (h.ef e he)]
 have afC:full bL lI cs st now:=by
  rcases hf with hf | hf
  ·exact .inl (by rw[hbz];exact hf)
  ·exact .inr (yM.2 (by rw[←h.WG];exact hf))
 refine⟨h.V5.len,h.V5.low,h.V5.high,h.V5.bd,by omega,kX,h.past,h.fut,h.WG,h.cnt,h.ef,h.eb,afC,by rw[h.tot];exact ht,h.es,?_⟩
 have h1:=wT afC cs.length
 rw[h.fl] at h1
 rw[Zh W8.1 (by omega),h1] at hr
 exact hr
end
end Go.PM
namespace Go.PM
end Go.PM
namespace Go.PM
section
variable {α:Type} {f:α→VV} {H:aA} {b g e lo:Nat} {X Y:List α}
end
end Go.PM
namespace Go.PM
def V8 (N:Nat) (hi:Int) (st:List (Nat×Int)):Prop:=∀p∈st,p.1<N∧1≤p.2∧p.2≤hi
theorem V8.cons {N:Nat} {hi:Int} {p:Nat×Int} {st:List (Nat×Int)} (h:V8 N hi (p::st)):(p.1<N∧1≤p.2∧p.2≤hi)∧V8 N hi st:=⟨h p List.mem_cons_self,fun q hq=>h q (List.mem_cons_of_mem _ hq)⟩
theorem V8.of {N:Nat} {hi:Int} {p:Nat×Int} {st:List (Nat×Int)} (hp:p.1<N∧1≤p.2∧p.2≤hi) (h:V8 N hi st):V8 N hi (p::st):=fun q hq=>by
 rcases List.mem_cons.1 hq with rfl | hq
 ·exact hp
 ·exact h q hq
end Go.PM
namespace Go.PM
structure axV (bL lI room:Int) (cs:List fO) where
 I:Nat→Nat→List Nat→List Int→List Int→Prop
 A:Nat→Int→Nat→List Nat→List Int→List Int→Prop
 S:Nat→Int→Nat→List Nat→List Int→List Int→Prop
 bI:∀ {m bN ws ends st},I m bN ws ends st→bN≤cs.length∧st.length=cs.length∧ws.length≤24∧ends.length≤24
 bA:∀ {m now bN ws ends st},A m now bN ws ends st→bN≤cs.length∧st.length=cs.length∧ws.length≤24∧ends.length≤24
 bS:∀ {m now bN ws ends st},S m now bN ws ends st→bN≤cs.length∧st.length=cs.length∧ws.length≤24∧ends.length≤24∧(∀i∈ws,i<cs.length)∧(0≤now∧now≤100000)
 start:∃m,I m 0 [] [] (List.replicate cs.length (-1))
 toA:∀ {m bN ws ends st},I m bN ws ends st→bN<cs.length∨0<ws.length→A m (Fj cs bN ws ends) bN ws (ends.filter (gtB (Fj cs bN ws ends))) st
 axW:∀ {m now bN ws ends st},A m now bN ws ends st→bN<cs.length→ID cs bN=now→A m now (bN+1) (if (ws.length:Int)+(ends.length:Int)<room then ws++[bN] else ws) ends st
 toS:∀ {m now bN ws ends st},A m now bN ws ends st→¬(bN<cs.length∧ID cs bN=now)→S m now bN ws ends st
 awX:∀ {m now bN ws ends st},S m now bN ws ends st→(ends.length:Int)<lI→0<ws.length→∃k,ws[F2 bL cs ws]? = some k∧S m now bN (ws.eraseIdx (F2 bL cs ws)) (ends++[now+VH cs k]) (st.set k now)
 toI:∀ {m now bN ws ends st},S m now bN ws ends st→¬((ends.length:Int)<lI∧0<ws.length)→∃m',m'<m∧I m' bN ws ends st
structure StE (bL lI room:Int) (cs:List fO) (n g1 k1 c1 g2 k2 c2 bN:Nat) (ρ:cP):Prop where
 r0:ρ 0=VI bL
 r1:ρ 1=VI lI
 r2:ρ 2=VI room
 r3:ρ 3=Y7 cs
 r9:ρ 9 = .ref n 0 0 cs.length cs.length
 r10:ρ 10 = .ref (n+1) g1 0 k1 c1
 r11:ρ 11 = .ref (n+2) g2 0 k2 c2
 r12:ρ 12=VI bN
structure Part {α:Type} (all xs:List α):Prop where
 le:xs.length≤all.length
 tk:all.take xs.length=xs
theorem Part.get {α:Type} {all xs:List α} (h:Part all xs) {i:Nat} {x:α} (hx:xs[i]? = some x):all[i]? = some x:=by
 rw[←h.tk,List.getElem?_take] at hx
 split at hx
 ·exact hx
 ·cases hx
theorem Part.fz {α:Type} {f:α→VV} {e b g:Nat} {all xs:List α} {w:Bool} {H:aA} (h:Part all xs) (hp:∀x,aM (f x)=true) (hr:aP H b g=some (all.map f,e,w)):fz depth H (.ref b g 0 xs.length all.length)=some (aL f xs):=by
 rw[Jk hr (by rw[List.length_map];exact h.le) h.le (eO hp),←List.map_take,h.tk]
theorem StE.Eg {bL lI room:Int} {cs:List fO} {n g1 k1 c1 g2 k2 c2 bN:Nat} {ρ:cP} (h:StE bL lI room cs n g1 k1 c1 g2 k2 c2 bN ρ):StE bL lI room cs n g1 k1 c1 g2 k2 c2 bN (EV (n+3) ρ):=by
 obtain⟨h0,h1,h2,h3,h9,h10,h11,h12⟩:=h
 refine⟨?_,?_,?_,?_,?_,?_,?_,?_⟩
 ·rw[eU,h0];rfl
 ·rw[eU,h1];rfl
 ·rw[eU,h2];rfl
 ·rw[eU,h3,oC (PU _)]
 ·rw[eU,h9,A1 (by omega)]
 ·rw[eU,h10,A1 (by omega)]
 ·rw[eU,h11,A1 (by omega)]
 ·rw[eU,h12];rfl
end Go.PM
namespace Go.PM
theorem Yj {p:Nat→Bool} {a b:Nat} (h:a≤b):((List.range b).filter p).length≤((List.range a).filter p).length+(b-a):=by
 obtain⟨d,rfl⟩:∃d,b=a+d:=⟨b-a,by omega⟩
 rw[List.range_add,List.filter_append,List.length_append]
 have:=List.length_filter_le p ((List.range d).map fun x=>a+x)
 simp only[List.length_map,List.length_range] at this
 omega
structure StA (bL lI:Int) (cs:List fO) (m:Nat) (now:Int) (bN:Nat) (ws:List Nat) (ends st:List Int) (t:Int) (FW:Nat) (ws0:List Nat) (KB:List Int):Prop where
 imp:Ja bL lI cs st t FW ws0 KB
 gd:FW<cs.length∨0<ws0.length
 ms:m=2*(cs.length-FW)+ws0.length
 nw:now=Fj cs FW ws0 KB
 c0:FW≤bN
 c1:bN≤cs.length
 eq:∀i,FW≤i→i<bN→ID cs i=now
 WG:ws=(List.range bN).filter (Kn st)
 enq:ends=KB.filter (gtB now)
theorem StA.bnd {bL lI:Int} {cs:List fO} {m:Nat} {now:Int} {bN:Nat} {ws:List Nat} {ends st:List Int} {t:Int} {FW:Nat} {ws0:List Nat} {KB:List Int} (h:StA bL lI cs m now bN ws ends st t FW ws0 KB):ws.length+ends.length≤bN∧ws.length≤ws0.length+(bN-FW)∧ends.length≤KB.length:=by
 have h1:=Yj (p:=Kn st) h.c0
 have h2:=Dl (st:=st) h.imp.Lq h.imp.past fun i h3 h4=>(h.imp.fut i h3 h4).1
 rw[←h2,←h.imp.WG,←h.WG] at h1
 have h3:=List.length_filter_le (gtB now) KB
 rw[←h.enq] at h3
 have h4:=h.imp.room
 have h5:=h.c0
 omega
structure StS (bL lI:Int) (cs:List fO) (m:Nat) (now:Int) (bN:Nat) (ws:List Nat) (ends st:List Int) (st0:List Int) (w2 e2:Nat):Prop where
 ph:Ph4 bL lI cs st0 now bN (w2+e2) st ws ends
 c1:bN≤cs.length
 tc:w2+e2≤bN
 run:runT bL lI cs now (100000-now).toNat st0=stL bL lI cs
 wle:ws.length≤w2
 ms:2*(cs.length-bN)+w2<m∨(2*(cs.length-bN)+w2=m∧0<w2∧(e2:Int)<lI)
def stR (cH:List Int) (n:Nat) (r:VV) (L:aA):Prop:=r = .ref n 0 0 cH.length cH.length∧L[0]? = some (.row 0 (cH.map nV) 1 true)
def anO (cH:List Int) (n:Nat) (r:VV) (L:aA):Prop:=r = .ref n 0 0 cH.length cH.length∧L=[.row 0 (cH.map nV) 1 true]
theorem anO.to {cH:List Int} {n:Nat} {r:VV} {L:aA} (h:anO cH n r L):stR cH n r L:=⟨h.1,by rw[h.2];rfl⟩
end Go.PM
namespace Go.PM
def asX (bL lI:Int) (cs:List fO):Prop:=(0≤bL∧bL≤3)∧(1≤lI∧lI≤8)∧kC cs
noncomputable instance (bL lI:Int) (cs:List fO):Decidable (asX bL lI cs):=Classical.propDecidable _
theorem kC.mem {cs:List fO} (h:kC cs) {c:fO} (hc:c∈cs):(0≤c.t∧c.t≤10000)∧(1≤c.w∧c.w≤1000)∧(0≤c.k∧c.k≤9):=by
 obtain⟨i,hi⟩:=List.getElem?_of_mem hc
 exact h.at hi
theorem FC.mono {f:Nat} {args:List VV} {R R':Nat→VV→aA→Prop} (h:FC f args R) (hR:∀n r L,R n r L→R' n r L):FC f args R':=fun n=>(h n).mono fun _ _ ⟨L,h1,h2,h3,h4⟩=>⟨L,h1,h2,h3,hR _ _ _ h4⟩
theorem Ja.all {bL lI:Int} {cs:List fO} {st:List Int} {t:Int} {bN:Nat} {ws:List Nat} {ends:List Int} (h:Ja bL lI cs st t bN ws ends) (adZ:¬bN<cs.length) (hw:¬0<ws.length):∀i,i<cs.length→0≤Gf st i:=by
 intro i hi
 have kX:=h.Lq
 rcases Int.lt_or_le (Gf st i) 0 with h1 | h1
 ·have h2:i∈wt cs st t:=GJ.2 ⟨hi,h1,h.past i (by omega)⟩
  rw[←h.WG,List.eq_nil_of_length_eq_zero (by omega:ws.length=0)] at h2
  cases h2
 ·exact h1
end Go.PM
namespace Go.PM
theorem LR.of {cH:List Int} {ok:Bool} {n:Nat} {r:VV} {L:aA} (h:stR cH n r L):LR cH ok n (.dL [r,.sc (.bool ok)]) L:=⟨r,rfl,.inr ⟨0,0,cH.length,h.1,Nat.le_refl _,h.2⟩⟩
end Go.PM
namespace Go.PM
theorem LR.fz {cH:List Int} {ok:Bool} {n:Nat} {v:VV} {L:aA} (h:(v = .tree [] .nil∧cH=[])∨∃i g c,v = .ref (n+i) g 0 cH.length c∧cH.length≤c∧L[i]? = some (.row g (cH.map nV) 1 true)):PM.fz depth (List.replicate n fU.dead++L) v=some (aeD cH):=by
 rcases h with⟨rfl,rfl⟩ | ⟨i,g,c,rfl,h2,h3⟩
 ·exact EX
 ·exact Uf (fun _=>rfl) (by rw[NM];exact cN.2 h3) h2
end Go.PM
namespace Go.PM
open Go.Lib
end Go.PM
namespace Go.PM
theorem OC {f lo:Nat} {args kL:List VV} {r:VV} {H:aA} {K:VV→aA→Prop} (h:TC f kL r) (xI:C0.contains f=false) (ha':aJ kL=true) (hf:args.mapM (fz depth H)=some kL) (hr:Ix r=true) (hk:K r H):cT f args lo H K:=by
 rw[h.flat xI ha' hf hr]
 exact hk
theorem Fx (l:List UInt8):dF .neq (.string ⟨l.toArray⟩) (.string ⟨l.toArray⟩)=some (.bool false):=by rw[NY];simp
end Go.PM
namespace Go.PM
set_option maxHeartbeats 2000000 in
theorem BK (s0:List (List ByteArray)) (s1:List ByteArray) (t2:Int) (WN:X2 s0) (hx1:okS s1):TC 11 [Uw s0,dI s1,VI t2] (.sc (.bool true)):=by
 refine TC.walk ⟨true,false⟩ BM rfl (Nat.le_of_ble_eq_true rfl) (Kv (C6 _) (dG _) rfl) rfl ?_
 have Wh:=Kg s0 (1000000) WN (by omega)
 by_cases aiW:IK s0 (1000000)<0
 ·rw[acV aiW] at Wh
  simp only[kT,jK,nX,iP,Wh,Int.reduceNeg,Int.reduceLT,VX,Nat.reduceEqDiff,Nat.reduceAdd]
  exact aG rfl
 have anU:=abA (c:=s0) (l:=1000000) (by omega)
 have azA:=anU.1
 have agM:=AG s1 (IK s0 (1000000)) hx1 (by omega)
 by_cases akK:R5 s1 (IK s0 (1000000))<0
 ·rw[aiX akK (by omega)] at agM
  simp only[kT,jK,nX,iP,Wh,aiW,agM,Int.reduceNeg,Int.reduceLT,VX,Nat.reduceEqDiff,Nat.reduceAdd]
  exact aG rfl
 have aoE:=Tk (xs:=s1) (l:=IK s0 (1000000)) (by omega)
 have aAV:=aoE.1
 obtain⟨_,Xf,VE⟩:=anU
 have KR:s0.length≤1000000000∧∀r∈s0,r.length≤1000000000∧∀s∈r,s.size≤1000000000:=⟨by omega,fun r hr=>⟨by have:=(VE r hr).1;omega,fun s h=>by have:=(VE r hr).2 s h;omega⟩⟩
 have Xc:s0.length≤1000000000∧∀x∈s0,x.length≤1000000000:=⟨by omega,fun x hx=>by have:=(VE x hx).1;omega⟩
 have YF:s0.length≤400000000∧∀x∈s0,x.length≤400000000:=⟨by omega,fun x hx=>by have:=(VE x hx).1;omega⟩
 obtain⟨_,hn1,IU⟩:=aoE
 have Ao:s1.length≤1000000000∧∀s∈s1,s.size≤1000000000:=⟨by omega,fun s h=>by have:=IU s h;omega⟩
 simp only[kT,jK,nX,iP,Wh,aiW,agM,akK,VX,Nat.reduceEqDiff,Nat.reduceAdd]
 have t1':=fun b=>As s1 b (by omega)
 have cs:=IZ s0 s1 t2 KR Ao
 have ci:=IY s0 s1 t2 KR Ao
 obtain⟨s,k,hsk⟩:=MO s0 s1 t2
 rw[hsk] at cs ci
 have pa:aJ [Uw s0,dI s1,VI t2]=true:=Kv (C6 _) (dG _) rfl
 refine Ue Xc fun r1 H1 p1 s1' => ?_
 simp only[nX,iP,VX,Nat.reduceEqDiff,Nat.reduceAdd]
 refine Zd (t1' false) rfl Hv (fun _=>rfl) fun r2 H2 p2 s2' => ?_
 simp only[nX,iP,VX,Nat.reduceEqDiff,Nat.reduceAdd]
 refine OC cs rfl pa (fz3 (s1'.pre p2).fz (s2'.pre (List.prefix_refl _)).now (aG rfl)) rfl ?_
 simp only[nX,iP,VX,Nat.reduceEqDiff,Nat.reduceAdd]
 refine Ue Xc fun r3 H3 p3 s3' => ?_
 have w3:=arU (lo:=0) s3' (Nat.zero_le _)
 simp only[nX,iP,w3,xS,VX,Nat.reduceEqDiff,Nat.reduceAdd]
 have p4:=List.prefix_append H3 [.row 0 [r3] 1 true]
 have q3:aP (H3++[.row 0 [r3] 1 true]) H3.length 0=some ([r3],1,true):=A8
 generalize eh4:H3++[.row 0 [r3] 1 true]=H4 at *
 refine ZL (t1' false) rfl Hv (fun _=>rfl) fun b5 H5 p5 lo5 r5 => ?_
 simp only[nX,iP,VX,Nat.reduceEqDiff,Nat.reduceAdd]
 simp only[nX,iP,ld1 s3' (eR p5 q3),VX,Nat.reduceEqDiff,Nat.reduceAdd]
 refine OC ci rfl pa (fz3 (s3'.pre (p4.trans p5)).fz (Mt (fun _=>rfl) (eR (List.prefix_refl _) r5)) (aG rfl)) rfl ?_
 simp only[nX,iP,Fx,Q6,ld1 s3' (eR p5 q3),VX,Nat.reduceEqDiff,Nat.reduceAdd]
 refine Ue Xc fun r6 H6 p6 s6' => ?_
 simp only[nX,iP,ld1 s3' (eR (p5.trans p6) q3),VX,Nat.reduceEqDiff,Nat.reduceAdd]
 refine EN s0 YF (s3'.pre ((p4.trans p5).trans p6)) s6' ?_
 simp only[nX,iP,ld1 s3' (eR (p5.trans p6) q3),VX,Nat.reduceEqDiff,Nat.reduceAdd]
 refine ZL (t1' false) rfl Hv (fun _=>rfl) fun b7 H7 p7 lo7 r7 => ?_
 simp only[nX,iP,ld1 s3' (eR ((p5.trans p6).trans p7) q3),VX,Nat.reduceEqDiff,Nat.reduceAdd]
 refine uO s1 (by omega) (eR (p6.trans p7) r5) r7 ?_
 simp only[nX,iP,ld1 s3' (eR ((p5.trans p6).trans p7) q3),VX,Nat.reduceEqDiff,Nat.reduceAdd]
 refine Ue Xc fun r8 H8 p8 s8' => ?_
 simp only[nX,iP,VX,Nat.reduceEqDiff,Nat.reduceAdd]
 refine Zd (t1' true) rfl Hv (fun _=>rfl) fun r9 H9 p9 s9' => ?_
 simp only[nX,iP,VX,Nat.reduceEqDiff,Nat.reduceAdd]
 refine OC ci rfl pa (fz3 (s8'.pre p9).fz (s9'.pre (List.prefix_refl _)).now (aG rfl)) rfl ?_
 simp only[nX,iP,Fx,Q6,VX,Nat.reduceEqDiff,Nat.reduceAdd]
 exact aG rfl
end Go.PM
namespace Go.PM
open Go.Proofs
theorem D0 {P:Program} {w:World} {name:String} {d:DataW Unit}:∀ {l:List (String×DataW Unit)} {ps:List MemPlace},DataW.LaidVars P w l ps→(name,d)∈l →
  ∃g t cs fuel p,P.globalNamed name=some g∧(P.globals[g]?).map (·.type)=some t∧w.var? P name=some cs∧DataW.trod (fun _=>()) P w 0 (fun _=>true) false fuel t cs.toList=some (d,p)
 | [],_,_,hm=>by cases hm
 |
  (n,e)::r,ps,h,hm=>by
  obtain⟨g,t,cs,fuel,p,q,h1,h2,h3,h4,h5,_⟩:=h
  rcases List.mem_cons.1 hm with he | hm
  ·cases he
   exact⟨g,t,cs,fuel,p,h1,h2,h3,h4⟩
  ·exact D0 h5 hm
theorem Lh {W:World} {l:List (String×DataW Unit)} (hl:laidMetH Tryz.prog l W) (hp:(l.all fun x=>x.2.handleName?.isNone)=true) (hm:("internal/strconv.uint64pow10",Lib.tabData .u64 Lib.pow10Tab)∈l)
  {t e:TypeId} {n:Nat} (hty:(Tryz.prog.globals[1]?).map (·.type)=some t) (ht:Tryz.prog.underlying t=some (.array n e)) (he:Tryz.prog.underlying e=some (.int .u64)) (hce:Tryz.prog.cellsOf e=1) (hct:Tryz.prog.cellsOf t=n):OB W:=by
 rw[MakeChecks.laidMetH_plain _ _ _ hp] at hl
 obtain⟨ps,h1,_⟩:=hl
 obtain⟨g',t',cs,fuel,p,Zv,ht',YI,hd⟩:=D0 h1 hm
 have hg:Tryz.prog.globalNamed "internal/strconv.uint64pow10"=some 1:=by kernel_rfl
 obtain rfl:=Option.some.inj (hg.symm.trans Zv)
 obtain rfl:=Option.some.inj (hty.symm.trans ht')
 have KM:=Lib.cells_of_tab ht he hce hct hd
 intro x hx
 have G6:x=(1,(Lib.pow10Tab.map fun z=>Value.int .u64 z).toArray):=by simpa[adM] using hx
 subst G6
 unfold World.var? at YI
 rw[hg,Option.bind_some] at YI
 split at YI
 ·rename_i Ae e' fz' hh
  cases YI
  refine⟨e',fz',?_⟩
  rw[←KM]
  simpa using hh
 ·cases YI
end Go.PM