/- Texts of a claim, in one: part 13. -/
import Derived.KernelRfl
import Derived.Test.YtjmflicajplclaaGreatDoorKBl
set_option linter.unusedSimpArgs false
set_option linter.unusedVariables false
namespace Go.PM
open Go.Lib
def Er (l:List UInt8):VV:=match AH l with
 | some q => .dQ [aY q,VB true]
 | none => .dQ [Hk,VB false]
theorem sS (q:Rat):aQ (aY q)=true:=by simp[aY,aQ,aO,cL,lG]
theorem P3 (q:Rat):fX (aY q)=true:=by simp[aY,fX,rE,oH,lG]
theorem V3 (l:List UInt8):fX (Er l)=true:=by
 unfold Er
 split<;>simp[fX,rE,P3,Iy,lG]
theorem N5 {neg:Bool} {t b:Nat} (hb:b≠0) (hg:Nat.gcd t b=1) (hn:¬(neg=true∧t=0)):aY (mkRat (lJ neg t) b) = .agg [VB neg,cA t,cA b]:=by
 obtain⟨e1,e2⟩:=K2 (neg:=neg) hb hg
 refine MK ?_ (by rw[e1,pD]) e2
 rw[e1]
 cases neg with
 | false=>unfold lJ;simp
 |
  true =>
  have:t≠0:=fun h=>hn ⟨rfl,h⟩
  unfold lJ
  simp
  omega
theorem FH {n:Nat}:(((aC 1000000000 n).length:Nat):Int)=0↔n=0:=by
 rw[←nA (b:=1000000000) (n:=n) (by decide),←List.length_eq_zero_iff]
 omega
theorem Uf {neg:Bool} {d t:List UInt8} (h:(47:UInt8)∈t):pZ neg d (some t)=none:=by
 have ht:iR t=false:=by
  cases hk:iR t with
  | false=>rfl
  | true=>exact absurd h (agB (kM.1 hk).1)
 unfold pZ
 split
 ·rfl
 ·simp only
  rw[if_neg (fun h=>by rw[ht] at h;exact absurd h.1 (by decide))]
theorem at_one (x:List UInt8) (H:aA):bL 1 (aM bE [x]) (VI 0) H=some (.dA (bE x) 0):=aK (f:=bE) (t := .op) (H:=H) (size:=1) (k := .i64) (xs:=[x]) (i:=0) rfl rfl
theorem amA (x y:List UInt8) (H:aA):bL 1 (aM bE [x,y]) (VI 0) H=some (.dA (bE x) 0):=aK (f:=bE) (t := .op) (H:=H) (size:=1) (k := .i64) (xs:=[x,y]) (i:=0) rfl rfl
theorem anL (x y:List UInt8) (H:aA):bL 1 (aM bE [x,y]) (VI 1) H=some (.dA (bE y) 0):=aK (f:=bE) (t := .op) (H:=H) (size:=1) (k := .i64) (xs:=[x,y]) (i:=1) rfl rfl
theorem Y7 (x:List UInt8) (H:aA):pW (aM bE [x]) H=some (VI 1):=eX (f:=bE) (xs:=[x])
theorem anZ (x y:List UInt8) (H:aA):pW (aM bE [x,y]) H=some (VI 2):=eX (f:=bE) (xs:=[x,y])
set_option maxRecDepth 100000 in
set_option maxHeartbeats 4000000 in
theorem Dr (l:List UInt8) (hl:l.length≤1000000000):TC 110 [bE l] (Er l):=by
 refine TC.walk ⟨true,false⟩ Md rfl (Nat.le_of_ble_eq_true rfl) rfl (V3 l) ?_
 by_cases Bv:l=[]
 ·subst Bv
  have eC:TC 167 [.sc (.string ⟨#[]⟩),.sc (.int .u8 47)] (aM bE [[]]):=F3 [] 47 (by simp)
  have eD:TC 168 [.sc (.string ⟨#[]⟩)] (VB false):=qE [] (by simp)
  have e1:xV (.string ⟨#[]⟩)=some (.int .i64 0):=rfl
  have a1:=at_one []
  have a2:=Y7 []
  simp only[cG,bM,e1,eC,eD,a1,a2,Int.reduceLT,Int.reduceLE,aH,iB,Nat.reduceLeDiff,Nat.reduceLT,Nat.reduceSub,VX,Nat.reduceEqDiff,Nat.reduceAdd]
  exact bR (d:=6) gU (aI (v:=VB false) rfl)
 have hp:0<l.length:=List.length_pos_iff.2 Bv
 have mC:(0:Int)<(l.length:Int):=by omega
 have e0:=J3 l hp
 unfold Er
 unfold AH
 have lM:isNeg l=decide (((l.getD 0 0).toNat:Int)=45):=by
  unfold isNeg
  rw[decide_eq_true (show 1≤l.length from hp),Bool.true_and]
  refine decide_eq_decide.2 ⟨fun h=>by rw[h];rfl,fun h=>UInt8.toNat_inj.1 (by rw[show (45:UInt8).toNat=45 from rfl];omega)⟩
 have VJ:(if isNeg l=true then l.drop 1 else l).length≤l.length:=by split<;>simp
 have q0:isNeg l=false→¬((l.getD 0 0).toNat:Int)=45:=fun h=>by rw[lM] at h;exact of_decide_eq_false h
 have q9:isNeg l=true→((l.getD 0 0).toNat:Int)=45:=fun h=>by rw[lM] at h;exact of_decide_eq_true h
 have r0:isNeg l=false→(if isNeg l=true then l.drop 1 else l)=l:=fun h=>by rw[h];rfl
 have r9:isNeg l=true→wV (bE l) (some (VI 1)) none=some (bE (if isNeg l=true then l.drop 1 else l)):=fun h=>by rw[h];exact Rj l (a:=1) hp
 generalize (if isNeg l=true then l.drop 1 else l)=r at *
 generalize isNeg l=neg at *
 clear lM
 have eC:TC 167 [bE r,.sc (.int .u8 47)] (aM bE (iK 47 r)):=F3 r 47 (by omega)
 obtain⟨l1,l2⟩:=T4 (c:=47) (l:=r)
 cases hs:(nE 47 r).2 with
 |
  none =>
  have hd:=(Cj hs).2.1
  rw[TL hs] at eC
  rw[hd]
  have a1:=at_one r
  have a2:=Y7 r
  have eD:=qE r (by omega)
  cases hk:iR r with
  |
   false =>
   rw[hk] at eD
   have hpa:pZ neg r none=none:=if_pos (.inl hk)
   rw[hpa]
   cases neg with
   |
    false =>
    have q1:=q0 rfl
    have VJ:=r0 rfl
    subst VJ
    simp only[cG,bM,bO,mC,e0,q1,eC,eD,a1,a2,Int.reduceLT,aH,bD,aL,bA,eQ,gJ,eK,gF,iB,Nat.reduceLeDiff,Nat.reduceLT,Nat.reduceSub,VX,Nat.reduceEqDiff,Nat.reduceAdd]
    exact bR (d:=6) gU (aI (v:=VB false) rfl)
   |
    true =>
    have q1:=q9 rfl
    have e9:=r9 rfl
    simp only[cG,bM,bO,mC,e0,q1,eC,eD,a1,a2,Int.reduceLT,e9,aH,bD,aL,bA,eQ,gJ,eK,gF,iB,Nat.reduceLeDiff,Nat.reduceLT,Nat.reduceSub,VX,Nat.reduceEqDiff,Nat.reduceAdd]
    exact bR (d:=6) gU (aI (v:=VB false) rfl)
  |
   true =>
   rw[hk] at eD
   have hbt:=Ab hk
   have eN:=tZ r (kM.1 hk).1 (by omega)
   by_cases hz:neg=true∧bY r=0
   ·have hpa:pZ neg r none=none:=if_pos (.inr hz)
    rw[hpa]
    obtain⟨rfl,JE⟩:=hz
    have q1:=q9 rfl
    have e9:=r9 rfl
    have JO:(((aC 1000000000 (bY r)).length:Nat):Int)=0:=FH.2 JE
    simp only[cG,bM,bO,mC,e0,q1,eC,eD,a1,a2,eN,e9,cQ,JO,Int.reduceLT,aH,bD,aL,bA,eQ,gJ,eK,gF,iB,Nat.reduceLeDiff,Nat.reduceLT,Nat.reduceSub,VX,Nat.reduceEqDiff,Nat.reduceAdd]
    exact bR (d:=6) gU (aI (v:=VB false) rfl)
   ·have F1:neg=true→¬(((aC 1000000000 (bY r)).length:Nat):Int)=0:=fun h h0=>hz ⟨h,FH.1 h0⟩
    have hpa:pZ neg r none=some (mkRat (lJ neg (bY r)) 1):=if_neg (by rw[hk];rintro(h | h);exact absurd h (by decide);exact hz h)
    rw[hpa]
    simp only[]
    rw[N5 (by decide) (Nat.gcd_one_right _) hz]
    cases neg with
    |
     false =>
     have q1:=q0 rfl
     have VJ:=r0 rfl
     subst VJ
     simp only[cG,bM,bO,mC,e0,q1,eC,eD,a1,a2,eN,Int.reduceLT,Int.reduceEq,aH,bD,aL,bA,eQ,gJ,eK,gF,iB,Nat.reduceLeDiff,Nat.reduceLT,Nat.reduceSub,VX,Nat.reduceEqDiff,Nat.reduceAdd]
     exact bR (d:=6) (sD (aI (v:=VB false) rfl) (aI (cL _)) RN) (aI (v:=VB true) rfl)
    |
     true =>
     have q1:=q9 rfl
     have e9:=r9 rfl
     have JO:=F1 rfl
     simp only[cG,bM,bO,mC,e0,q1,eC,eD,a1,a2,eN,Int.reduceLT,Int.reduceEq,e9,cQ,JO,aH,bD,aL,bA,eQ,gJ,eK,gF,iB,Nat.reduceLeDiff,Nat.reduceLT,Nat.reduceSub,VX,Nat.reduceEqDiff,Nat.reduceAdd]
     exact bR (d:=6) (sD (aI (v:=VB true) rfl) (aI (cL _)) RN) (aI (v:=VB true) rfl)
 |
  some t =>
  have ltt:=l2 t hs
  rw[KN hs] at eC
  generalize (nE 47 r).1=d at *
  by_cases hm:(47:UInt8)∈t
  ·rw[Uf hm]
   have hP:=Uv hm
   generalize hPP:iK 47 t=P at *
   have a2:∀H,pW (aM bE (d::P)) H=some (VI ((d::P).length:Int)):=fun H=>eX (f:=bE) (xs:=d::P)
   have hq3:(2:Int)<((d::P).length:Int):=by rw[List.length_cons];omega
   generalize hQQ:d::P=PP at *
   clear hQQ hPP hP
   cases neg with
   |
    false =>
    have q1:=q0 rfl
    have VJ:=r0 rfl
    subst VJ
    simp only[cG,bM,bO,mC,e0,q1,eC,a2,hq3,aH,bD,aL,bA,eQ,gJ,eK,gF,iB,Nat.reduceLeDiff,Nat.reduceLT,Nat.reduceSub,VX,Nat.reduceEqDiff,Nat.reduceAdd]
    exact bR (d:=6) gU (aI (v:=VB false) rfl)
   |
    true =>
    have q1:=q9 rfl
    have e9:=r9 rfl
    simp only[cG,bM,bO,mC,e0,q1,eC,a2,hq3,e9,aH,bD,aL,bA,eQ,gJ,eK,gF,iB,Nat.reduceLeDiff,Nat.reduceLT,Nat.reduceSub,VX,Nat.reduceEqDiff,Nat.reduceAdd]
    exact bR (d:=6) gU (aI (v:=VB false) rfl)
  ·rw[GL hm] at eC
   have a1:=amA d t
   have a3:=anL d t
   have a2:=anZ d t
   have eD:=qE d (by omega)
   have eF:=qE t (by omega)
   cases hk:iR d with
   |
    false =>
    rw[hk] at eD
    have hpa:pZ neg d (some t)=none:=if_pos (.inl hk)
    rw[hpa]
    cases neg with
    |
     false =>
     have q1:=q0 rfl
     have VJ:=r0 rfl
     subst VJ
     simp only[cG,bM,bO,mC,e0,q1,eC,eD,a1,a2,Int.reduceLT,aH,bD,aL,bA,eQ,gJ,eK,gF,iB,Nat.reduceLeDiff,Nat.reduceLT,Nat.reduceSub,VX,Nat.reduceEqDiff,Nat.reduceAdd]
     exact bR (d:=6) gU (aI (v:=VB false) rfl)
    |
     true =>
     have q1:=q9 rfl
     have e9:=r9 rfl
     simp only[cG,bM,bO,mC,e0,q1,eC,eD,a1,a2,Int.reduceLT,e9,aH,bD,aL,bA,eQ,gJ,eK,gF,iB,Nat.reduceLeDiff,Nat.reduceLT,Nat.reduceSub,VX,Nat.reduceEqDiff,Nat.reduceAdd]
     exact bR (d:=6) gU (aI (v:=VB false) rfl)
   |
    true =>
    rw[hk] at eD
    have hbt:=Ab hk
    have eN:=tZ d (kM.1 hk).1 (by omega)
    by_cases hz:neg=true∧bY d=0
    ·have hpa:pZ neg d (some t)=none:=if_pos (.inr hz)
     rw[hpa]
     obtain⟨rfl,JE⟩:=hz
     have q1:=q9 rfl
     have e9:=r9 rfl
     have JO:(((aC 1000000000 (bY d)).length:Nat):Int)=0:=FH.2 JE
     simp only[cG,bM,bO,mC,e0,q1,eC,eD,a1,a2,eN,e9,cQ,JO,Int.reduceLT,aH,bD,aL,bA,eQ,gJ,eK,gF,iB,Nat.reduceLeDiff,Nat.reduceLT,Nat.reduceSub,VX,Nat.reduceEqDiff,Nat.reduceAdd]
     exact bR (d:=6) gU (aI (v:=VB false) rfl)
    ·have F1:neg=true→¬(((aC 1000000000 (bY d)).length:Nat):Int)=0:=fun h h0=>hz ⟨h,FH.1 h0⟩
     have hpa:pZ neg d (some t)=if iR t=true∧1<bY t∧Nat.gcd (bY d) (bY t)=1 then some (mkRat (lJ neg (bY d)) (bY t)) else none:=if_neg (by rw[hk];rintro(h | h);exact absurd h (by decide);exact hz h)
     rw[hpa]
     clear hpa
     cases ht:iR t with
     |
      false =>
      rw[ht] at eF
      rw[if_neg (fun h=>absurd h.1 (by decide))]
      cases neg with
      |
       false =>
       have q1:=q0 rfl
       have VJ:=r0 rfl
       subst VJ
       simp only[cG,bM,bO,mC,e0,q1,eC,eD,eF,a1,a2,a3,eN,Int.reduceLT,Int.reduceEq,aH,bD,aL,bA,eQ,gJ,eK,gF,iB,Nat.reduceLeDiff,Nat.reduceLT,Nat.reduceSub,VX,Nat.reduceEqDiff,Nat.reduceAdd]
       exact bR (d:=6) gU (aI (v:=VB false) rfl)
      |
       true =>
       have q1:=q9 rfl
       have e9:=r9 rfl
       have JO:=F1 rfl
       simp only[cG,bM,bO,mC,e0,q1,eC,eD,eF,a1,a2,a3,eN,Int.reduceLT,Int.reduceEq,e9,cQ,JO,aH,bD,aL,bA,eQ,gJ,eK,gF,iB,Nat.reduceLeDiff,Nat.reduceLT,Nat.reduceSub,VX,Nat.reduceEqDiff,Nat.reduceAdd]
       exact bR (d:=6) gU (aI (v:=VB false) rfl)
     |
      true =>
      rw[ht] at eF
      have M4:=Ab ht
      have eM:=tZ t (kM.1 ht).1 (by omega)
      have c2:∀lo H K,_:=fun lo H K=>MI (n:=bY t) (lo:=lo) (H:=H) (K:=K) (Nat.le_of_lt (lI (by omega)))
      have c3:=Gk (bY d) (bY t) (lI (by omega)) (lI (by omega))
      by_cases h1:fK (bY t) 1≤0
      ·have hle:¬1<bY t:=fun h=>by unfold fK at h1;rw[if_neg (by omega),if_neg (by omega)] at h1;exact absurd h1 (by decide)
       rw[if_neg (fun h=>hle h.2.1)]
       cases neg with
       |
        false =>
        have q1:=q0 rfl
        have VJ:=r0 rfl
        subst VJ
        simp only[cG,bM,bO,mC,e0,q1,eC,eD,eF,a1,a2,a3,eN,eM,c2,h1,Int.reduceLT,Int.reduceEq,aH,bD,aL,bA,eQ,gJ,eK,gF,iB,Nat.reduceLeDiff,Nat.reduceLT,Nat.reduceSub,VX,Nat.reduceEqDiff,Nat.reduceAdd]
        exact bR (d:=6) gU (aI (v:=VB false) rfl)
       |
        true =>
        have q1:=q9 rfl
        have e9:=r9 rfl
        have JO:=F1 rfl
        simp only[cG,bM,bO,mC,e0,q1,eC,eD,eF,a1,a2,a3,eN,eM,c2,h1,Int.reduceLT,Int.reduceEq,e9,cQ,JO,aH,bD,aL,bA,eQ,gJ,eK,gF,iB,Nat.reduceLeDiff,Nat.reduceLT,Nat.reduceSub,VX,Nat.reduceEqDiff,Nat.reduceAdd]
        exact bR (d:=6) gU (aI (v:=VB false) rfl)
      ·have bH:1<bY t:=by
        rcases Nat.lt_or_ge 1 (bY t) with h | h
        ·exact h
        ·exfalso
         apply h1
         unfold fK
         split<;>(try split)<;>first | decide | omega
       have hgl:bl (Nat.gcd (bY d) (bY t))≤665:=Nat.le_trans (lE (Nat.le_of_dvd (by omega) (Nat.gcd_dvd_right _ _))) M4
       have c4:∀lo H K,_:=fun lo H K=>MI (n:=Nat.gcd (bY d) (bY t)) (lo:=lo) (H:=H) (K:=K) (Nat.le_of_lt (lI (by omega)))
       by_cases hg:Nat.gcd (bY d) (bY t)=1
       ·have h4:fK (Nat.gcd (bY d) (bY t)) 1=0:=by rw[hg];rfl
        rw[if_pos ⟨rfl,bH,hg⟩]
        simp only[]
        rw[N5 (by omega) hg hz]
        cases neg with
        |
         false =>
         have q1:=q0 rfl
         have VJ:=r0 rfl
         subst VJ
         simp only[cG,bM,bO,mC,e0,q1,eC,eD,eF,a1,a2,a3,eN,eM,c2,c3,c4,h1,h4,Int.reduceLT,Int.reduceEq,aH,bD,aL,bA,eQ,gJ,eK,gF,iB,Nat.reduceLeDiff,Nat.reduceLT,Nat.reduceSub,VX,Nat.reduceEqDiff,Nat.reduceAdd]
         exact bR (d:=6) (sD (aI (v:=VB false) rfl) (aI (cL _)) (aI (cL _))) (aI (v:=VB true) rfl)
        |
         true =>
         have q1:=q9 rfl
         have e9:=r9 rfl
         have JO:=F1 rfl
         simp only[cG,bM,bO,mC,e0,q1,eC,eD,eF,a1,a2,a3,eN,eM,c2,c3,c4,h1,h4,Int.reduceLT,Int.reduceEq,e9,cQ,JO,aH,bD,aL,bA,eQ,gJ,eK,gF,iB,Nat.reduceLeDiff,Nat.reduceLT,Nat.reduceSub,VX,Nat.reduceEqDiff,Nat.reduceAdd]
         exact bR (d:=6) (sD (aI (v:=VB true) rfl) (aI (cL _)) (aI (cL _))) (aI (v:=VB true) rfl)
       ·have h4:¬fK (Nat.gcd (bY d) (bY t)) 1=0:=by
         unfold fK
         split<;>(try split)<;>first | decide | omega
        rw[if_neg (fun h=>hg h.2.2)]
        cases neg with
        |
         false =>
         have q1:=q0 rfl
         have VJ:=r0 rfl
         subst VJ
         simp only[cG,bM,bO,mC,e0,q1,eC,eD,eF,a1,a2,a3,eN,eM,c2,c3,c4,h1,h4,Int.reduceLT,Int.reduceEq,aH,bD,aL,bA,eQ,gJ,eK,gF,iB,Nat.reduceLeDiff,Nat.reduceLT,Nat.reduceSub,VX,Nat.reduceEqDiff,Nat.reduceAdd]
         exact bR (d:=6) gU (aI (v:=VB false) rfl)
        |
         true =>
         have q1:=q9 rfl
         have e9:=r9 rfl
         have JO:=F1 rfl
         simp only[cG,bM,bO,mC,e0,q1,eC,eD,eF,a1,a2,a3,eN,eM,c2,c3,c4,h1,h4,Int.reduceLT,Int.reduceEq,e9,cQ,JO,aH,bD,aL,bA,eQ,gJ,eK,gF,iB,Nat.reduceLeDiff,Nat.reduceLT,Nat.reduceSub,VX,Nat.reduceEqDiff,Nat.reduceAdd]
         exact bR (d:=6) gU (aI (v:=VB false) rfl)
end Go.PM
namespace Go.PM
open Go.Lib
theorem aoG {a b:Rat}:(decide (a.num<0) != decide (b.num<0))=true→(decide (a<b)=decide (a.num<0)):=by
 intro h
 have h1:a.num<0↔a<0:=by rw[←Int.not_le,Rat.num_nonneg];constructor<;>intro h<;>grind
 have h2:b.num<0↔b<0:=by rw[←Int.not_le,Rat.num_nonneg];constructor<;>intro h<;>grind
 by_cases q1:a.num<0<;>by_cases q2:b.num<0
 ·simp[q1,q2] at h
 ·have:=h1.1 q1
  have:=mt h2.2 q2
  rw[decide_eq_true q1,decide_eq_true (by grind)]
 ·have:=h2.1 q2
  have:=mt h1.2 q1
  rw[decide_eq_false q1,decide_eq_false (by grind)]
 ·simp[q1,q2] at h
set_option maxHeartbeats 1000000 in
theorem OY (a b:Rat) (J4:aZ a≤1099511627776) (G2:aZ b≤1099511627776):TC 80 [aY a,aY b] (VB (decide (a<b))):=by
 refine TC.walk ⟨true,false⟩ OA rfl (Nat.le_of_ble_eq_true rfl) (by simp only[aO,sS];rfl) rfl ?_
 have b1 := @oK a
 have b2 := @oK b
 have b3 := @mP a
 have b4 := @mP b
 have b5:=lL a.num.natAbs b.den
 have b6:=lL b.num.natAbs a.den
 have c1:=dO a.num.natAbs b.den (Nat.le_of_lt (lI (by omega))) (Nat.le_of_lt (lI (by omega)))
 have c2:=dO b.num.natAbs a.den (Nat.le_of_lt (lI (by omega))) (Nat.le_of_lt (lI (by omega)))
 have c3:=rP (a.num.natAbs*b.den) (b.num.natAbs*a.den) (Nat.le_of_lt (lI (by omega))) (Nat.le_of_lt (lI (by omega)))
 have bH:=Rat.lt_iff (a:=a) (b:=b)
 by_cases q1:a.num<0<;>by_cases q2:b.num<0
 ·have agN:a<b↔0<fK (a.num.natAbs*b.den) (b.num.natAbs*a.den):=by
   rw[bH,Ya]
   have e1:a.num = -(a.num.natAbs:Int):=by omega
   have e2:b.num = -(b.num.natAbs:Int):=by omega
   generalize a.num.natAbs=m at *
   generalize b.num.natAbs=n at *
   rw[e1,e2,Int.neg_mul,Int.neg_mul,←Int.natCast_mul,←Int.natCast_mul]
   omega
  by_cases q3:0<fK (a.num.natAbs*b.den) (b.num.natAbs*a.den)
  ·rw[decide_eq_true (agN.2 q3)]
   simp only[oA,lA,c1,c2,c3,q1,q2,q3,oO,decide_true,decide_false,bne_self_eq_false,Bool.bne_true,Bool.bne_false,Bool.true_bne,Bool.false_bne,Bool.not_true,Bool.not_false,bJ,dS,eT,eY,aL,iB,Nat.reduceLeDiff,Nat.reduceLT,Nat.reduceSub,VX,Nat.reduceEqDiff,Nat.reduceAdd]
   exact aE rfl
  ·rw[decide_eq_false (mt agN.1 q3)]
   simp only[oA,lA,c1,c2,c3,q1,q2,q3,oO,decide_true,decide_false,bne_self_eq_false,Bool.bne_true,Bool.bne_false,Bool.true_bne,Bool.false_bne,Bool.not_true,Bool.not_false,bJ,dS,eT,eY,aL,iB,Nat.reduceLeDiff,Nat.reduceLT,Nat.reduceSub,VX,Nat.reduceEqDiff,Nat.reduceAdd]
   exact aE rfl
 ·have hl:=aoG (a:=a) (b:=b) (by simp[q1,q2])
  rw[hl,decide_eq_true q1]
  simp only[oA,lA,q1,q2,oO,decide_true,decide_false,bne_self_eq_false,Bool.bne_true,Bool.bne_false,Bool.true_bne,Bool.false_bne,Bool.not_true,Bool.not_false,bJ,dS,eT,eY,aL,iB,Nat.reduceLeDiff,Nat.reduceLT,Nat.reduceSub,VX,Nat.reduceEqDiff,Nat.reduceAdd]
  exact aE rfl
 ·have hl:=aoG (a:=a) (b:=b) (by simp[q1,q2])
  rw[hl,decide_eq_false q1]
  simp only[oA,lA,q1,q2,oO,decide_true,decide_false,bne_self_eq_false,Bool.bne_true,Bool.bne_false,Bool.true_bne,Bool.false_bne,Bool.not_true,Bool.not_false,bJ,dS,eT,eY,aL,iB,Nat.reduceLeDiff,Nat.reduceLT,Nat.reduceSub,VX,Nat.reduceEqDiff,Nat.reduceAdd]
  exact aE rfl
 ·have agN:a<b↔fK (a.num.natAbs*b.den) (b.num.natAbs*a.den)<0:=by
   rw[bH,wD]
   have e1:a.num=(a.num.natAbs:Int):=by omega
   have e2:b.num=(b.num.natAbs:Int):=by omega
   generalize a.num.natAbs=m at *
   generalize b.num.natAbs=n at *
   rw[e1,e2,←Int.natCast_mul,←Int.natCast_mul]
   omega
  by_cases q3:fK (a.num.natAbs*b.den) (b.num.natAbs*a.den)<0
  ·rw[decide_eq_true (agN.2 q3)]
   simp only[oA,lA,c1,c2,c3,q1,q2,q3,oO,decide_true,decide_false,bne_self_eq_false,Bool.bne_true,Bool.bne_false,Bool.true_bne,Bool.false_bne,Bool.not_true,Bool.not_false,bJ,dS,eT,eY,aL,iB,Nat.reduceLeDiff,Nat.reduceLT,Nat.reduceSub,VX,Nat.reduceEqDiff,Nat.reduceAdd]
   exact aE rfl
  ·rw[decide_eq_false (mt agN.1 q3)]
   simp only[oA,lA,c1,c2,c3,q1,q2,q3,oO,decide_true,decide_false,bne_self_eq_false,Bool.bne_true,Bool.bne_false,Bool.true_bne,Bool.false_bne,Bool.not_true,Bool.not_false,bJ,dS,eT,eY,aL,iB,Nat.reduceLeDiff,Nat.reduceLT,Nat.reduceSub,VX,Nat.reduceEqDiff,Nat.reduceAdd]
   exact aE rfl
end Go.PM
namespace Go.PM
open Go.Lib
theorem Ld {l:List UInt8} {q:Rat} (h:AH l=some q):Er l = .dQ [aY q,VB true]:=by unfold Er;rw[h]
theorem Lc {l:List UInt8} (h:AH l=none):Er l = .dQ [Hk,VB false]:=by unfold Er;rw[h]
end Go.PM
namespace Go.PM
open Go.Lib
def U4 (o:Option (List Rat)):VV:=match o with
 | some qs => .dQ [aM aY qs,VB true]
 | none => .dQ [aM aY [],VB false]
theorem WL:U4 none = .dQ [aM aY [],VB false]:=rfl
theorem Xk (qs:List Rat):U4 (some qs) = .dQ [aM aY qs,VB true]:=rfl
theorem nD (q:Rat):(aB (aY q)).length=3:=rfl
theorem sY (qs:List Rat):aQ (aM aY qs)=true:=kL nD sS
theorem abB (q:Rat):Bo (aY q)=true:=by simp[Bo,aY,cA,iT]
theorem B5 (qs:List Rat):fX (aM aY qs)=true:=zN nD P3 abB
theorem abQ (o:Option (List Rat)):fX (U4 o)=true:=by
 unfold U4
 split
 ·exact tM (B5 _) rfl
 ·exact tM (B5 []) rfl
set_option maxHeartbeats 1000000 in
theorem OX (xs:List ByteArray) (hn:xs.length≤1000000000) (hs:∀s∈xs,s.size≤1000000000):TC 57 [eG xs] (U4 (yC xs)):=by
 refine TC.walk ⟨true,false⟩ Np rfl (Nat.le_of_ble_eq_true rfl) (by simp[aO,dG]) (abQ _) ?_
 unfold yC
 by_cases XF:(300:Int)<(xs.length:Int)
 ·rw[if_neg (by omega)]
  simp only[Df,zE,XF,VX,Nat.reduceEqDiff,Nat.reduceAdd]
  exact C1
 rw[if_pos (by omega)]
 have e0:=fun H=>gY (H:=H) (lr:=false) (z:=[.bool false,.slice none 0 0,.slice none 0 0]) rfl
 simp only[Df,zE,XF,e0,VX,Nat.reduceEqDiff,Nat.reduceAdd]
 refine IY (fun(s:Nat×List Rat) ρ H=>s.1≤xs.length∧(xs.take s.1).mapM pQ=some s.2∧H=[.row s.1 (s.2.map aY) 3 true]∧ρ 4 = .ref 0 s.1 0 s.1 s.1∧ρ 0=eG xs∧ρ 13=VI xs.length∧ρ 14=VI s.1) (fun s=>xs.length-s.1) (0,[]) ⟨Nat.zero_le _,rfl,rfl,rfl,rfl,rfl,rfl⟩ ?_
 rintro⟨i,out⟩ ρ H ⟨hi,EK,rfl,g4,g13,g14,g15⟩
 simp only at hi EK g4 g15
 have jT:out.length=i:=by rw[pY EK,List.length_take];omega
 by_cases cS:(i:Int)<(xs.length:Int)
 ·obtain⟨x,hx⟩:∃x,xs[i]? = some x:=⟨_,List.getElem?_eq_getElem (by omega)⟩
  have hxm:=List.mem_of_getElem? hx
  have e1:=fun H=>aK (f:=sV) (t := .op) (H:=H) (size:=1) (k := .i64) hx rfl
  have wi:IntKind.i64.wrap ((i:Int)+1)=((i+1:Nat):Int):=wrapN (i+1) (by omega) (by omega)
  have e2:=Dr x.data.toList (by have:=hs x hxm;rw[Array.length_toList];show x.size≤_;omega)
  rw[←Rv] at e2
  cases hp:pQ x with
  |
   none =>
   rw[Lc hp] at e2
   rw[mapM_none hp hxm]
   simp only[rW,g4,g13,g14,g15,cS,e1,e2,wQ,zR,Fa,aS,aT,aN,iB,Nat.reduceLeDiff,Nat.reduceLT,Nat.reduceSub,rN,dH,dY,kA,oS,sF,bne_iff_ne,ne_eq,not_false_eq_true,not_true_eq_false,VX,Nat.reduceEqDiff,Nat.reduceAdd]
   exact C1
  |
   some q =>
   rw[Ld hp] at e2
   have eL:∀H,kD false [.bool false,.slice none 0 0,.slice none 0 0] 1 [(0,aY q)] H=some (.tree [aY q] (.cl 3),H):=fun H=>fU rfl rfl rfl
   have eS:∀H,cT 3 (.tree [aY q] (.cl 3)) H=some [aY q]:=fun H=>dL rfl rfl
   have eP:eE 0 3 56 (.ref 0 i 0 i i) [aY q] [.row i (out.map aY) 3 true,.row 0 [aY q] 3 true]=some (.ref 0 (i+1) 0 (i+1) (i+1),[.row (i+1) ((out++[q]).map aY) 3 true,.row 0 [aY q] 3 true]):=by
    rw[gG (f:=aY) (xs:=out) (by rw[bB]) jT.symm (Nat.le_refl _) (by decide) (by decide) (by omega),List.set_cons_zero]
   simp only[rW,g4,g13,g14,g15,cS,e1,e2,eL,eS,eP,wi,bJ,iP,dJ,aL,bD,bA,iB,Nat.reduceLeDiff,Nat.reduceLT,Nat.reduceSub,rN,dH,dY,kA,oS,sF,bne_iff_ne,ne_eq,not_false_eq_true,not_true_eq_false,VX,Nat.reduceEqDiff,Nat.reduceAdd]
   refine⟨(i+1,out++[q]),by simp only;omega,?_,by simp only;omega,by simp only[gH hx];exact Ch EK hp,rfl,?_⟩
   ·rw[yU (lZ _ (eW sS)),Fm]
   ·simp only[pO,g13,g14,wL (dG _),FM (Nat.lt_succ_self 0),VX,Nat.reduceEqDiff,Nat.reduceAdd,List.take_zero,jK,List.all_nil,List.length_nil,pO,I1,wL]
 ·have mI:i=xs.length:=by omega
  subst mI
  rw[List.take_length] at EK
  rw[EK]
  simp only[rW,g4,g13,g14,g15,cS,VX,Nat.reduceEqDiff,Nat.reduceAdd]
  refine bR (d:=6) ?_ (aI (v:=VB true) rfl)
  have:=Nq (d:=5) (w:=true) (f:=aY) (e:=3) (b:=0) (g:=xs.length) (c:=xs.length) (xs:=out) (H:=[.row xs.length (out.map aY) 3 true]) sS (by rw[bB]) (by omega)
  rw[jT] at this
  exact this
set_option maxHeartbeats 1000000 in
theorem JU {lo:Nat} {H:aA} {q:Rat} (h:lo≤H.length):bQ lo 3 (.ptr H.length 0 0 0) (aY q) (H++[cell0])=some (H++[.row 0 [aY q] 3 true]):=by
 rw[bZ (g:=0) (e:=3) (j:=0) gI (by exact Nat.zero_lt_one) h rfl rfl,IP]
 rfl
theorem afD {H K:aA} {q:Rat}:cC true 3 (.ptr H.length 0 0 0) (H ++ .row 0 [aY q] 3 true::K)=some (aY q):=by
 rw[bP,yJ,bB]
 exact dJ _
theorem xH {lo:Nat} {H:aA} {v:VV} (qs:List Rat) {B:Nat} (hv:Rd aY 3 qs H v) (dV:lo≤H.length) (hb:∀q∈qs,aZ q≤B) (hk:qs.length*(B+1)+1≤1099511627776) (hB:B≤1099511627776) (hn:qs.length≤1000000000) :
  iI 60 [v] lo H (IZ (fun _ _ _ r=>r=aY (eH qs)) H):=by
 refine iI.walk ⟨true,false⟩ Ms (Nat.le_of_ble_eq_true rfl) ?_
 have e1:=AB
 have e2:=hv.len (H++[cell0,.row 0 [aY 0] 3 true]) (List.prefix_append _ _)
 have s0:bQ lo 3 (.ptr (H.length+1) 0 0 0) (aY 0) (H++[cell0,cell0])=some (H++[cell0,.row 0 [aY 0] 3 true]):=by
  have:=JU (lo:=lo) (H:=H++[cell0]) (q:=0) (by rw[List.length_append];omega)
  simpa only[List.length_append,List.length_cons,List.length_nil,Nat.zero_add,List.append_assoc,List.cons_append,List.nil_append] using this
 simp only[Gg,Dk,e1,e2,s0,List.length_append,List.length_cons,List.length_nil,List.append_assoc,List.cons_append,List.nil_append,eO,VX,Nat.reduceEqDiff,Nat.reduceAdd,Nat.reduceLeDiff,Nat.reduceLT,Nat.reduceSub]
 refine aV (fun(i:Nat) ρ H1=>i≤qs.length∧H <+: H1∧aJ H1 H.length 0=some ([rz],3,true)∧aJ H1 (H.length+1) 0=some ([aY (eH (qs.take i))],3,true)∧ρ 2 = .ptr H.length 0 0 0∧ρ 3 = .ptr (H.length+1) 0 0 0∧ρ 0=v∧ρ 7=VI qs.length∧ρ 8=VI i) (fun i=>qs.length-i) 0 ⟨Nat.zero_le _,List.prefix_append _ _,yJ.trans bB,Rq.trans (nB.trans bB),rfl,rfl,rfl,rfl,rfl⟩ ?_
 rintro i ρ H1 ⟨hi,hp,DR,HC,g2,g3,g0,g7,g8⟩
 have CC:=hJ HC
 have s3:cC true 3 (.ptr (H.length+1) 0 0 0) H1=some (aY (eH (qs.take i))):=by
  rw[bP,HC]
  exact dJ _
 by_cases cS:(i:Int)<(qs.length:Int)
 ·obtain⟨q,hq⟩:∃q,qs[i]? = some q:=⟨_,List.getElem?_eq_getElem (by omega)⟩
  obtain⟨p,a1,a2⟩:=hv.get H1 hp i q hq
  have a2':=(a2 true).trans (dJ _)
  have wi:IntKind.i64.wrap ((i:Int)+1)=((i+1:Nat):Int):=wrapN (i+1) (by omega) (by omega)
  have h1:=zY hb i
  have h2:=hb q (List.mem_of_getElem? hq)
  have h3:(i+1)*(B+1)≤qs.length*(B+1):=Nat.mul_le_mul_right _ (by omega)
  have e3:=Bi (eH (qs.take i)) q (by omega) (by omega)
  rw[←Cl hq] at e3
  have s4:=bZ (lo:=lo) (v:=aY (eH (qs.take (i+1)))) (j:=0) HC (by exact Nat.zero_lt_one) (by omega) rfl rfl
  rw[List.set_cons_zero] at s4
  simp only[vW,g2,g3,g0,g7,g8,cS,a1,a2',e3,s3,s4,wi,eO,VX,Nat.reduceEqDiff,Nat.reduceAdd,Nat.reduceLeDiff,Nat.reduceLT,Nat.reduceSub]
  exact⟨i+1,by omega,by omega,lY hp (by omega),bX (by omega) DR,cE HC,by (repeat' apply And.intro)<;>first | rfl | trivial | assumption⟩
 ·have mI:i=qs.length:=by omega
  subst mI
  rw[List.take_length] at s3
  have s4:=bZ (lo:=lo) (v:=aY (eH qs)) (j:=0) DR (by exact Nat.zero_lt_one) dV rfl rfl
  rw[List.set_cons_zero] at s4
  have s5:cC true 3 (.ptr H.length 0 0 0) (H1.set H.length (.row 0 [aY (eH qs)] 3 true))=some (aY (eH qs)):=by
   rw[bP,cE DR]
   exact dJ _
  simp only[vW,g2,g3,g7,g8,cS,s3,s4,s5,eO,VX,Nat.reduceEqDiff,Nat.reduceAdd,Nat.reduceLeDiff,Nat.reduceLT,Nat.reduceSub]
  exact⟨lY hp (Nat.le_refl _),rfl⟩
theorem MP {q:Rat}:q.num<0↔q<0:=by rw[←Int.not_le,Rat.num_nonneg];constructor<;>intro h<;>grind
theorem GY (qs:List Rat) (hn:qs.length≤1000000000):TC 58 [aM aY qs] (VB (!(qs.any fun q=>decide (q<0)))):=by
 refine TC.walk ⟨true,false⟩ GR rfl (Nat.le_of_ble_eq_true rfl) (by simp[aO,sY]) rfl ?_
 simp only[B9,Af,VX,Nat.reduceEqDiff,Nat.reduceAdd]
 refine aV (fun(i:Nat) ρ H=>i≤qs.length∧H=[]∧(∀j x,j<i→qs[j]? = some x→¬x<0)∧ρ 0=aM aY qs∧ρ 5=VI qs.length∧ρ 6=VI i) (fun i=>qs.length-i) 0 ⟨Nat.zero_le _,rfl,fun j x h=>by omega,rfl,rfl,rfl⟩ ?_
 rintro i ρ H ⟨hi,rfl,kB,g0,g5,g6⟩
 by_cases cS:(i:Int)<(qs.length:Int)
 ·obtain⟨q,hq⟩:∃q,qs[i]? = some q:=⟨_,List.getElem?_eq_getElem (by omega)⟩
  have e2:=fun H=>aK (f:=aY) (t := .op) (H:=H) (size:=3) (k := .i64) hq rfl
  have wi:IntKind.i64.wrap ((i:Int)+1)=((i+1:Nat):Int):=wrapN (i+1) (by omega) (by omega)
  by_cases lM:q.num<0
  ·have Mi:qs.any (fun q=>decide (q<0))=true:=List.any_eq_true.2 ⟨q,List.mem_of_getElem? hq,decide_eq_true (MP.1 lM)⟩
   rw[Mi]
   simp only[mK,g0,g5,g6,cS,e2,lM,dS,bJ,iP,dJ,aL,bD,bA,iB,Nat.reduceLeDiff,Nat.reduceLT,Nat.reduceSub,rN,dH,dY,kA,oS,sF,bne_iff_ne,ne_eq,not_false_eq_true,not_true_eq_false,VX,Nat.reduceEqDiff,Nat.reduceAdd]
   exact aE rfl
  ·simp only[mK,g0,g5,g6,cS,e2,lM,wi,dS,bJ,iP,dJ,aL,bD,bA,iB,Nat.reduceLeDiff,Nat.reduceLT,Nat.reduceSub,rN,dH,dY,kA,oS,sF,bne_iff_ne,ne_eq,not_false_eq_true,not_true_eq_false,VX,Nat.reduceEqDiff,Nat.reduceAdd]
   refine⟨i+1,by omega,by omega,fun j y hj hy => ?_,rfl⟩
   rcases Nat.lt_or_ge j i with FU | FU
   ·exact kB j y FU hy
   ·have:j=i:=by omega
    subst this
    rw[hq] at hy
    cases hy
    exact mt MP.2 lM
 ·have mI:i=qs.length:=by omega
  subst mI
  have Mi:qs.any (fun q=>decide (q<0))=false:=by
   rw[List.any_eq_false]
   intro x hx
   obtain⟨j,hj⟩:=List.getElem?_of_mem hx
   simpa using kB j x (List.getElem?_eq_some_iff.1 hj).1 hj
  rw[Mi]
  simp only[mK,g0,g5,g6,cS,VX,Nat.reduceEqDiff,Nat.reduceAdd]
  exact aE rfl
theorem Xn {a b:Rat}:a=b↔(decide (a.num<0)=decide (b.num<0)∧a.num.natAbs*b.den=b.num.natAbs*a.den):=by
 constructor
 ·rintro rfl
  exact⟨rfl,rfl⟩
 ·rintro⟨h1,h2⟩
  have h3:a.num<0↔b.num<0:=by simpa using h1
  have ha:=a.den_nz
  have hb:=b.den_nz
  have key:a.num*b.den=b.num*a.den→a=b:=fun h=>by
   have:=(Rat.mkRat_eq_iff (n₁:=a.num) (n₂:=b.num) ha hb).2 h
   rwa [Rat.mkRat_self,Rat.mkRat_self] at this
  refine key ?_
  have e1:(a.num.natAbs:Int)*b.den=b.num.natAbs*a.den:=by exact_mod_cast h2
  by_cases hn:a.num<0
  ·have hn2:=h3.1 hn
   have q1:a.num = -(a.num.natAbs:Int):=by omega
   have q2:b.num = -(b.num.natAbs:Int):=by omega
   rw[q1,q2,Int.neg_mul,Int.neg_mul,e1]
  ·have hn2:=mt h3.2 hn
   have q1:a.num=(a.num.natAbs:Int):=by omega
   have q2:b.num=(b.num.natAbs:Int):=by omega
   rw[q1,q2,e1]
set_option maxHeartbeats 1000000 in
theorem Mu (a b:Rat) (J4:aZ a≤1099511627776) (G2:aZ b≤1099511627776):TC 160 [aY a,aY b] (VB (decide (a=b))):=by
 refine TC.walk ⟨true,false⟩ Mf rfl (Nat.le_of_ble_eq_true rfl) (by simp only[aO,sS];rfl) rfl ?_
 have b1 := @oK a
 have b2 := @oK b
 have b3 := @mP a
 have b4 := @mP b
 have b5:=lL a.num.natAbs b.den
 have b6:=lL b.num.natAbs a.den
 have c1:=dO a.num.natAbs b.den (Nat.le_of_lt (lI (by omega))) (Nat.le_of_lt (lI (by omega)))
 have c2:=dO b.num.natAbs a.den (Nat.le_of_lt (lI (by omega))) (Nat.le_of_lt (lI (by omega)))
 have c3:=rP (a.num.natAbs*b.den) (b.num.natAbs*a.den) (Nat.le_of_lt (lI (by omega))) (Nat.le_of_lt (lI (by omega)))
 by_cases q1:decide (a.num<0)=decide (b.num<0)
 ·have q2:(decide (a.num<0) == decide (b.num<0))=true:=by simpa using q1
  have hz := @yZ (a.num.natAbs*b.den) (b.num.natAbs*a.den)
  by_cases q3:fK (a.num.natAbs*b.den) (b.num.natAbs*a.den)=0
  ·rw[decide_eq_true (Xn.2 ⟨q1,hz.1 q3⟩)]
   simp only[wB,sA,c1,c2,c3,q2,q3,wA,bJ,dS,eT,eY,aL,iB,Nat.reduceLeDiff,Nat.reduceLT,Nat.reduceSub,rN,dH,dY,kA,oS,sF,bne_iff_ne,ne_eq,not_false_eq_true,not_true_eq_false,VX,Nat.reduceEqDiff,Nat.reduceAdd]
   exact aE rfl
  ·rw[decide_eq_false (fun h=>q3 (hz.2 (Xn.1 h).2))]
   simp only[wB,sA,c1,c2,c3,q2,q3,wA,bJ,dS,eT,eY,aL,iB,Nat.reduceLeDiff,Nat.reduceLT,Nat.reduceSub,rN,dH,dY,kA,oS,sF,bne_iff_ne,ne_eq,not_false_eq_true,not_true_eq_false,VX,Nat.reduceEqDiff,Nat.reduceAdd]
   exact aE rfl
 ·have q2:(decide (a.num<0) == decide (b.num<0))=false:=by simpa using q1
  rw[decide_eq_false (fun h=>q1 (Xn.1 h).1)]
  simp only[wB,sA,q2,wA,bJ,dS,eT,eY,aL,iB,Nat.reduceLeDiff,Nat.reduceLT,Nat.reduceSub,rN,dH,dY,kA,oS,sF,bne_iff_ne,ne_eq,not_false_eq_true,not_true_eq_false,VX,Nat.reduceEqDiff,Nat.reduceAdd]
  exact aE rfl
theorem I7 (qs:List Rat) (hb:∀q∈qs,aZ q≤665) (hl:qs.length≤300):TC 96 [aM aY qs] (VB (jN qs)):=by
 refine TC.walk ⟨true,false⟩ IK rfl (Nat.le_of_ble_eq_true rfl) (by simp[aO,sY]) rfl ?_
 have e1:=GY qs (by omega)
 have e2:=fun(K:aA)=>xH (lo:=0) (H:=K) (v:=aM aY qs) qs (Rd.tree nD) (Nat.zero_le _) hb (Nz hl) (by omega) (by omega)
 have hsb:=zY hb qs.length
 rw[List.take_length] at hsb
 have e3:=GH
 have hsr:=Nz hl
 have e4:=Mu (eH qs) 1 (by omega) (by rw[Cn];omega)
 unfold jN
 cases Mi:qs.any (fun q=>decide (q<0)) with
 |
  true =>
  rw[Mi] at e1
  simp only[Bool.not_true,Bool.false_and] at e1 ⊢
  simp only[xO,tK,e1,VX,Nat.reduceEqDiff,Nat.reduceAdd]
  exact aE rfl
 |
  false =>
  rw[Mi] at e1
  simp only[Bool.not_false,Bool.true_and] at e1 ⊢
  simp only[xO,tK,e1,VX,Nat.reduceEqDiff,Nat.reduceAdd]
  refine iM rfl (e2 _) fun r L hr => ?_
  subst hr
  simp only[e3,e4,VX,Nat.reduceEqDiff,Nat.reduceAdd]
  exact aE rfl
end Go.PM
namespace Go.PM
open Go.Lib
end Go.PM
namespace Go.PM
def xM:aD:=(LS [LO 15 (.bin .lss (LT 14) (LT 13))] (.seq (.cond (LT 15) .skip (.exit 0)) (.seq (.block 1 (LS [LM 16 14,LM 5 16] (LS [LM 18 0,LO 19 (.chk (LT 18)),LO 20 (LA 0 19),LO 21 (LL 20),LM 22 5,LO 23 (.iaddr 1 (LT 21) (LT 22)),LO 24 (LL 23),LO 25 (.call 181 [(LT 24)]),LM 17 25,LO 26 (LX 17 0),LO 27 (LX 17 1),LM 6 26,LM 7 27] (.seq (LS [LM 28 7,LO 29 (.un .not (LT 28))] (.cond (LT 29) (LS [LO 30 (.build [(.slice none 0 0)] [(0,1)] []),LN (.store 1 (LT 2) (LT 30)),LO 3 (.mv LF)] .ret) .skip)) (.dE [LO 31 (LA 0 4),LO 32 (LL 31),LM 33 6,LO 34 (.lit [(.slice none 0 0)] 1 [(0,(LT 33))]),LO 35 (.app 1 24 (LT 32) (LT 34)),LO 36 (LA 0 4),LN (.store 1 (LT 36) (LT 35))]))))) (.dE [LO 37 (.bin .add (LT 14) (LI 1)),LM 14 37]))))
def D4:aD:=(LS [LO 2 (.new [(.slice none 0 0)]),LO 3 (.mv LF)] (LS [LO 8 (.build [(.slice none 0 0)] [(0,1)] []),LO 4 (.new [(.slice none 0 0)]),LN (.store 1 (LT 4) (LT 8))] (.seq (LS [LM 9 0,LO 10 (.chk (LT 9)),LO 11 (LA 0 10),LO 12 (LL 11),LO 13 (.len (LT 12)),LO 14 (.mv (LI 0))] (.block 0 (.loop xM))) (LS [LO 38 (.load true 1 (LT 4)),LN (.store 1 (LT 2) (LT 38)),LO 3 (.mv LG)] .ret))))
def Ii:aR:=⟨39,[(.cell 2 true 1),(.tmp 3)],D4⟩
theorem OC:fA 138=some Ii:=by kernel_rfl
end Go.PM
namespace Go.PM
open Go.Lib
theorem Ox (x:List Rat):(aB (aM aY x)).length=1:=rfl
theorem ZJ (m:List (List Rat)):aQ (aM (aM aY) m)=true:=kL Ox sY
theorem aiY (m:List (List Rat)):fX (aM (aM aY) m)=true:=zN Ox B5 fun _=>rfl
end Go.PM
namespace Go.PM
def vE:aD:=(.seq (LS [LM 14 6,LM 15 0,LO 16 (.bin .lss (LT 14) (LT 15))] (.cond (LT 16) .skip (.exit 2))) (.seq (.block 3 (.dE [LM 19 5,LO 20 (.call 77 []),LO 21 (.lit [(.bool false),(.slice none 0 0),(.slice none 0 0)] 1 [(0,(LT 20))]),LO 22 (.app 3 56 (LT 19) (LT 21)),LM 5 22])) (.dE [LM 17 6,LO 18 (.bin .add (LT 17) (LI 1)),LM 6 18])))
def vS:aD:=(.seq (LS [LM 8 4,LM 9 0,LO 10 (.bin .lss (LT 8) (LT 9))] (.cond (LT 10) .skip (.exit 0))) (.seq (.block 1 (LS [LO 13 (.lit [(.bool false),(.slice none 0 0),(.slice none 0 0)] 0 []),LM 5 13] (.seq (LS [LO 6 (.mv (LI 0))] (.block 2 (.loop vE))) (.dE [LM 23 3,LM 24 5,LO 25 (.lit [(.slice none 0 0)] 1 [(0,(LT 24))]),LO 26 (.app 1 24 (LT 23) (LT 25)),LM 3 26])))) (.dE [LM 11 4,LO 12 (.bin .add (LT 11) (LI 1)),LM 4 12])))
def Dt:aD:=(LS [LO 2 (.mv (.const (.slice none 0 0)))] (LS [LO 7 (.lit [(.slice none 0 0)] 0 []),LM 3 7] (.seq (LS [LO 4 (.mv (LI 0))] (.block 0 (.loop vS))) (LS [LM 27 3,LM 2 27] .ret))))
def Gi:aR:=⟨28,[(.tmp 2)],Dt⟩
theorem Mt:fA 76=some Gi:=by kernel_rfl
def DC:aD:=(LS [LO 2 (.new [(.slice none 0 0)]),LO 3 (.mv LF)] (LS [LM 7 0,LO 8 (.build [(.slice none 0 0)] [(0,1)] [(0,(LT 7))]),LO 4 (.new [(.slice none 0 0)]),LN (.store 1 (LT 4) (LT 8))] (LS [LO 10 (.call 138 [(LT 4)]),LM 9 10,LO 11 (LX 9 0),LO 12 (LX 9 1),LO 5 (.new [(.slice none 0 0)]),LN (.store 1 (LT 5) (LT 11)),LM 6 12] (.seq (LS [LM 13 6,LO 14 (.un .not (LT 13))] (.cond (LT 14) (LS [LO 15 (.build [(.slice none 0 0)] [(0,1)] []),LN (.store 1 (LT 2) (LT 15)),LO 3 (.mv LF)] .ret) .skip)) (LS [LO 16 (.load true 1 (LT 5)),LN (.store 1 (LT 2) (LT 16)),LO 3 (.mv LG)] .ret)))))
def GD:aR:=⟨17,[(.cell 2 true 1),(.tmp 3)],DC⟩
theorem L9:fA 61=some GD:=by kernel_rfl
def pR:aD:=(LS [LO 2 (.new [(.bool false),(.slice none 0 0),(.slice none 0 0)]),LO 3 (.mv LF)] (LS [LM 7 0,LO 8 (.call 110 [(LT 7)]),LM 6 8,LO 9 (LX 6 0),LO 10 (LX 6 1),LO 4 (.new [(.bool false),(.slice none 0 0),(.slice none 0 0)]),LN (.store 3 (LT 4) (LT 9)),LM 5 10] (LS [LO 11 (LK 4),LM 12 5,LM 13 12,LY 13 14 (LK 4),⟨(some 15),(.call 59 [(LT 14)]),(some (13,true)),true,[]⟩,LY 13 16 (.un .not (LT 15)),LO 17 (.pick (LT 13) (LT 16) LF),LM 18 17,LY 18 19 (LK 4),⟨(some 20),(.call 111 [(LT 19)]),(some (18,true)),true,[]⟩,LY 18 21 (.un .not (LT 20)),LO 22 (.pick (LT 18) (LT 21) LF),LN (.store 3 (LT 2) (LT 11)),LM 3 22] .ret)))
def uA:aR:=⟨23,[(.cell 2 true 3),(.tmp 3)],pR⟩
theorem NH:fA 87=some uA:=by kernel_rfl
end Go.PM
namespace Go.PM
def xJ:aD:=(.seq (LS [LM 11 4,LM 12 0,LO 13 (.len (LT 12)),LO 14 (.bin .lss (LT 11) (LT 13))] (.cond (LT 14) .skip (.exit 0))) (.seq (.block 1 (LS [LM 17 0,LM 18 4,LO 19 (.iaddr 1 (LT 17) (LT 18)),LO 20 (LL 19),LO 21 (.call 60 [(LT 20)]),LO 5 (.new [(.bool false),(.slice none 0 0),(.slice none 0 0)]),LN (.store 3 (LT 5) (LT 21))] (LS [LO 22 (LK 3),LO 23 (LK 5),LO 24 (.call 80 [(LT 22),(LT 23)])] (.cond (LT 24) (.dE [LO 25 (LK 5),LN (.store 3 (LT 3) (LT 25))]) .skip)))) (.dE [LM 15 4,LO 16 (.bin .add (LT 15) (LI 1)),LM 4 16])))
def xG:aD:=(.seq (LS [LM 34 9,LM 35 0,LO 36 (.len (LT 35)),LO 37 (.bin .lss (LT 34) (LT 36))] (.cond (LT 37) .skip (.exit 4))) (.seq (.block 5 (.dE [LM 40 8,LM 41 0,LM 42 7,LO 43 (.iaddr 1 (LT 41) (LT 42)),LO 44 (LL 43),LM 45 9,LO 46 (.iaddr 3 (LT 44) (LT 45)),LO 47 (LK 46),LO 48 (LK 3),LQ 49 (.call 81 [(LT 47),(LT 48)]),LQ 50 (.lit [(.bool false),(.slice none 0 0),(.slice none 0 0)] 1 [(0,(LT 49))]),LO 51 (.app 3 56 (LT 40) (LT 50)),LM 8 51])) (.dE [LM 38 9,LO 39 (.bin .add (LT 38) (LI 1)),LM 9 39])))
def xP:aD:=(.seq (LS [LM 27 7,LM 28 0,LO 29 (.len (LT 28)),LO 30 (.bin .lss (LT 27) (LT 29))] (.cond (LT 30) .skip (.exit 2))) (.seq (.block 3 (LS [LO 33 (.lit [(.bool false),(.slice none 0 0),(.slice none 0 0)] 0 []),LM 8 33] (.seq (LS [LO 9 (.mv (LI 0))] (.block 4 (.loop xG))) (LS [LM 52 8,LM 53 7,LO 54 (.call 83 []),LM 55 8,LO 56 (.call 60 [(LT 55)]),LO 57 (.call 82 [(LT 54),(LT 56)]),LO 58 (.iaddr 3 (LT 52) (LT 53)),LN (.store 3 (LT 58) (LT 57))] (.dE [LM 59 6,LM 60 8,LO 61 (.lit [(.slice none 0 0)] 1 [(0,(LT 60))]),LO 62 (.app 1 24 (LT 59) (LT 61)),LM 6 62]))))) (.dE [LM 31 7,LO 32 (.bin .add (LT 31) (LI 1)),LM 7 32])))
def Ez:aD:=(LS [LO 2 (.mv (.const (.slice none 0 0)))] (LS [LO 10 (.call 77 []),LO 3 (.new [(.bool false),(.slice none 0 0),(.slice none 0 0)]),LN (.store 3 (LT 3) (LT 10))] (.seq (LS [LO 4 (.mv (LI 0))] (.block 0 (.loop xJ))) (LS [LO 26 (.lit [(.slice none 0 0)] 0 []),LM 6 26] (.seq (LS [LO 7 (.mv (LI 0))] (.block 2 (.loop xP))) (LS [LM 63 6,LM 2 63] .ret))))))
def HK:aR:=⟨64,[(.tmp 2)],Ez⟩
theorem ON:fA 62=some HK:=by kernel_rfl
def tR:aD:=(LS [LO 10 (.new [(.slice none 0 0)]),LO 11 (.mv LF)] (LS [LM 16 0,LM 17 1,LM 18 2,LM 19 3,LM 20 4,LO 21 (.call 107 [(LT 16),(LT 17),(LT 18),(LT 19),(LT 20)]),LM 15 21,LO 22 (LX 15 0),LO 23 (LX 15 1),LO 24 (LX 15 2),LM 12 22,LM 13 23,LM 14 24] (.seq (LS [LM 25 14,LO 26 (.un .not (LT 25))] (.cond (LT 26) (LS [LO 27 (.build [(.slice none 0 0)] [(0,1)] []),LN (.store 1 (LT 10) (LT 27)),LO 11 (.mv LF)] .ret) .skip)) (LS [LM 28 12,LO 29 (.call 62 [(LT 28)]),LO 30 (.call 61 [(LT 29)]),LO 31 (LX 30 0),LO 32 (LX 30 1),LN (.store 1 (LT 10) (LT 31)),LM 11 32] .ret))))
def xF:aR:=⟨33,[(.cell 10 true 1),(.tmp 11)],tR⟩
theorem I6:fA 42=some xF:=by kernel_rfl
def DG:aD:=(LS [LO 2 (.mv LF)] (LS [LM 3 0,LO 4 (.call 88 [(LT 3),(LI 1),(LI 11)]),LM 2 4] .ret))
def GC:aR:=⟨5,[(.tmp 2)],DG⟩
theorem Mb:fA 89=some GC:=by kernel_rfl
def Be:aD:=(LS [LO 7 (.box (LT 3))] (LS [LM 8 1,LM 9 2,LO 10 (.bin .neq (LT 8) (LT 9))] (.cond (LT 10) (.dE [LM 11 0,LM 12 1,LO 13 (.iaddr 1 (LT 11) (LT 12)),LO 14 (LL 13),LM 15 2,LM 16 0,LM 17 1,LO 18 (.iaddr 1 (LT 16) (LT 17)),LO 19 (LL 18),LM 20 2,LO 21 (.iaddr 3 (LT 19) (LT 20)),LO 22 (LK 21),LO 23 (LK 7),LQ 24 (.call 79 [(LT 22),(LT 23)]),LO 25 (.iaddr 3 (LT 14) (LT 15)),LN (.store 3 (LT 25) (LT 24))]) .skip)))
def D5:aR:=⟨26,[],Be⟩
theorem PF:fA 90=some D5:=by kernel_rfl
def iL:aD:=(.seq (LS [LM 61 21,LM 62 17,LO 63 (.len (LT 62)),LO 64 (.bin .lss (LT 61) (LT 63))] (.cond (LT 64) .skip (.exit 2))) (.seq (.block 3 (LS [LM 67 20,LM 68 21,LO 69 (.bin .add (LT 67) (LT 68)),LM 22 69] (.seq (LS [LM 70 22,LM 71 3,LO 72 (.bin .gtr (LT 70) (LT 71))] (.cond (LT 72) (LS [LM 73 3,LM 22 73] (LS [LM 74 4] (.cond (LT 74) (.dE [LM 75 20,LM 22 75]) .skip))) .skip)) (.dE [LM 76 19,LM 77 20,LM 78 22,LO 79 (LK 13),LM 80 17,LM 81 21,LO 82 (.iaddr 3 (LT 80) (LT 81)),LO 83 (LK 82),LQ 84 (.call 125 [(LT 79),(LT 83)]),LO 85 (.call 90 [(LT 76),(LT 77),(LT 78),(LT 84)])])))) (.dE [LM 65 21,LO 66 (.bin .add (LT 65) (LI 1)),LM 21 66])))
def sN:aD:=(.seq (LS [LM 56 20,LM 57 3,LO 58 (.bin .leq (LT 56) (LT 57))] (.cond (LT 58) .skip (.exit 0))) (.seq (.block 1 (.seq (LS [LO 21 (.mv (LI 0))] (.block 2 (.loop iL))) (LS [LM 86 20,LO 87 (.bin .gtr (LT 86) (LI 0))] (.cond (LT 87) (.dE [LM 88 19,LM 89 20,LM 90 20,LO 91 (.bin .sub (LT 90) (LI 1)),LO 92 (LK 15),LO 93 (.call 90 [(LT 88),(LT 89),(LT 91),(LT 92)])]) .skip)))) (.dE [LM 59 20,LO 60 (.bin .add (LT 59) (LI 1)),LM 20 60])))
def jD:aD:=(LS [LO 10 (.mv (.const (.slice none 0 0))),LO 11 (.mv (.const (.slice none 0 0))),LO 12 (.mv LF)] (LS [LM 24 0,LO 25 (.call 87 [(LT 24)]),LM 23 25,LO 26 (LX 23 0),LO 27 (LX 23 1),LO 13 (.new [(.bool false),(.slice none 0 0),(.slice none 0 0)]),LN (.store 3 (LT 13) (LT 26)),LM 14 27] (LS [LM 29 2,LO 30 (.call 87 [(LT 29)]),LM 28 30,LO 31 (LX 28 0),LO 32 (LX 28 1),LO 15 (.new [(.bool false),(.slice none 0 0),(.slice none 0 0)]),LN (.store 3 (LT 15) (LT 31)),LM 16 32] (LS [LM 34 1,LO 35 (.call 164 [(LT 34)]),LM 33 35,LO 36 (LX 33 0),LO 37 (LX 33 1),LM 17 36,LM 18 37] (.seq (LS [LM 38 14,LO 39 (.un .not (LT 38)),LM 40 39,LZ 40 41 (.mv (LT 16)),LZ 40 42 (.un .not (LT 41)),LO 43 (.pick (LT 40) LG (LT 42)),LM 44 43,LZ 44 45 (.mv (LT 18)),LZ 44 46 (.un .not (LT 45)),LO 47 (.pick (LT 44) LG (LT 46)),LM 48 47,LZ 48 49 (.mv (LT 3)),LZ 48 50 (.call 89 [(LT 49)]),LZ 48 51 (.un .not (LT 50)),LO 52 (.pick (LT 48) LG (LT 51))] (.cond (LT 52) (LS [LO 10 (.mv (.const (.slice none 0 0))),LO 11 (.mv (.const (.slice none 0 0))),LO 12 (.mv LF)] .ret) .skip)) (LS [LM 53 3,LO 54 (.bin .add (LT 53) (LI 1)),LO 55 (.call 76 [(LT 54)]),LM 19 55] (.seq (LS [LO 20 (.mv (LI 0))] (.block 0 (.loop sN))) (LS [LM 94 19,LM 95 17,LM 10 94,LM 11 95,LO 12 (.mv LG)] .ret))))))))
def lP:aR:=⟨96,[(.tmp 10),(.tmp 11),(.tmp 12)],jD⟩
theorem Je:fA 107=some lP:=by kernel_rfl
def rV:aD:=(LS [LO 2 (.mv (.const (.slice none 0 0))),LO 3 (.mv LF)] (LS [LM 7 0,LO 8 (.call 57 [(LT 7)]),LM 6 8,LO 9 (LX 6 0),LO 10 (LX 6 1),LM 4 9,LM 5 10] (LS [LM 11 4,LM 12 5,LM 13 12,LY 13 14 (.mv (LT 4)),LY 13 15 (.len (LT 14)),LY 13 16 (.bin .leq (LT 15) (LI 12)),LO 17 (.pick (LT 13) (LT 16) LF),LM 18 17,LY 18 19 (.mv (LT 4)),LY 18 20 (.call 96 [(LT 19)]),LO 21 (.pick (LT 18) (LT 20) LF),LM 2 11,LM 3 21] .ret)))
def wE:aR:=⟨22,[(.tmp 2),(.tmp 3)],rV⟩
theorem Dv:fA 164=some wE:=by kernel_rfl
end Go.PM
namespace Go.PM
open Go.Lib
theorem asL {b g j o e:Nat} {H:aA} {es:List VV} {w:Bool} {x x':VV} (h:aJ H b g=some (es,e,w)) (hx:es[j]? = some x) (hf:PM.fz 7 H x=some x'):PM.fz depth H (.ptr b g j o)=some (x'.dA o):=by
 show PM.fz (7+1) H _=_
 unfold PM.fz
 have:aQ (.ptr b g j o)=false:=rfl
 simp[this,h,hx,hf]
end Go.PM
namespace Go.PM
open Go.Lib
set_option maxHeartbeats 1000000 in
theorem Jo (qs:List Rat) (hn:qs.length≤1000000) (hb:∀q∈qs,aZ q≤1099511627776):FC 181 [aM aY qs] (Ym (LsO sV 1 (Dg qs)) (Dg qs).isSome):=by
 refine FC.KK ⟨true,false⟩ Ir (Nat.le_of_ble_eq_true rfl) fun n => ?_
 have e0:∀K,kD false [.string ⟨#[]⟩] 0 [] K=some (.ref K.length 0 0 0 0,K++[.row 0 [] 1 true]):=fun K=>gY rfl
 simp only[DB,AT,e0,List.length_replicate,eO,VX,Nat.reduceEqDiff,Nat.reduceAdd,Nat.reduceLeDiff,Nat.reduceLT,Nat.reduceSub]
 refine aV (fun(i:Nat) ρ H=>i≤qs.length∧(∀q∈qs.take i,xU q=true)∧H=List.replicate n cB.dead++[cB.row i (((qs.take i).map LD).map sV) 1 true]∧ρ 4 = .ref n i 0 i i∧ρ 0=aM aY qs∧ρ 10=VI qs.length∧ρ 11=VI i) (fun i=>qs.length-i) 0 ⟨Nat.zero_le _,by simp,rfl,rfl,rfl,rfl,rfl⟩ ?_
 rintro i ρ H ⟨hi,sJ,rfl,g4,g0,g10,g11⟩
 have lF:aJ (List.replicate n cB.dead++[cB.row i (((qs.take i).map LD).map sV) 1 true]) n i=some (((qs.take i).map LD).map sV,1,true):=by rw[Dc,bB]
 by_cases cS:(i:Int)<(qs.length:Int)
 ·obtain⟨q,hq⟩:∃q,qs[i]? = some q:=⟨_,List.getElem?_eq_getElem (by omega)⟩
  have hqm:=List.mem_of_getElem? hq
  have a1:=fun H=>aK (f:=aY) (t := .op) (H:=H) (size:=3) (k := .i64) hq rfl
  have wi:IntKind.i64.wrap ((i:Int)+1)=((i+1:Nat):Int):=wrapN (i+1) (by omega) (by omega)
  have e2:=M7 q (hb q hqm)
  unfold UZ at e2
  cases hf:xU q with
  |
   false =>
   rw[if_neg (by simp[hf])] at e2
   rw[UW hqm hf]
   simp only[nO,g4,g0,g10,g11,cS,a1,e2,dJ,eO,VX,Nat.reduceEqDiff,Nat.reduceAdd,Nat.reduceLeDiff,Nat.reduceLT,Nat.reduceSub]
   exact⟨_,BJ (by simp),rfl,BP,.tree [] .nil,rfl,rfl⟩
  |
   true =>
   rw[if_pos hf] at e2
   have eL:∀H,kD false [.string ⟨#[]⟩] 1 [(0,bE (Gm q))] H=some (.tree [sV (LD q)] (.cl 1),H):=fun H=>fU rfl rfl rfl
   have eS:∀H,cT 1 (.tree [sV (LD q)] (.cl 1)) H=some [sV (LD q)]:=fun H=>dL rfl rfl
   have eP:eE n 1 16 (.ref n i 0 i i) [sV (LD q)] (List.replicate n cB.dead++[cB.row i (((qs.take i).map LD).map sV) 1 true])=some (.ref n (i+1) 0 (i+1) (i+1),List.replicate n cB.dead++[cB.row (i+1) (((qs.take (i+1)).map LD).map sV) 1 true]):=by
    rw[gG (f:=sV) (xs:=(qs.take i).map LD) lF (by simp;omega) (Nat.le_refl _) (by decide) (by decide) (by omega),gH hq]
    simp only[List.map_append,CN]
    rfl
   simp only[nO,g4,g0,g10,g11,cS,a1,e2,eL,eS,eP,wi,dJ,eO,VX,Nat.reduceEqDiff,Nat.reduceAdd,Nat.reduceLeDiff,Nat.reduceLT,Nat.reduceSub]
   refine⟨i+1,by omega,by omega,fun p hp => ?_,by (repeat' apply And.intro)<;>first | rfl | trivial | assumption⟩
   rw[gH hq] at hp
   rcases List.mem_append.1 hp with h | h
   ·exact sJ p h
   ·rw[List.mem_singleton] at h;subst h;exact hf
 ·have mI:i=qs.length:=by omega
  subst mI
  rw[List.take_length] at sJ lF
  rw[Q1 sJ]
  simp only[nO,g4,g10,g11,cS,List.take_length,eO,VX,Nat.reduceEqDiff,Nat.reduceAdd,Nat.reduceLeDiff,Nat.reduceLT,Nat.reduceSub]
  refine⟨_,⟨rfl,fun _ _ _ _ _ h=>h⟩,by simp[fO,pJ,lG],by simp only[eI,List.all_cons,List.all_nil,Bool.and_true];exact IG (fun _=>rfl) _,.ref n qs.length 0 qs.length qs.length,rfl,⟨n,qs.length,qs.length,Nat.le_refl _,by simp,by simp,by simp,lF⟩⟩
set_option maxHeartbeats 2000000 in
theorem N2 (m:List (List Rat)) (hn:m.length≤1000000) (hb:∀r∈m,r.length≤1000000∧∀q∈r,aZ q≤1099511627776):FC 138 [(Pp (aM (aM aY) m)).dA 0] (Ym (CG ((xS m).getD [])) (xS m).isSome):=by
 refine FC.KK ⟨true,false⟩ OC (Nat.le_of_ble_eq_true rfl) fun n => ?_
 have s0:bQ n 1 (.ptr (n+1) 0 0 0) (.agg [.tree [] .nil]) (List.replicate n cB.dead++[cB.row 0 [.tree [] .nil] 1 true,.row 0 [.tree [] .nil] 1 true])=some (List.replicate n cB.dead++[cB.row 0 [.tree [] .nil] 1 true,.row 0 [.agg [.tree [] .nil]] 1 true]):=by
  rw[bZ (e:=1) (g:=0) (j:=0) (by rw[FN,nB,bB]) (by exact Nat.zero_lt_one) (by omega) rfl rfl,WK]
  rfl
 simp only[Ii,D4,s0,Y9,Gx,List.length_replicate,List.length_cons,List.length_nil,List.append_assoc,List.cons_append,List.nil_append,gW,eO,VX,Nat.reduceEqDiff,Nat.reduceAdd,Nat.reduceLeDiff,Nat.reduceLT,Nat.reduceSub]
 refine aV (fun(i:Nat) ρ H=>i≤m.length∧CJ n H∧(∃x v bK,aJ H n 0=some ([.tree [] .nil],1,true)∧aJ H (n+1) 0=some ([x],1,true)∧aB x=[v]∧xS (m.take i)=some bK∧Q2 sV 1 bK (n+2) H.length H v)∧ρ 2 = .ptr n 0 0 0∧ρ 4 = .ptr (n+1) 0 0 0∧ρ 0=(Pp (aM (aM aY) m)).dA 0∧ρ 13=VI m.length∧ρ 14=VI i) (fun i=>m.length-i) 0
  ⟨Nat.zero_le _,⟨[.row 0 [.tree [] .nil] 1 true,.row 0 [.agg [.tree [] .nil]] 1 true],rfl,rfl⟩,⟨.agg [.tree [] .nil],.tree [] .nil,[],by rw[Dc,bB],by rw[FN,nB,bB],rfl,rfl,.inl ⟨rfl,rfl⟩⟩,rfl,rfl,rfl,rfl,rfl⟩ ?_
 rintro i ρ H ⟨hi,hO,⟨x,v,bK,DR,HC,hx,HO,hv⟩,g2,g4,g0,g13,g14⟩
 have CC:=hJ HC
 by_cases cS:(i:Int)<(m.length:Int)
 ·obtain⟨r,hr⟩:∃r,m[i]? = some r:=⟨_,List.getElem?_eq_getElem (by omega)⟩
  have D1:=hb r (List.mem_of_getElem? hr)
  have a1:=fun H=>aK (f:=aM aY) (t := .op) (H:=H) (size:=1) (k := .i64) hr rfl
  have wi:IntKind.i64.wrap ((i:Int)+1)=((i+1:Nat):Int):=wrapN (i+1) (by omega) (by omega)
  simp only[xM,g2,g4,g0,g13,g14,cS,a1,Y9,eO,VX,Nat.reduceEqDiff,Nat.reduceAdd,Nat.reduceLeDiff,Nat.reduceLT,Nat.reduceSub]
  refine Qf (n:=n) (Jo r D1.1 D1.2) rfl (fz1 (aE (sY _))) hO LsO.cJ fun u H2 p2 hO2 _ hu => ?_
  cases ht:Dg r with
  |
   none =>
   rw[ht] at hu
   have hu:u = .tree [] .nil:=hu
   subst hu
   have atW:xS m=none:=mapM_none ht (List.mem_of_getElem? hr)
   rw[atW]
   have s1:bQ n 1 (.ptr n 0 0 0) (.agg [.tree [] .nil]) H2=some (H2.set n (.row 0 [.agg [.tree [] .nil]] 1 true)):=by
    rw[bZ (cH p2 DR) (by exact Nat.zero_lt_one) (Nat.le_refl _) rfl rfl]
    rfl
   have s2:cC true 1 (.ptr n 0 0 0) (H2.set n (.row 0 [.agg [.tree [] .nil]] 1 true))=some (.agg [.tree [] .nil]):=by
    rw[bP,cE (cH p2 DR)]
    rfl
   simp only[g2,g4,s1,s2,Option.isSome_none,eO,VX,Nat.reduceEqDiff,Nat.reduceAdd,Nat.reduceLeDiff,Nat.reduceLT,Nat.reduceSub]
   exact⟨_,BJ (by rw[List.length_set];have:=p2.length_le;omega),rfl,BP,.agg [.tree [] .nil],rfl,_,rfl,.inl ⟨rfl,rfl⟩⟩
  |
   some ys =>
   rw[ht] at hu
   obtain⟨b,g,c,k1,k2,rfl,k3,k4⟩:=hu
   have eL:∀K,kD false [.slice none 0 0] 1 [(0,.ref b g 0 ys.length c)] K=some (.tree [.ref b g 0 ys.length c] (.cl 1),K):=fun K=>fU rfl rfl rfl
   have eS:∀K,cT 1 (.tree [.ref b g 0 ys.length c] (.cl 1)) K=some [.ref b g 0 ys.length c]:=fun K=>dL rfl rfl
   obtain⟨v',H3,ap,Sf,cJ,hlen,Pb,AK,_⟩:=(hv.cJ (dK.pre p2)).snoc (iJ:=n) (by omega) (by rw[pY HO,List.length_take];omega) ⟨b,g,c,ys⟩ k1 (by simp only;omega) k3 k4
   have Wy:=cJ _ _ _ (by omega) (cH p2 HC)
   have l1:cC false 1 (.ptr (n+1) 0 0 0) H2=some v:=by
    rw[bP,cH p2 HC]
    simp[dM,hx]
   have l2:aJ H2 (n+1) 0=some ([x],1,true):=cH p2 HC
   have wZ:=Sf.gM
   have s1:bQ n 1 (.ptr (n+1) 0 0 0) v' H3=some (H3.set (n+1) (.row 0 [v'] 1 true)):=by
    rw[bZ Wy (by exact Nat.zero_lt_one) (by omega) (by rw[wZ.2.1];rfl) (by rw[wZ.2.1];simp[wZ.1])]
    rfl
   have hO3:=(Pb n (by omega) hO2).set (b:=n+1) (g:=0) (e:=1) (es:=[v']) (w:=true) (by omega) (by
    rcases Sf with⟨rfl,_⟩ | ⟨b',g',X2,q1,q2,rfl,_⟩
    ·rfl
    ·simp[pJ,fO];omega)
   simp only[g4,g14,wi,eL,eS,l1,ap,s1,Wy,l2,AO,Nat.add_zero,Option.isSome_some,eO,VX,Nat.reduceEqDiff,Nat.reduceAdd,Nat.reduceLeDiff,Nat.reduceLT,Nat.reduceSub]
   refine⟨i+1,by omega,by omega,hO3,⟨v',v',bK++[ys],bX (by omega) (cJ _ _ _ (by omega) (cH p2 DR)),cE Wy,wZ.2.1,?_,?_⟩,by (repeat' apply And.intro)<;>first | rfl | trivial | assumption⟩
   ·rw[gH hr]
    exact Ch HO ht
   ·rw[List.length_set]
    exact Sf.cJ (dK.set (by omega))
 ·have mI:i=m.length:=by omega
  subst mI
  rw[List.take_length] at HO
  rw[HO]
  have wZ:=hv.gM
  have l1:cC true 1 (.ptr (n+1) 0 0 0) H=some (.agg [v]):=by
   rw[bP,HC]
   simp[dM,hx]
  have s1:bQ n 1 (.ptr n 0 0 0) (.agg [v]) H=some (H.set n (.row 0 [.agg [v]] 1 true)):=by
   rw[bZ DR (by exact Nat.zero_lt_one) (Nat.le_refl _) rfl (by simp[aB,wZ.1])]
   rfl
  have s2:cC true 1 (.ptr n 0 0 0) (H.set n (.row 0 [.agg [v]] 1 true))=some (.agg [v]):=by
   rw[bP,cE DR]
   rfl
  simp only[xM,g2,g4,g13,g14,cS,l1,s1,s2,Option.isSome_some,eO,VX,Nat.reduceEqDiff,Nat.reduceAdd,Nat.reduceLeDiff,Nat.reduceLT,Nat.reduceSub]
  have Pb:fO n v=true:=by
   rcases hv with⟨rfl,_⟩ | ⟨b',g',X2,q1,q2,rfl,_⟩
   ·rfl
   ·simp[fO];omega
  obtain⟨L,rfl,hL⟩:=hO
  refine⟨L.set 0 (.row 0 [.agg [v]] 1 true),⟨by simp,fun _ _ _ _ _ h=>by rw[CN];exact h⟩,by simp[fO,pJ,Pb,lG],?_,.agg [v],rfl,v,rfl,?_⟩
  ·have:=(CJ.set (n:=n) (b:=n) (g:=0) (e:=1) (es:=[.agg [v]]) (w:=true) ⟨L,rfl,hL⟩ (Nat.le_refl _) (by simp[pJ,fO,Pb]))
   rw[CN] at this
   obtain⟨L',h1,h2⟩:=this
   rw[List.append_cancel_left h1]
   exact h2
  ·rw[←CN,List.length_set]
   have:=hv.rg.cJ (H':=(List.replicate n cB.dead++L).set n (.row 0 [.agg [v]] 1 true)) (dK.set (by omega))
   rw[Gx] at this
   exact this.wide (by omega) (Nat.le_refl _)
set_option maxHeartbeats 1000000 in
theorem Mq (m:List (List Rat)) (hn:m.length≤1000000) (hb:∀r∈m,r.length≤1000000∧∀q∈r,aZ q≤1099511627776):FC 61 [aM (aM aY) m] (Ym (CG ((xS m).getD [])) (xS m).isSome):=by
 refine FC.KK ⟨true,false⟩ L9 (Nat.le_of_ble_eq_true rfl) fun n => ?_
 have s0:bQ n 1 (.ptr (n+1) 0 0 0) (.agg [aM (aM aY) m]) (List.replicate n cB.dead++[cB.row 0 [.tree [] .nil] 1 true,.row 0 [.tree [] .nil] 1 true])=some (List.replicate n cB.dead++[cB.row 0 [.tree [] .nil] 1 true,.row 0 [Pp (aM (aM aY) m)] 1 true]):=by
  rw[bZ (e:=1) (g:=0) (j:=0) (by rw[FN,nB,bB]) (by exact Nat.zero_lt_one) (by omega) rfl rfl,WK]
  rfl
 have hf:PM.fz depth (List.replicate n cB.dead++[cB.row 0 [.tree [] .nil] 1 true,.row 0 [Pp (aM (aM aY) m)] 1 true]) (.ptr (n+1) 0 0 0)=some ((Pp (aM (aM aY) m)).dA 0):=asL (es:=[Pp (aM (aM aY) m)]) (e:=1) (w:=true) (by rw[FN,nB,bB]) rfl (aI (aiQ (ZJ _)))
 simp only[GD,DC,s0,Gx,List.length_replicate,List.length_cons,List.length_nil,List.append_assoc,List.cons_append,List.nil_append,gW,eO,VX,Nat.reduceEqDiff,Nat.reduceAdd,Nat.reduceLeDiff,Nat.reduceLT,Nat.reduceSub]
 refine(N2 m hn hb).aeV rfl (fz1 hf) ?_
 rintro r L ⟨v,rfl,hv⟩ hr hL
 have hv:=hv.cJ dK.move
 have hlen:(List.replicate n cB.dead++[cB.row 0 [.tree [] .nil] 1 true,.row 0 [Pp (aM (aM aY) m)] 1 true]).length=n+2:=by simp
 rw[hlen] at hv
 obtain⟨c,rfl,hc1,hc2,hc3⟩:=hv.own (n:=n) (by omega)
 have hT:C9 n (n+2) (List.replicate n cB.dead++[cB.row 0 [.tree [] .nil] 1 true,.row 0 [Pp (aM (aM aY) m)] 1 true]++L):=by
  refine C9.app (fun b g es e w hb hr => ?_) (by simp) hL
  rw[List.getElem?_eq_none (by rw[hlen];exact hb)] at hr
  cases hr
 generalize hH:List.replicate n cB.dead++[cB.row 0 [.tree [] .nil] 1 true,.row 0 [Pp (aM (aM aY) m)] 1 true]++L=H2 at *
 have DR:aJ H2 n 0=some ([.tree [] .nil],1,true):=by rw[←hH,List.append_assoc,Dc,List.cons_append,bB]
 have Hz:n+2≤H2.length:=by rw[←hH];simp
 have hll:n+2+L.length=H2.length:=by rw[←hH];simp;omega
 rw[hll] at hv
 have s1:bQ n 1 (.ptr H2.length 0 0 0) (.agg [c]) (H2++[cB.row 0 [.tree [] .nil] 1 true])=some (H2++[cB.row 0 [.agg [c]] 1 true]):=by
  rw[bZ (e:=1) (g:=0) (j:=0) gI (by exact Nat.zero_lt_one) (by omega) rfl (by simp[aB,hc1]),IP]
  rfl
 cases ht:xS m with
 |
  none =>
  have s2:bQ n 1 (.ptr n 0 0 0) (.agg [.tree [] .nil]) (H2++[cB.row 0 [.agg [c]] 1 true])=some ((H2++[cB.row 0 [.agg [c]] 1 true]).set n (.row 0 [.agg [.tree [] .nil]] 1 true)):=by
   rw[bZ (cI DR) (by exact Nat.zero_lt_one) (Nat.le_refl _) rfl rfl]
   rfl
  have s3:cC true 1 (.ptr n 0 0 0) ((H2++[cB.row 0 [.agg [c]] 1 true]).set n (.row 0 [.agg [.tree [] .nil]] 1 true))=some (.agg [.tree [] .nil]):=by
   rw[bP,cE (cI DR)]
   rfl
  simp only[s1,s2,s3,Option.isSome_none,gW,eO,VX,Nat.reduceEqDiff,Nat.reduceAdd,Nat.reduceLeDiff,Nat.reduceLT,Nat.reduceSub]
  exact⟨_,BJ (by rw[List.length_set,List.length_append];omega),rfl,BP,.agg [.tree [] .nil],rfl,_,rfl,.inl ⟨rfl,rfl⟩⟩
 |
  some bK =>
  rw[ht] at hv
  have l1:cC true 1 (.ptr H2.length 0 0 0) (H2++[cB.row 0 [.agg [c]] 1 true])=some (.agg [c]):=by
   rw[bP,gI]
   rfl
  have s2:bQ n 1 (.ptr n 0 0 0) (.agg [c]) (H2++[cB.row 0 [.agg [c]] 1 true])=some ((H2++[cB.row 0 [.agg [c]] 1 true]).set n (.row 0 [.agg [c]] 1 true)):=by
   rw[bZ (cI DR) (by exact Nat.zero_lt_one) (Nat.le_refl _) rfl (by simp[aB,hc1])]
   rfl
  have s3:cC true 1 (.ptr n 0 0 0) ((H2++[cB.row 0 [.agg [c]] 1 true]).set n (.row 0 [.agg [c]] 1 true))=some (.agg [c]):=by
   rw[bP,cE (cI DR)]
   rfl
  simp only[s1,s2,s3,l1,Option.isSome_some,gW,eO,VX,Nat.reduceEqDiff,Nat.reduceAdd,Nat.reduceLeDiff,Nat.reduceLT,Nat.reduceSub]
  have hT2:C9 n (n+2) ((H2++[cB.row 0 [.agg [c]] 1 true]).set n (.row 0 [.agg [c]] 1 true)):=C9.set (C9.ayN hT (by simp[eI,pJ,fO,hc3])) (by omega)
  obtain⟨L2,k1,k2,k3⟩:=S3 (n:=n) (k:=n+2) (by omega) (by rw[List.length_set,List.length_append];omega) hT2
  refine⟨L2,k1,by simp[fO,pJ,hc3,lG],k2,.agg [c],rfl,?_⟩
  obtain⟨c',Vz,hv⟩:=hv
  cases Vz
  have hl3:=k1.1
  rw[List.length_set,List.length_append,List.length_append,List.length_replicate] at hl3
  simp only[Option.getD_some] at hv
  exact⟨c,rfl,(hv.cJ (H':=List.replicate n cB.dead++L2) fun b g x h1 h2 h3=>k3 b g x (by omega) (bX (by omega) (cI h3))).wide (by omega) (by simp only[List.length_cons,List.length_nil] at hl3;omega)⟩
end Go.PM
namespace Go.PM
end Go.PM
namespace Go.PM
open Go.Lib
set_option maxHeartbeats 1000000 in
theorem Ml {lo:Nat} {H:aA} (N:Nat) (hN:N≤1000) (dV:lo≤H.length):iI 76 [VI N] lo H (IZ (TabIs aY 3 (List.replicate N (List.replicate N (0:Rat)))) H):=by
 refine iI.walk ⟨true,false⟩ Mt (Nat.le_of_ble_eq_true rfl) ?_
 have e0:∀K,kD false [.slice none 0 0] 0 [] K=some (.ref K.length 0 0 0 0,K++[.row 0 [] 1 true]):=fun K=>gY rfl
 have e0':∀K,kD false [.bool false,.slice none 0 0,.slice none 0 0] 0 [] K=some (.ref K.length 0 0 0 0,K++[.row 0 [] 3 true]):=fun K=>gY rfl
 have e1:=AB
 have eL:∀H,kD false [.bool false,.slice none 0 0,.slice none 0 0] 1 [(0,aY 0)] H=some (.tree [aY 0] (.cl 3),H):=fun H=>fU rfl rfl rfl
 have eS:∀H,cT 3 (.tree [aY 0] (.cl 3)) H=some [aY 0]:=fun H=>dL rfl rfl
 simp only[Gi,Dt,e0,eO,VX,Nat.reduceEqDiff,Nat.reduceAdd,Nat.reduceLeDiff,Nat.reduceLT,Nat.reduceSub]
 refine aV (fun(i:Nat) ρ H1=>i≤N∧H <+: H1∧(∃rs,rs.length=i∧rs.map (·.xs)=List.replicate i (List.replicate N (0:Rat))∧MG aY 3 H.length H1.length H.length i H1 rs)∧ρ 0=VI N∧ρ 3 = .ref H.length i 0 i i∧ρ 4=VI i) (fun i=>N-i) 0
  ⟨Nat.zero_le _,List.prefix_append _ _,⟨[],rfl,rfl,gI,Nat.le_refl _,by simp,by simp,by simp⟩,rfl,rfl,rfl⟩ ?_
 rintro i ρ H1 ⟨hi,hp,⟨rs,yX,N8,hM⟩,g0,g3,g4⟩
 by_cases cS:(i:Int)<(N:Int)
 ·have wi:IntKind.i64.wrap ((i:Int)+1)=((i+1:Nat):Int):=wrapN (i+1) (by omega) (by omega)
  simp only[vS,g0,g3,g4,cS,e0',eO,VX,Nat.reduceEqDiff,Nat.reduceAdd,Nat.reduceLeDiff,Nat.reduceLT,Nat.reduceSub]
  have CC:=hp.length_le
  refine aV (fun(k:Nat) ρ H2=>k≤N∧H1 <+: H2∧aJ H2 H1.length k=some ((List.replicate k (0:Rat)).map aY,3,true)∧ρ 0=VI N∧ρ 3 = .ref H.length i 0 i i∧ρ 4=VI i∧ρ 5 = .ref H1.length k 0 k k∧ρ 6=VI k) (fun k=>N-k) 0 ⟨Nat.zero_le _,List.prefix_append _ _,gI,g0,g3,g4,rfl,rfl⟩ ?_
  clear g0 g3 g4
  rintro k ρ H2 ⟨hk,MH,lF,g0,g3,g4,g5,g6⟩
  by_cases O6:(k:Int)<(N:Int)
  ·have wk:IntKind.i64.wrap ((k:Int)+1)=((k+1:Nat):Int):=wrapN (k+1) (by omega) (by omega)
   have eP:=Ok (lo:=lo) (bytes:=56) (x:=(0:Rat)) lF (by simp) (by omega) (by decide) (by decide) (by omega)
   simp only[vE,g0,g5,g6,O6,e1,eL,eS,eP,wk,eO,VX,Nat.reduceEqDiff,Nat.reduceAdd,Nat.reduceLeDiff,Nat.reduceLT,Nat.reduceSub]
   exact⟨k+1,by omega,by omega,lY MH (Nat.le_refl _),by rw[List.replicate_succ'];exact cE lF,by (repeat' apply And.intro)<;>first | rfl | trivial | assumption⟩
  ·have hke:k=N:=by omega
   subst hke
   have hA:Q2 aY 3 (List.replicate i (List.replicate k (0:Rat))) H.length H1.length H2 (.ref H.length i 0 i i) := .inr ⟨H.length,i,rs,Nat.le_refl _,hM.bhi,by simp,cH MH hM.out,N8,(hM.pre MH).rows⟩
   have Hz:=hJ lF
   obtain⟨v',H3,ap,Sf,cJ,hlen,Pb,AK,_⟩:=hA.snoc (iJ:=lo) dV (by simp;omega) ⟨H1.length,k,k,List.replicate k 0⟩ (Nat.le_refl _) CC (by simp) lF
   rw[List.length_replicate] at ap
   have eL2:∀K,kD false [.slice none 0 0] 1 [(0,.ref H1.length k 0 k k)] K=some (.tree [.ref H1.length k 0 k k] (.cl 1),K):=fun K=>fU rfl rfl rfl
   have eS2:∀K,cT 1 (.tree [.ref H1.length k 0 k k] (.cl 1)) K=some [.ref H1.length k 0 k k]:=fun K=>dL rfl rfl
   simp only[vE,g0,g3,g4,g5,g6,O6,eL2,eS2,ap,wi,eO,VX,Nat.reduceEqDiff,Nat.reduceAdd,Nat.reduceLeDiff,Nat.reduceLT,Nat.reduceSub]
   rw[←List.replicate_succ'] at Sf
   rcases Sf with⟨_,h⟩ | ⟨b,g,X2,k1,k2,rfl,k3,k4,k5⟩
   ·simp at h
   ·have tQ:=Ok (f:=oE) (lo:=lo) (bytes:=24) (x:=⟨H1.length,k,k,List.replicate k (0:Rat)⟩) (cH MH hM.out) yX.symm dV (by decide) (by decide) (by omega)
    simp only[oE,List.length_replicate] at tQ
    rw[tQ] at ap
    injection ap with ap
    injection ap with ap1 ap2
    injection ap1 with q1 q2 q3 q4 q5
    subst q1 q2
    refine⟨i+1,by omega,by omega,AK H (Nat.le_refl _) (hp.trans MH),⟨X2,by have:=congrArg List.length k4;simpa using this,k4,k3,Nat.le_refl _,k2,k5.nd,k5.row⟩,by (repeat' apply And.intro)<;>first | rfl | trivial | assumption | rw[List.length_replicate]⟩
 ·have mI:i=N:=by omega
  subst mI
  simp only[vS,g0,g3,g4,cS,eO,VX,Nat.reduceEqDiff,Nat.reduceAdd,Nat.reduceLeDiff,Nat.reduceLT,Nat.reduceSub]
  exact⟨hp,H.length,i,i,rs,by rw[List.length_replicate],by simp,hM,N8⟩
def SvS (s:MF) (lo hi:Nat) (H:aA) (v:VV):Prop:=(∃a b c,v = .agg [a,b,c]∧bS a=true∧bS b=true∧bS c=true∧∀n,n≤lo→fO n a=true∧fO n b=true∧fO n c=true)∧HQ (svV s) lo hi H v
theorem SvS.cJ {s:MF}:∀ {lo hi H H' v},SvS s lo hi H v→dK lo hi H H'→SvS s lo hi H' v:=fun h hk=>⟨h.1,h.2.cJ hk⟩
theorem SvS.wide {s:MF}:∀ {lo hi iJ nH:Nat} {H:aA} {v:VV},SvS s lo hi H v→iJ≤lo→hi≤nH→SvS s iJ nH H v:=fun h hl hh=>by
 obtain⟨⟨a,b,c,h1,h2,h3,h4,h5⟩,h6⟩:=h
 exact⟨⟨a,b,c,h1,h2,h3,h4,fun n hn=>h5 n (by omega)⟩,fun H' hk=>h6 H' (hk.sub hl hh)⟩
theorem SvS.ag {s:MF} {lo hi:Nat} {H:aA} {v:VV} (h:SvS s lo hi H v) (n:Nat) (hn:n≤lo):∃a b c,v = .agg [a,b,c]∧bS a=true∧bS b=true∧bS c=true∧fO n a=true∧fO n b=true∧fO n c=true:=by
 obtain⟨⟨a,b,c,h1,h2,h3,h4,h5⟩,_⟩:=h
 exact⟨a,b,c,h1,h2,h3,h4,h5 n hn⟩
end Go.PM
namespace Go.PM
open Go.Lib
theorem ZW {qs:List Rat} {x:List ByteArray} (h:Dg qs=some x):x.length=qs.length:=by
 unfold Dg at h
 split at h
 ·cases h
  rw[List.length_map]
 ·cases h
theorem LsO.own {α:Type} {f:α→VV} {e lo hi n:Nat} {H:aA} {v:VV} {o:Option (List α)} (h:LsO f e o lo hi H v) (hn:n≤lo):fO n v=true:=by
 cases o with
 |
  none =>
  have h:v = .tree [] .nil:=h
  subst h
  rfl
 |
  some ys =>
  obtain⟨b,g,c,h1,h2,rfl,h3⟩:=h
  simp[fO];omega
theorem Q2.own {α:Type} {f:α→VV} {e lo hi n:Nat} {H:aA} {v:VV} {bK:List (List α)} (h:Q2 f e bK lo hi H v) (hn:n≤lo):fO n v=true:=by
 rcases h with⟨rfl,_⟩ | ⟨b,g,rs,q1,q2,rfl,_⟩
 ·rfl
 ·simp[fO];omega
end Go.PM
namespace Go.PM
open Go.Lib
end Go.PM
namespace Go.PM
open Go.Lib
set_option maxHeartbeats 4000000 in
theorem N9 {lo:Nat} {H:aA} {v:VV} (m:List (List Rat)) {n B:Nat} (hv:RdT aY 3 m H v) (dV:lo≤H.length) (hm:m.length=n) (hn:n≤100) (hB:B≤1000000) (hb:∀r∈m,r.length=n∧∀q∈r,aZ q≤B) (hd:cR m≠0) :
  iI 62 [v] lo H (IZ (TabIs aY 3 (nK m)) H):=by
 have hmul:n*(B+1)≤100*(B+1):=Nat.mul_le_mul_right _ hn
 have vD:∀r∈m,r.length≤n∧∀q∈r,aZ q≤B:=fun r hr=>⟨Nat.le_of_eq (hb r hr).1,(hb r hr).2⟩
 refine iI.walk ⟨true,false⟩ ON (Nat.le_of_ble_eq_true rfl) ?_
 have e1:=AB
 have s0:=JU (lo:=lo) (H:=H) (q:=0) dV
 simp only[HK,Ez,e1,s0,eO,VX,Nat.reduceEqDiff,Nat.reduceAdd,Nat.reduceLeDiff,Nat.reduceLT,Nat.reduceSub]
 refine aV (fun(i:Nat) ρ H1=>i≤m.length∧H <+: H1∧aJ H1 H.length 0=some ([aY (jQ m i)],3,true)∧ρ 0=v∧ρ 3 = .ptr H.length 0 0 0∧ρ 4=VI i) (fun i=>m.length-i) 0 ⟨Nat.zero_le _,List.prefix_append _ _,gI,rfl,rfl,rfl⟩ ?_
 rintro i ρ H1 ⟨hi,hp,Yc,g0,g3,g4⟩
 have CC:=hJ Yc
 have el:=hv.len H1 hp
 by_cases cS:(i:Int)<(m.length:Int)
 ·obtain⟨r,hr⟩:∃r,m[i]? = some r:=⟨_,List.getElem?_eq_getElem (by omega)⟩
  have D1:=hb r (List.mem_of_getElem? hr)
  obtain⟨p,w,a1,a2,hw⟩:=hv.get H1 hp i r hr
  have wi:IntKind.i64.wrap ((i:Int)+1)=((i+1:Nat):Int):=wrapN (i+1) (by omega) (by omega)
  have yX:r.length*(B+1)≤100*(B+1):=Nat.mul_le_mul_right _ (by omega)
  simp only[xJ,g0,g3,g4,cS,el,a1,a2,eO,VX,Nat.reduceEqDiff,Nat.reduceAdd,Nat.reduceLeDiff,Nat.reduceLT,Nat.reduceSub]
  refine iM rfl (xH (H:=H1) r hw (by omega) D1.2 (by omega) (by omega) (by omega)) fun x L hx => ?_
  subst hx
  have Ht:=cI (L:=L) Yc
  have MH:=kZ (L:=L) hp
  have Hz:H1.length≤(H1++L).length:=by rw[List.length_append];omega
  generalize H1++L=H2 at *
  have s1:=JU (lo:=lo) (H:=H2) (q:=eH r) (by omega)
  have s2:=afD (H:=H2) (K:=[]) (q:=eH r)
  have s3:cC true 3 (.ptr H.length 0 0 0) (H2++[cB.row 0 [aY (eH r)] 3 true])=some (aY (jQ m i)):=by
   rw[bP,cI Ht]
   exact dJ _
  have b1:=vG D1.2 (Nat.le_of_eq D1.1)
  have b2:=vZ vD i
  have e3:=OY (jQ m i) (eH r) (by omega) (by omega)
  have DZ:=A1 hr
  by_cases hc:jQ m i<eH r
  ·rw[decide_eq_true hc] at e3
   rw[if_pos hc] at DZ
   have s4:=bZ (lo:=lo) (v:=aY (eH r)) (j:=0) (cI (L:=[.row 0 [aY (eH r)] 3 true]) Ht) (by exact Nat.zero_lt_one) dV rfl rfl
   rw[List.set_cons_zero] at s4
   simp only[g0,g3,g4,s1,s2,s3,s4,e3,wi,eO,VX,Nat.reduceEqDiff,Nat.reduceAdd,Nat.reduceLeDiff,Nat.reduceLT,Nat.reduceSub]
   exact⟨i+1,by omega,by omega,lY (kZ MH) (Nat.le_refl _),by rw[DZ];exact cE (cI Ht),by (repeat' apply And.intro)<;>first | rfl | trivial | assumption⟩
  ·rw[decide_eq_false hc] at e3
   rw[if_neg hc] at DZ
   simp only[g0,g3,g4,s1,s2,s3,e3,wi,eO,VX,Nat.reduceEqDiff,Nat.reduceAdd,Nat.reduceLeDiff,Nat.reduceLT,Nat.reduceSub]
   exact⟨i+1,by omega,by omega,kZ MH,by rw[DZ];exact cI Ht,by (repeat' apply And.intro)<;>first | rfl | trivial | assumption⟩
 ·have mI:i=m.length:=by omega
  subst mI
  have e0:∀K,kD false [.slice none 0 0] 0 [] K=some (.ref K.length 0 0 0 0,K++[.row 0 [] 1 true]):=fun K=>gY rfl
  simp only[xJ,g0,g3,g4,cS,el,e0,eO,VX,Nat.reduceEqDiff,Nat.reduceAdd,Nat.reduceLeDiff,Nat.reduceLT,Nat.reduceSub]
  have Yc:aJ H1 H.length 0=some ([aY (cR m)],3,true):=Yc
  have bm:=vZ vD m.length
  rw[←cR] at bm
  refine aV (fun(i:Nat) ρ H2=>i≤m.length∧H <+: H2∧aJ H2 H.length 0=some ([aY (cR m)],3,true)∧(∃rs,rs.length=i∧rs.map (·.xs)=(nK m).take i∧MG aY 3 H1.length H2.length H1.length i H2 rs)∧ρ 0=v∧ρ 3 = .ptr H.length 0 0 0∧ρ 6 = .ref H1.length i 0 i i∧ρ 7=VI i) (fun i=>m.length-i) 0
   ⟨Nat.zero_le _,kZ hp,cI Yc,⟨[],rfl,rfl,gI,Nat.le_refl _,by simp,by simp,by simp⟩,by (repeat' apply And.intro)<;>first | rfl | trivial | assumption⟩ ?_
  clear g0 g3 g4 cS el
  rintro i ρ H2 ⟨hi,MH,Ht,⟨rs,yX,N8,hM⟩,g0,g3,g6,g7⟩
  have el:=hv.len H2 MH
  by_cases cS:(i:Int)<(m.length:Int)
  ·obtain⟨r,hr⟩:∃r,m[i]? = some r:=⟨_,List.getElem?_eq_getElem (by omega)⟩
   have D1:=hb r (List.mem_of_getElem? hr)
   have wi:IntKind.i64.wrap ((i:Int)+1)=((i+1:Nat):Int):=wrapN (i+1) (by omega) (by omega)
   have hbh:=hM.bhi
   have e0':∀K,kD false [.bool false,.slice none 0 0,.slice none 0 0] 0 [] K=some (.ref K.length 0 0 0 0,K++[.row 0 [] 3 true]):=fun K=>gY rfl
   simp only[xP,g0,g3,g6,g7,cS,el,e0',eO,VX,Nat.reduceEqDiff,Nat.reduceAdd,Nat.reduceLeDiff,Nat.reduceLT,Nat.reduceSub]
   have Hz:=MH.length_le
   refine aV (fun(k:Nat) ρ H3=>k≤n∧H2 <+: H3∧aJ H3 H2.length k=some (((r.take k).map (· / cR m)).map aY,3,true)∧ρ 0=v∧ρ 3 = .ptr H.length 0 0 0∧ρ 6 = .ref H1.length i 0 i i∧ρ 7=VI i∧ρ 8 = .ref H2.length k 0 k k∧ρ 9=VI k) (fun k=>n-k) 0 ⟨Nat.zero_le _,List.prefix_append _ _,gI,by (repeat' apply And.intro)<;>first | rfl | trivial | assumption⟩ ?_
   clear g0 g3 g6 g7
   rintro k ρ H3 ⟨hk,hp3,lF,g0,g3,g6,g7,g8,g9⟩
   have arZ:=MH.trans hp3
   have el3:=hv.len H3 arZ
   have hl3:=hJ lF
   by_cases O6:(k:Int)<(m.length:Int)
   ·obtain⟨q,hq⟩:∃q,r[k]? = some q:=⟨_,List.getElem?_eq_getElem (by omega)⟩
    obtain⟨p,w,a1,a2,hw⟩:=hv.get H3 arZ i r hr
    obtain⟨p2,a3,a4⟩:=hw.get H3 (List.prefix_refl _) k q hq
    have a4':=(a4 true).trans (dJ _)
    have wk:IntKind.i64.wrap ((k:Int)+1)=((k+1:Nat):Int):=wrapN (k+1) (by omega) (by omega)
    have s3:cC true 3 (.ptr H.length 0 0 0) H3=some (aY (cR m)):=by
     rw[bP,cH hp3 Ht]
     exact dJ _
    have e4:=Nk q (cR m) hd (by have:=D1.2 q (List.mem_of_getElem? hq);omega) (by omega)
    have eL:∀H,kD false [.bool false,.slice none 0 0,.slice none 0 0] 1 [(0,aY (q / cR m))] H=some (.tree [aY (q / cR m)] (.cl 3),H):=fun H=>fU rfl rfl rfl
    have eS:∀H,cT 3 (.tree [aY (q / cR m)] (.cl 3)) H=some [aY (q / cR m)]:=fun H=>dL rfl rfl
    have eP:=Ok (lo:=lo) (bytes:=56) (x:=q / cR m) lF (by simp;omega) (by omega) (by decide) (by decide) (by omega)
    simp only[xG,g0,g3,g7,g8,g9,O6,el3,a1,a2,a3,a4',s3,e4,eL,eS,eP,wk,eO,VX,Nat.reduceEqDiff,Nat.reduceAdd,Nat.reduceLeDiff,Nat.reduceLT,Nat.reduceSub]
    exact⟨k+1,by omega,by omega,lY hp3 (Nat.le_refl _),by rw[gH hq,List.map_append (l₁:=r.take k)];exact cE lF,by (repeat' apply And.intro)<;>first | rfl | trivial | assumption⟩
   ·have hke:k=n:=by omega
    subst hke
    rw[List.take_of_length_le (by omega)] at lF
    have e4:=GH
    simp only[xG,g0,g3,g6,g7,g8,g9,O6,el3,e4,eO,VX,Nat.reduceEqDiff,Nat.reduceAdd,Nat.reduceLeDiff,Nat.reduceLT,Nat.reduceSub]
    have qb:=Ku D1.2 bm
    have aeQ:(r.map (· / cR m)).length*(B+(k*(B+1)+1)+1+1)≤100*(B+(k*(B+1)+1)+1+1):=Nat.mul_le_mul_right _ (by rw[List.length_map];omega)
    have IX:(r.map (· / cR m)).length=k:=by rw[List.length_map];omega
    refine iM rfl (xH (H:=H3) (v := .ref H2.length k 0 k k) (r.map (· / cR m)) (Rd.row lF IX.symm) (by omega) qb (by omega) (by omega) (by omega)) fun x L4 hx => ?_
    subst hx
    have hM4:=hM.pre (hp3.trans (List.prefix_append H3 L4))
    have asS:=cH (hp3.trans (List.prefix_append H3 L4)) Ht
    have hp4:=kZ (L:=L4) arZ
    have hl4:H3.length≤(H3++L4).length:=by rw[List.length_append];omega
    have k5:=cI (L:=L4) lF
    generalize H3++L4=H4 at *
    have b3:=vG (n:=k) qb (Nat.le_of_eq IX)
    have ayW:k*(B+(k*(B+1)+1)+1+1)≤100*(B+(k*(B+1)+1)+1+1):=Nat.mul_le_mul_right _ hn
    have e5:=Mj 1 (eH (r.map (· / cR m))) (by rw[Cn];omega) (by omega)
    have a3:=bC (o:=0) (n:=k) (c:=k) (i:=i) (k := .i64) k5 (by omega)
    rw[Nat.zero_add] at a3
    have s5:bQ lo 3 (.ptr H2.length k i 0) (aY (1-eH (r.map (· / cR m)))) H4=some (H4.set H2.length (.row k ((lD (cR m) i r).map aY) 3 true)):=eV (lo:=lo) (f:=aY) (x:=1-eH (r.map (· / cR m))) (j:=i) k5 (by omega) (by omega) rfl rfl
    have hM5:=hM4.cJ (H':=H4.set H2.length (.row k ((lD (cR m) i r).map aY) 3 true)) (dK.set (by omega))
    have k6:=cE (g:=k) (e:=3) (w:=true) (es:=(lD (cR m) i r).map aY) k5
    have Ye:(lD (cR m) i r).length=k:=by rw[lD,List.length_set];exact IX
    obtain⟨ap,hM6⟩:=hM5.snoc (iJ:=lo) yX.symm (by omega) (by omega) ⟨H2.length,k,k,lD (cR m) i r⟩ (Nat.le_refl _) (by simp only[Ye];exact Nat.le_refl _) k6
    simp only[Ye] at ap
    have eL:∀K,kD false [.slice none 0 0] 1 [(0,.ref H2.length k 0 k k)] K=some (.tree [.ref H2.length k 0 k k] (.cl 1),K):=fun K=>fU rfl rfl rfl
    have eS:∀K,cT 1 (.tree [.ref H2.length k 0 k k] (.cl 1)) K=some [.ref H2.length k 0 k k]:=fun K=>dL rfl rfl
    simp only[g6,g7,g8,e5,a3,s5,eL,eS,ap,wi,eO,VX,Nat.reduceEqDiff,Nat.reduceAdd,Nat.reduceLeDiff,Nat.reduceLT,Nat.reduceSub]
    refine⟨i+1,by omega,by omega,lY (lY hp4 (by omega)) (by omega),bX (by omega) (bX (by omega) asS),⟨rs++[⟨H2.length,k,k,lD (cR m) i r⟩],by rw[List.length_append,yX];rfl,?_,?_⟩,by (repeat' apply And.intro)<;>first | rfl | trivial | assumption⟩
    ·have tF:(nK m)[i]? = some (lD (cR m) i r):=by
      rw[nK,CZ (by omega),List.getD_eq_getElem?_getD,hr]
      rfl
     rw[gH tF,List.map_append,N8]
     rfl
    ·exact hM6.wide (Nat.le_refl _) (by simp)
  ·have mI:i=m.length:=by omega
   subst mI
   rw[List.take_of_length_le (by rw[nK,wC];exact Nat.le_refl _)] at N8
   simp only[xP,g0,g3,g6,g7,cS,el,eO,VX,Nat.reduceEqDiff,Nat.reduceAdd,Nat.reduceLeDiff,Nat.reduceLT,Nat.reduceSub]
   have Ye:(nK m).length=m.length:=by rw[nK,wC]
   exact⟨MH,H1.length,m.length,m.length,rs,by rw[Ye],by rw[Ye];exact Nat.le_refl _,hM.wide hp.length_le (Nat.le_refl _),N8⟩
end Go.PM
namespace Go.PM
open Go.Lib
end Go.PM
namespace Go.PM
open Go.Lib
section
variable {b:List Rat} {g:List (List Rat)} {e row:List Rat} {n i:Nat} {st:List Bool}
end
end Go.PM
namespace Go.PM
open Go.Lib
end Go.PM
namespace Go.PM
end Go.PM
namespace Go.PM
theorem uK (q:Rat):(aB (aY q)).all bS=true:=rfl
theorem aiK {lo k:Nat} {H K:aA} {x:VV} {q:Rat} (h:lo≤H.length) (hK:K[k]? = some (.row 0 [x] 3 true)):bQ lo 3 (.ptr (H.length+k) 0 0 0) (aY q) (H++K)=some (H++K.set k (.row 0 [aY q] 3 true)):=by
 have hr:aJ (H++K) (H.length+k) 0=some ([x],3,true):=by
  rw[cK,List.getElem?_append_right (by omega),Nat.add_sub_cancel_left]
  exact hK
 rw[bZ (e:=3) hr (by exact Nat.zero_lt_one) (by omega) (nD q) (uK q),List.set_append_right _ _ (by omega),Nat.add_sub_cancel_left]
 rfl
theorem anN {k:Nat} {H K:aA} {q:Rat} (hK:K[k]? = some (.row 0 [aY q] 3 true)):cC true 3 (.ptr (H.length+k) 0 0 0) (H++K)=some (aY q):=by
 have hr:aJ (H++K) (H.length+k) 0=some ([aY q],3,true):=by
  rw[cK,List.getElem?_append_right (by omega),Nat.add_sub_cancel_left]
  exact hK
 rw[bP,hr]
 exact dJ q
theorem axO {H:aA} {b:Nat} {q:Rat} (h:aJ H b 0=some ([aY q],3,true)):cC true 3 (.ptr b 0 0 0) H=some (aY q):=by
 rw[bP,h]
 exact dJ q
end Go.PM
namespace Go.PM
open Go.Lib
section
variable {lo iJ hi N b g c:Nat} {H:aA} {L:List Dp}
theorem Ua (hT:Tb aP iJ hi N N b g (fY L) H) (i j:Nat) (q:Rat) (nH:i<N) (hj:j<N) (dV:lo≤iJ) (hF:aZ (fY L i j)≤1000000) (hq:aZ q≤1000000) :
  iI 95 [.ref b g 0 N c,VI i,VI j,aP q] lo H fun _ H'=>Pw iJ hi H H'∧Tb aP iJ hi N N b g (fY (L++[(i,j,q)])) H':=by
 refine iI.walk ⟨true,false⟩ Eu (Nat.le_of_ble_eq_true rfl) ?_
 have lq:∀K,cC true 3 (.dA (aP q) 0) K=some (aP q):=fun K=>cZ q
 by_cases h:i=j
 ·subst h
  simp only[sP,pP,NP,ne_eq,not_true_eq_false,decide_false,if_true,eO,VX,Nat.reduceEqDiff,Nat.reduceAdd,Nat.reduceLeDiff,Nat.reduceLT,Nat.reduceSub]
  exact⟨Pw.refl,by rw[Hy];exact hT⟩
 ·have fT:¬(i:Int)=(j:Int):=by omega
  obtain⟨rb,rg,rc,c1,c2,c3,c4⟩:=hT.spot nH hj Fe NP
  obtain⟨H2,c5,c6,hT2,_⟩:=c4 lo (fY L i j+q) dV
  have a1:=hT.addr (c:=c) nH
  have a2:=(c3 true).trans (cZ _)
  have e1:=zI (fY L i j) q (by omega) (by omega)
  simp only[sP,pP,NP,fT,a1,a2,c1,c2,c5,e1,lq,ne_eq,not_false_eq_true,decide_true,if_true,eO,VX,Nat.reduceEqDiff,Nat.reduceAdd,Nat.reduceLeDiff,Nat.reduceLT,Nat.reduceSub]
  exact⟨c6,by rw[Hc,TF h];exact hT2⟩
theorem Pq (hT:Tb aY iJ hi N N b g (fY L) H) (i j:Nat) (q:Rat) (nH:i<N) (hj:j<N) (dV:lo≤iJ) (hF:aZ (fY L i j)≤1000000) (hq:aZ q≤1000000) :
  iI 90 [.ref b g 0 N c,VI i,VI j,aY q] lo H fun _ H'=>Pw iJ hi H H'∧Tb aY iJ hi N N b g (fY (L++[(i,j,q)])) H':=by
 refine iI.walk ⟨true,false⟩ PF (Nat.le_of_ble_eq_true rfl) ?_
 have lq:∀K,cC true 3 (.dA (aY q) 0) K=some (aY q):=fun K=>dJ q
 by_cases h:i=j
 ·subst h
  simp only[D5,Be,uK,ne_eq,not_true_eq_false,decide_false,if_true,eO,VX,Nat.reduceEqDiff,Nat.reduceAdd,Nat.reduceLeDiff,Nat.reduceLT,Nat.reduceSub]
  exact⟨Pw.refl,by rw[Hy];exact hT⟩
 ·have fT:¬(i:Int)=(j:Int):=by omega
  obtain⟨rb,rg,rc,c1,c2,c3,c4⟩:=hT.spot nH hj nD uK
  obtain⟨H2,c5,c6,hT2,_⟩:=c4 lo (fY L i j+q) dV
  have a1:=hT.addr (c:=c) nH
  have a2:=(c3 true).trans (dJ _)
  have e1:=Bi (fY L i j) q (by omega) (by omega)
  simp only[D5,Be,uK,fT,a1,a2,c1,c2,c5,e1,lq,ne_eq,not_false_eq_true,decide_true,if_true,eO,VX,Nat.reduceEqDiff,Nat.reduceAdd,Nat.reduceLeDiff,Nat.reduceLT,Nat.reduceSub]
  exact⟨c6,by rw[Hc,TF h];exact hT2⟩
structure Tq (f:Rat→VV) (lo hi N b g:Nat) (L:List Dp) (H:aA):Prop where
 t:Tb f lo hi N N b g (fY L) H
 b:∀t∈L,aZ t.2.2≤1331
 l:L.length≤400
theorem Tq.bits {f:Rat→VV} (h:Tq f lo hi N b g L H) (i j:Nat):aZ (fY L i j)≤1000000:=by
 have h1:=OF h.b i j
 have h2:L.length*(1331+1)≤400*(1331+1):=Nat.mul_le_mul_right _ h.l
 omega
theorem Tq.cJ {f:Rat→VV} {H':aA} (h:Tq f lo hi N b g L H) (hk:dK lo hi H H'):Tq f lo hi N b g L H':=⟨h.t.cJ hk,h.b,h.l⟩
theorem Tq.pre {f:Rat→VV} {H':aA} (h:Tq f lo hi N b g L H) (hh:H <+: H'):Tq f lo hi N b g L H':=h.cJ (dK.pre hh)
theorem Tq.snoc {f:Rat→VV} {H':aA} {i j:Nat} {q:Rat} (h:Tq f lo hi N b g L H) (hT:Tb f lo hi N N b g (fY (L++[(i,j,q)])) H') (hq:aZ q≤1331) (hl:L.length<400):Tq f lo hi N b g (L++[(i,j,q)]) H' :=
 ⟨hT,fun t ht=>by
  rcases List.mem_append.1 ht with ht | ht
  ·exact h.b t ht
  ·rw[List.mem_singleton] at ht
   subst ht
   exact hq,by rw[List.length_append];exact hl⟩
theorem Tq.same {f:Rat→VV} {i:Nat} {q:Rat} (h:Tq f lo hi N b g L H) (hq:aZ q≤1331) (hl:L.length<400):Tq f lo hi N b g (L++[(i,i,q)]) H:=h.snoc (by rw[Hy];exact h.t) hq hl
theorem Qm {K:VV→aA→Prop} (hT:Tq aP iJ hi N b g L H) (i j:Nat) (q:Rat) (nH:i<N) (hj:j<N) (dV:lo≤iJ) (hq:aZ q≤1331) (hl:L.length<400)
  (hk:∀r H',Pw iJ hi H H'→Tq aP iJ hi N b g (L++[(i,j,q)]) H'→K r H'):cO 95 [.ref b g 0 N c,VI i,VI j,aP q] lo H K :=
 fS rfl ((Ua hT.t i j q nH hj dV (hT.bits i j) (by omega)).mono fun r H' h=>hk r H' h.1 (hT.snoc h.2 hq hl))
theorem It {K:VV→aA→Prop} (hT:Tq aY iJ hi N b g L H) (i j:Nat) (q:Rat) (nH:i<N) (hj:j<N) (dV:lo≤iJ) (hq:aZ q≤1331) (hl:L.length<400)
  (hk:∀r H',Pw iJ hi H H'→Tq aY iJ hi N b g (L++[(i,j,q)]) H'→K r H'):cO 90 [.ref b g 0 N c,VI i,VI j,aY q] lo H K :=
 fS rfl ((Pq hT.t i j q nH hj dV (hT.bits i j) (by omega)).mono fun r H' h=>hk r H' h.1 (hT.snoc h.2 hq hl))
end
theorem To {lo N:Nat} {H:aA} {K:VV→aA→Prop} (hN:N≤1000) (dV:lo≤H.length) (hk:∀b g c L,N≤c→Tq aP H.length (H++L).length N b g [] (H++L)→K (.ref b g 0 N c) (H++L)):cO 94 [VI N] lo H K:=by
 refine iM rfl (iI.walk ⟨true,false⟩ JX (Nat.le_of_ble_eq_true rfl) (K:=IZ (TabIs aP 3 (Pd N N fun _ _=>0)) H) ?_) fun r L hr => ?_
 ·simp only[EA,BQ,eO,VX,Nat.reduceEqDiff,Nat.reduceAdd,Nat.reduceLeDiff,Nat.reduceLT,Nat.reduceSub]
  refine iM rfl (Sh N hN dV) fun r L hr => ?_
  rw[UR] at hr
  simp only[eO,VX,Nat.reduceEqDiff,Nat.reduceAdd,Nat.reduceLeDiff,Nat.reduceLT,Nat.reduceSub]
  exact⟨List.prefix_append _ _,hr⟩
 ·obtain⟨b,g,c,rfl,h1,h2⟩:=hr.tb
  exact hk b g c L h1 ⟨h2,(fun t ht=>by cases ht),by decide⟩
theorem Uk {lo N:Nat} {H:aA} {K:VV→aA→Prop} (hN:N≤1000) (dV:lo≤H.length) (hk:∀b g c L,N≤c→Tq aY H.length (H++L).length N b g [] (H++L)→K (.ref b g 0 N c) (H++L)):cO 76 [VI N] lo H K:=by
 refine iM rfl (Ml N hN dV) fun r L hr => ?_
 rw[UR] at hr
 obtain⟨b,g,c,rfl,h1,h2⟩:=hr.tb
 exact hk b g c L h1 ⟨h2,(fun t ht=>by cases ht),by decide⟩
theorem asY {H:aA} {es:List VV} {k:Nat} (hp:aO es=true):PM.fz depth H (.tree es (.cl k))=some (.tree es .op):=by
 have h0:aQ (.tree es (.cl k))=false:=by simp[aQ]
 show PM.fz (7+1) H _=_
 unfold PM.fz
 simp only[h0,Bool.false_eq_true,if_false]
 rw[mapM_pure (n:=6) hp]
 rfl
theorem Zp {H:aA} {es:List VV} {k:Nat} (hp:aO es=true):iS depth H (.tree es (.cl k))=[]:=by
 have h0:aQ (.tree es (.cl k))=false:=by simp[aQ]
 show iS (7+1) H _=_
 unfold iS
 simp only[h0,Bool.false_eq_true,if_false]
 exact yG hp
theorem TC.cl {f lo k:Nat} {H:aA} {es:List VV} {r:VV} {K:VV→aA→Prop} (h:TC f [.tree es .op] r) (hr:Cf.contains f=false) (hp:aO es=true) (DQ:aQ (.tree es .op)=true):cO f [.tree es (.cl k)] lo H K=K r H:=by
 have h0:aQ (.tree es (.cl k))=false:=by simp[aQ]
 rw[h.Ek (H:=H) (lo:=lo) (k:=K) hr (XM DQ) (fz1 (asY hp)) (by simp[aO,h0]),List.flatMap_cons,Zp hp]
 split<;>rfl
def Ef (o:Option Rat):VV:=match o with
 | some q => .dQ [aY q,VB (decide (0<q))]
 | none => .dQ [Hk,VB false]
set_option maxHeartbeats 1000000 in
theorem EY (x:ByteArray) (hx:x.size≤1000000000):TC 87 [sV x] (Ef (pQ x)):=by
 refine TC.walk ⟨true,false⟩ NH rfl (Nat.le_of_ble_eq_true rfl) rfl (by unfold Ef;split<;>simp[fX,rE,rJ,Iy,lG]) ?_
 have e1:=Dr x.data.toList (by rw[Array.length_toList];show x.size≤_;omega)
 rw[←Rv] at e1
 have s2:∀q,bQ 0 3 (.ptr 1 0 0 0) (aY q) [cell0,cell0]=some [cell0,.row 0 [aY q] 3 true]:=fun q=>aiK (lo:=0) (H:=[]) (k:=1) (Nat.zero_le _) rfl
 have l2:∀q,cC true 3 (.ptr 1 0 0 0) [cell0,.row 0 [aY q] 3 true]=some (aY q):=fun q=>anN (H:=[]) (k:=1) rfl
 cases hp:pQ x with
 |
  none =>
  rw[Lc hp] at e1
  simp only[uA,pR,e1,Ef,wQ,zR,Fa,aS,aT,aN,iB,Nat.reduceLeDiff,Nat.reduceLT,Nat.reduceSub,rN,dH,dY,kA,oS,sF,bne_iff_ne,ne_eq,not_false_eq_true,not_true_eq_false,eO,VX,Nat.reduceEqDiff,Nat.reduceAdd,Nat.reduceLeDiff,Nat.reduceLT,Nat.reduceSub]
  exact aE (mZ QV rfl)
 |
  some q =>
  rw[Ld hp] at e1
  have e2:=Nj q
  have e3:=Pm q
  by_cases hz:q=0
  ·rw[decide_eq_true hz] at e2
   have h0:¬0<q:=by rw[hz];exact Rat.lt_irrefl
   simp only[uA,pR,e1,e2,e3,s2,l2,Ef,h0,decide_false,Bool.not_true,nD,uK,dJ,iB,Nat.reduceLeDiff,Nat.reduceLT,Nat.reduceSub,rN,dH,dY,kA,oS,sF,bne_iff_ne,ne_eq,not_false_eq_true,not_true_eq_false,eO,VX,Nat.reduceEqDiff,Nat.reduceAdd,Nat.reduceLeDiff,Nat.reduceLT,Nat.reduceSub]
   exact aE (mZ (jE _) rfl)
  ·rw[decide_eq_false hz] at e2
   by_cases lM:q.num<0
   ·rw[decide_eq_true lM] at e3
    have h0:¬0<q:=fun h=>by have:=MP.1 lM;grind
    simp only[uA,pR,e1,e2,e3,s2,l2,Ef,h0,decide_false,Bool.not_true,Bool.not_false,nD,uK,dJ,iB,Nat.reduceLeDiff,Nat.reduceLT,Nat.reduceSub,rN,dH,dY,kA,oS,sF,bne_iff_ne,ne_eq,not_false_eq_true,not_true_eq_false,eO,VX,Nat.reduceEqDiff,Nat.reduceAdd,Nat.reduceLeDiff,Nat.reduceLT,Nat.reduceSub]
    exact aE (mZ (jE _) rfl)
   ·rw[decide_eq_false lM] at e3
    have h0:0<q:=by have:=mt MP.2 lM;grind
    simp only[uA,pR,e1,e2,e3,s2,l2,Ef,h0,decide_true,Bool.not_false,nD,uK,dJ,iB,Nat.reduceLeDiff,Nat.reduceLT,Nat.reduceSub,rN,dH,dY,kA,oS,sF,bne_iff_ne,ne_eq,not_false_eq_true,not_true_eq_false,eO,VX,Nat.reduceEqDiff,Nat.reduceAdd,Nat.reduceLeDiff,Nat.reduceLT,Nat.reduceSub]
    exact aE (mZ (jE _) rfl)
theorem Ma (k:Int):TC 89 [VI k] (VB (decide (1≤k∧k≤11))):=by
 refine TC.walk ⟨true,false⟩ Mb rfl (Nat.le_of_ble_eq_true rfl) rfl rfl ?_
 have e:=Sn k 1 11
 simp only[GC,DG,e,eO,VX,Nat.reduceEqDiff,Nat.reduceAdd,Nat.reduceLeDiff,Nat.reduceLT,Nat.reduceSub]
 exact aE rfl
theorem adD {n lo hi b g c:Nat} {p:Nat×List Dp} {H:aA} {K:VV→aA→Prop} (hp:QOk p) (hT:Tq aP lo hi p.1 b g p.2 H) (hn:n≤H.length)
  (hk:∀x L,TabIs aP 3 (nK (qZ p)) H.length (H++L).length (H++L) x→K x (H++L)):cO 72 [.ref b g 0 p.1 c] n H K :=
 iM rfl (Uj (H:=H) (v := .ref b g 0 p.1 c) (qZ p) (n:=p.1) (B:=600000) hT.t.rdT hn C6 (by have:=hp.n;omega) (by decide) hp.rows hp.ayY) hk
theorem TabIs.fz {f:Rat→VV} {m:List (List Rat)} {lo hi:Nat} {H:aA} {v:VV} (h:TabIs f 3 m lo hi H v) (hpu:∀x,aQ (f x)=true):PM.fz depth H v=some (aM (aM f) m):=by
 obtain⟨b,g,c,rs,rfl,k1,hM,N8⟩:=h
 have yX:rs.length=m.length:=by rw[←N8,List.length_map]
 have Xw:=hM.fz (d:=5) (c:=c) (by omega) hpu
 rw[N8,yX] at Xw
 exact Xw
theorem TabIs.fzd {d:Nat} {f:Rat→VV} {m:List (List Rat)} {lo hi:Nat} {H:aA} {v:VV} (h:TabIs f 3 m lo hi H v) (hpu:∀x,aQ (f x)=true):PM.fz (d+3) H v=some (aM (aM f) m):=by
 obtain⟨b,g,c,rs,rfl,k1,hM,N8⟩:=h
 have yX:rs.length=m.length:=by rw[←N8,List.length_map]
 have Xw:=hM.fz (d:=d) (c:=c) (by omega) hpu
 rw[N8,yX] at Xw
 exact Xw
theorem Vx:Jd none = .dQ [.tree [] .op,VB false]:=rfl
theorem wN {x:Int} (k:Nat) (h:x=k) (hk:k≤1000000000):IntKind.i64.wrap x=(k:Int):=by
 subst h
 exact wrapN k (by omega) (by omega)
theorem QOk.told {p:Nat×List Dp} (hp:QOk p):(nK (qZ p)).length≤1000000∧∀r∈nK (qZ p),r.length≤1000000∧∀q∈r,aZ q≤1099511627776:=by
 have hn:=hp.n
 obtain⟨el,eb⟩:=Qd C6 (B:=600000) hp.rows (by omega) (by omega)
 exact⟨by omega,fun r hr=>⟨by have:=(eb r hr).1;omega,fun q hq=>by have:=(eb r hr).2 q hq;omega⟩⟩
end Go.PM
namespace Go.PM
structure X4 (s:MF):Prop where
 b:s.b.length≤100
 g:s.g.length≤100
 r:∀x∈s.g,x.length≤100
 e:s.e.length≤100
theorem De {β:Type}:∀ {xs:List (List β)} {n:Nat},(∀x∈xs,x.length≤n)→dD xs≤xs.length*n
 | [],n,_=>by simp[dD]
 |
  x::xs,n,h=>by
  have h1:=h x List.mem_cons_self
  have h2:=De (xs:=xs) (n:=n) fun y hy=>h y (List.mem_cons_of_mem _ hy)
  have e:dD (x::xs)=x.length+dD xs:=by simp[dD]
  rw[e,List.length_cons,Nat.add_mul,Nat.one_mul]
  omega
theorem X4.n {s:MF} (h:X4 s):svN s≤10200:=by
 have h1:=De h.r
 have h2:s.g.length*100≤100*100:=Nat.mul_le_mul_right _ h.g
 have h3:=h.b
 have h4:=h.e
 unfold svN
 omega
def Ag3 (v:VV):Prop:=∃a b c,v = .agg [a,b,c]∧bS a=true∧bS b=true∧bS c=true
theorem XS.ag3 {s:MF} {lo hi:Nat} {H:aA} {v:VV} (h:XS s lo hi H v):Ag3 v:=by
 obtain⟨a,b,c,h1,h2,h3,h4,_⟩:=h.own (n:=0) (Nat.zero_le _)
 exact⟨a,b,c,h1,h2,h3,h4⟩
theorem SvS.ag3 {s:MF} {lo hi:Nat} {H:aA} {v:VV} (h:SvS s lo hi H v):Ag3 v:=by
 obtain⟨⟨a,b,c,h1,h2,h3,h4,_⟩,_⟩:=h
 exact⟨a,b,c,h1,h2,h3,h4⟩
theorem VM {m:List (List Rat)} {y:List (List ByteArray)} {B:Nat} (h:xS m=some y) (hB:∀r∈m,r.length≤B):y.length=m.length∧∀x∈y,x.length≤B :=
 ⟨pY h,fun x hx=>by
  have key:∀ {m:List (List Rat)} {y:List (List ByteArray)},m.mapM Dg=some y→(∀r∈m,r.length≤B)→∀x∈y,x.length≤B:=by
   intro m
   induction m with
   | nil=>intro y h _ x hx;cases h;cases hx
   |
    cons r m ih =>
    intro y h hB x hx
    obtain⟨z,zs,h1,h2,rfl⟩:=mT h
    rcases List.mem_cons.1 hx with rfl | hx
    ·rw[ZW h1];exact hB r List.mem_cons_self
    ·exact ih h2 (fun r hr=>hB r (List.mem_cons_of_mem _ hr)) x hx
  exact key h hB x hx⟩
end Go.PM
namespace Go.PM
open Go.Lib
theorem LsO.wide {α:Type} {f:α→VV} {e:Nat} {o:Option (List α)}:∀ {lo hi iJ nH:Nat} {H:aA} {v:VV},LsO f e o lo hi H v→iJ≤lo→hi≤nH→LsO f e o iJ nH H v:=by
 intro lo hi iJ nH H v h hl hh
 cases o with
 | none=>exact h
 |
  some ys =>
  obtain⟨b,g,c,h1,h2,h3⟩:=h
  exact⟨b,g,c,by omega,by omega,h3⟩
end Go.PM
namespace Go.PM
structure A4 (s:List (List ByteArray)):Prop where
 g:s.length≤100
 r:∀x∈s,x.length≤100
theorem A4.n {s:List (List ByteArray)} (h:A4 s):dD s≤10000:=by
 have h1:=De h.r
 have h2:s.length*100≤100*100:=Nat.mul_le_mul_right _ h.g
 omega
theorem afM {lo:Nat} {s:List (List ByteArray)} {H:aA} {v w:VV} {K:VV→aA→Prop} (hs:A4 s) (hv:PM.fz depth H v=some (chV s)) (hw:PM.fz depth H w=some (chV s)):cO 19 [v,w] lo H K=K (VB true) H:=by
 have h:=Ov s s (by have:=hs.g;omega) (fun x hx=>by have:=hs.r x hx;omega)
 rw[decide_eq_true rfl] at h
 exact TC.flat h rfl (GX (B6 _) (B6 _)) (fz2 hv hw) rfl _ _
theorem YA {lo:Nat} {s:List (List ByteArray)} {H:aA} {v:VV} {K:VV→aA→Prop} (hs:A4 s) (hv:PM.fz depth H v=some (chV (sM 101 s))):cO 23 [v,VI 101] lo H K=K (VI (101+dD s)) H:=by
 have h:=JN 101 s (by omega) (by have:=hs.g;omega) (by have:=hs.n;omega)
 exact TC.flat h rfl (GX (B6 _) rfl) (fz2 hv (aE rfl)) rfl _ _
def Ag1 (v:VV):Prop:=∃a,v = .agg [a]∧bS a=true
theorem CG.ag3 {s:List (List ByteArray)} {lo hi:Nat} {H:aA} {v:VV} (h:CG s lo hi H v):Ag1 v:=by
 obtain⟨c,h1,h2,_,_⟩:=h.own (n:=0) (Nat.zero_le _)
 exact⟨c,h1,h2⟩
theorem W4 {lo:Nat} {H:aA} {v:VV} (h:Ag1 v) (dV:lo≤H.length):bQ lo 1 (.ptr H.length 0 0 0) v (H++[.row 0 [.tree [] .nil] 1 true])=some (H++[.row 0 [v] 1 true]):=by
 obtain⟨a,rfl,h1⟩:=h
 rw[bZ (e:=1) (g:=0) (j:=0) gI (by exact Nat.zero_lt_one) dV rfl (by simp[aB,h1]),IP]
 rfl
theorem Lx {b:Nat} {H:aA} {v:VV} (h:Ag1 v) (hr:aJ H b 0=some ([v],1,true)):cC true 1 (.ptr b 0 0 0) H=some v:=by
 obtain⟨a,rfl,_⟩:=h
 rw[bP,hr]
 rfl
end Go.PM
namespace Go.PM
theorem Wd {a b c d:VV} (ha:aQ a=true) (hb:aQ b=true) (hc:aQ c=true) (hd:aQ d=true):aO [a,b,c,d]=true:=by simp[aO,ha,hb,hc,hd]
theorem R2 {a b c d e:VV} (ha:aQ a=true) (hb:aQ b=true) (hc:aQ c=true) (hd:aQ d=true) (he:aQ e=true):aO [a,b,c,d,e]=true:=by simp[aO,ha,hb,hc,hd,he]
theorem fz5 {d:Nat} {H:aA} {a b c e f a' b' c' e' f':VV} (ha:fz d H a=some a') (hb:fz d H b=some b') (hc:fz d H c=some c') (he:fz d H e=some e') (hf:fz d H f=some f'):[a,b,c,e,f].mapM (fz d H)=some [a',b',c',e',f']:=by
 rw[List.mapM_cons,ha,List.mapM_cons,hb,List.mapM_cons,hc,List.mapM_cons,he,List.mapM_cons,hf]
 rfl
theorem So {o:Option (Nat×List Dp)} (h:∀p,o=some p→QOk p):A4 ((Hj o).getD []):=by
 have h0:A4 []:=⟨by decide,fun x hx=>by cases hx⟩
 cases o with
 | none=>exact h0
 |
  some p =>
  have hp:=h p rfl
  show A4 ((xS (nK (qZ p))).getD [])
  cases ht:xS (nK (qZ p)) with
  | none=>exact h0
  |
   some y =>
   have hn:=hp.n
   obtain⟨e1,e2⟩:=Qd C6 hp.rows (by omega) (by omega)
   obtain⟨j1,j2⟩:=VM (B:=100) ht fun r hr=>by have:=(e2 r hr).1;omega
   exact⟨by rw[Option.getD_some,j1,e1];omega,j2⟩
def Aq (a:ByteArray) (bs:List ByteArray) (s:ByteArray) (iY:Int) (w:Bool):=Hj (gK a bs s iY w)
theorem Sk (a:ByteArray) (bs:List ByteArray) (s:ByteArray) (iY:Int) (w:Bool):A4 ((Aq a bs s iY w).getD []):=So fun _=>Fy
end Go.PM
namespace Go.PM
open Go.Lib
def aeU (o:Option (Nat×List Dp)):VV:=match o with
 | some p => .dQ [aM (aM aP) (nK (qZ p)),VB true]
 | none => .dQ [.tree [] .op,VB false]
set_option maxHeartbeats 1000000 in
theorem Iq (o:Option (Nat×List Dp)) (ho:∀p,o=some p→QOk p) (v:VV) (ok:Bool) (h:aeU o = .dQ [v,VB ok]):FC 103 [v,VB ok] (Ym (CG ((Hj o).getD [])) (Hj o).isSome):=by
 refine FC.KK ⟨true,false⟩ Ja (Nat.le_of_ble_eq_true rfl) fun n => ?_
 cases o with
 |
  none =>
  unfold aeU at h
  injection h with h
  injection h with h1 h2
  injection h2 with h2 _
  injection h2 with h2
  injection h2 with h2
  subst h1 h2
  obtain⟨f1,f2,f3⟩:=ahH (n:=n) (bK:=Hj none) (BC (n:=n) (K:=[])) (Nat.le_refl _) rfl
  simp only[xI,uG,f1,f2,gW,Gx,List.length_replicate,Bool.not_false,eO,VX,Nat.reduceEqDiff,Nat.reduceAdd,Nat.reduceLeDiff,Nat.reduceLT,Nat.reduceSub]
  exact f3
 |
  some p =>
  unfold aeU at h
  injection h with h
  injection h with h1 h2
  injection h2 with h2 _
  injection h2 with h2
  injection h2 with h2
  subst h1 h2
  have hQ:=ho p rfl
  simp only[xI,uG,gW,Gx,List.length_replicate,Bool.not_true,eO,VX,Nat.reduceEqDiff,Nat.reduceAdd,Nat.reduceLeDiff,Nat.reduceLT,Nat.reduceSub]
  refine R3 (JV _ hQ.told.1 hQ.told.2) rfl (fz1 (aE (Tg _))) (BC (n:=n) (K:=[])) (Nat.le_refl _) fun v H2 H3 t1 t2 t3 => ?_
  simp only[t1,t2,eO,VX,Nat.reduceEqDiff,Nat.reduceAdd,Nat.reduceLeDiff,Nat.reduceLT,Nat.reduceSub]
  exact t3
end Go.PM
namespace Go.PM
open Go.Lib
def ajY (o:Option (Nat×List Dp)) (ws:List Rat):VV:=match o with
 | some p => .dQ [aM (aM aP) (nK (qZ p)),aM aP ws,VB true]
 | none => .dQ [.tree [] .op,.tree [] .op,VB false]
theorem aeL (o:Option (Nat×List Dp)) (ws:List Rat):fX (ajY o ws)=true:=by
 unfold ajY
 split
 ·exact Ic (alY _) (Fk _) rfl
 ·exact Ic (by decide) (by decide) rfl
theorem R0 (n k iY:Nat) (w:Bool) (hn:n≤1000000) (hk:k≤1000000) (hl:iY≤1000000):∃z,TC 165 [VI n,VI k,VI iY,VB w] (.dQ [VI (oW n k iY w),z]):=by
 have w1:IntKind.i64.wrap ((n:Int)+(k:Int))=((n+k:Nat):Int):=wN _ (by omega) (by omega)
 unfold oW
 by_cases h:n+k≤iY
 ·refine⟨VI 0,?_⟩
  have h':((n+k:Nat):Int)≤(iY:Int):=by omega
  rw[if_pos h]
  refine TC.walk ⟨true,false⟩ Cw rfl (Nat.le_of_ble_eq_true rfl) (Wd rfl rfl rfl rfl) (tM rfl rfl) ?_
  simp only[CU,yM,w1,h',eO,VX,Nat.reduceEqDiff,Nat.reduceAdd,Nat.reduceLeDiff,Nat.reduceLT,Nat.reduceSub]
  exact aE rfl
 ·have h':¬((n+k:Nat):Int)≤(iY:Int):=by omega
  have w2:IntKind.i64.wrap (((n+k:Nat):Int)-(iY:Int))=((n+k:Nat):Int)-(iY:Int):=wrap64 (by omega) (by omega)
  rw[if_neg h]
  cases w with
  |
   true =>
   refine⟨VI k,?_⟩
   rw[if_pos rfl]
   refine TC.walk ⟨true,false⟩ Cw rfl (Nat.le_of_ble_eq_true rfl) (Wd rfl rfl rfl rfl) (tM rfl rfl) ?_
   simp only[CU,yM,w1,h',eO,VX,Nat.reduceEqDiff,Nat.reduceAdd,Nat.reduceLeDiff,Nat.reduceLT,Nat.reduceSub]
   exact aE rfl
  |
   false =>
   refine⟨VI (((n+k:Nat):Int)-(iY:Int)),?_⟩
   rw[if_neg (by decide)]
   refine TC.walk ⟨true,false⟩ Cw rfl (Nat.le_of_ble_eq_true rfl) (Wd rfl rfl rfl rfl) (tM rfl rfl) ?_
   simp only[CU,yM,w1,w2,h',eO,VX,Nat.reduceEqDiff,Nat.reduceAdd,Nat.reduceLeDiff,Nat.reduceLT,Nat.reduceSub]
   exact aE rfl
theorem Nv {n k iY:Nat} {w:Bool} (hn:n≤iY):oW n k iY w≤iY:=by
 unfold oW
 split
 ·assumption
 ·split
  ·exact hn
  ·exact Nat.le_refl _
set_option maxHeartbeats 8000000 in
set_option maxRecDepth 20000 in
theorem I2 (a:ByteArray) (bs:List ByteArray) (s:ByteArray) (iY:Int) (wh:Bool) (ha:a.size≤1000000000) (hb:bs.length≤1000000000∧∀x∈bs,x.size≤1000000000) (hs:s.size≤1000000000):TC 108 [sV a,eG bs,sV s,VI iY,VB wh] (ajY (gK a bs s iY wh) ((gE bs).getD [])):=by
 refine TC.walk ⟨true,false⟩ HU rfl (Nat.le_of_ble_eq_true rfl) (R2 rfl (dG _) rfl rfl rfl) (aeL _ _) ?_
 have eL:∀K,kD false [.string ⟨#[]⟩] 2 [(0,sV a),(1,sV s)] K=some (.tree [sV a,sV s] (.cl 1),K):=fun K=>S4 rfl rfl rfl rfl rfl
 have e1:∀lo H K,cO 92 [.tree [sV a,sV s] (.cl 1)] lo H K=K (Jd (Z7 [a,s])) H:=fun lo H K=>TC.cl (JH [a,s] (by simp) (by simp[ha,hs])) rfl rfl (dG [a,s])
 have e2:=Kp bs hb.1 hb.2
 have e3:=Zn iY 1 11
 have bad:gK a bs s iY wh=none→∀H,PM.fz depth H (.dQ [.tree [] .nil,.tree [] .nil,VB false])=some (ajY (gK a bs s iY wh) ((gE bs).getD [])):=fun h H=>by rw[h];exact MC (d:=6) zH zH (aI (v:=VB false) rfl)
 cases kB:Z7 [a,s] with
 |
  none =>
  have hn:gK a bs s iY wh=none:=by
   rw[OJ] at kB
   unfold gK
   split at kB
   ·cases kB
   ·rename_i hno
    split
    ·rename_i x y w h1 h2 h3
     exact absurd h2 (hno x y h1)
    ·rfl
  simp only[kB] at e1
  cases hw:gE bs with
  |
   none =>
   rw[hw,vX] at e2
   simp only[jR,gT,eL,e1,e2,Vx,eO,VX,Nat.reduceEqDiff,Nat.reduceAdd,Nat.reduceLeDiff,Nat.reduceLT,Nat.reduceSub]
   rw[←hw]
   exact bad hn _
  |
   some ws =>
   rw[hw,Cu] at e2
   simp only[jR,gT,eL,e1,e2,Vx,eO,VX,Nat.reduceEqDiff,Nat.reduceAdd,Nat.reduceLeDiff,Nat.reduceLT,Nat.reduceSub]
   rw[←hw]
   exact bad hn _
 | some qs =>
 rw[OJ] at kB
 split at kB
 case h_2=>cases kB
 rename_i x y hx hy
 have e1:∀lo H K,cO 92 [.tree [sV a,sV s] (.cl 1)] lo H K=K (.dQ [aM aP [x,y],VB true]) H:=fun lo H K=>by rw[e1,OJ,hx,hy];rfl
 cases hw:gE bs with
 |
  none =>
  rw[hw,vX] at e2
  simp only[jR,gT,eL,e1,e2,eO,VX,Nat.reduceEqDiff,Nat.reduceAdd,Nat.reduceLeDiff,Nat.reduceLT,Nat.reduceSub]
  rw[←hw]
  exact bad (by unfold gK;rw[hx,hy,hw]) _
 | some ws =>
 rw[hw,Cu] at e2
 by_cases ajS:(12:Int)<(ws.length:Int)
 ·simp only[jR,gT,eL,e1,e2,ajS,eO,VX,Nat.reduceEqDiff,Nat.reduceAdd,Nat.reduceLeDiff,Nat.reduceLT,Nat.reduceSub]
  rw[←hw]
  exact bad (by unfold gK;rw[hx,hy,hw];exact if_neg fun h=>by have:=h.1;omega) _
 by_cases hl:1≤iY∧iY≤11
 case neg =>
  rw[decide_eq_false hl] at e3
  simp only[jR,gT,eL,e1,e2,e3,ajS,eO,VX,Nat.reduceEqDiff,Nat.reduceAdd,Nat.reduceLeDiff,Nat.reduceLT,Nat.reduceSub]
  rw[←hw]
  exact bad (by unfold gK;rw[hx,hy,hw];exact if_neg fun h=>hl h.2) _
 rw[decide_eq_true hl] at e3
 have hO:gK a bs s iY wh=some (iY.toNat+1,lK x y ws iY.toNat wh (iY.toNat+1)):=by unfold gK;rw[hx,hy,hw];exact if_pos ⟨by omega,hl⟩
 have hQ:=Fy hO
 rw[hO]
 obtain⟨M,rfl⟩:∃M:Nat,iY=M:=⟨iY.toNat,by omega⟩
 simp only[Int.toNat_natCast] at hQ ⊢
 have bx:=zB hx
 have bby:=Sr hy
 have bw:=GK hw
 have w1:IntKind.i64.wrap ((M:Int)+1)=((M+1:Nat):Int):=wN _ (by omega) (by omega)
 have a0:∀H,bL 3 (aM aP [x,y]) (VI 0) H=some ((aP x).dA 0):=fun H=>aK (f:=aP) (xs:=[x,y]) (i:=0) rfl rfl
 have a1:∀H,bL 3 (aM aP [x,y]) (VI 1) H=some ((aP y).dA 0):=fun H=>aK (f:=aP) (xs:=[x,y]) (i:=1) rfl rfl
 simp only[jR,gT,eL,e1,e2,e3,ajS,w1,eO,VX,Nat.reduceEqDiff,Nat.reduceAdd,Nat.reduceLeDiff,Nat.reduceLT,Nat.reduceSub]
 refine To (by omega) (Nat.zero_le _) fun b g c H hc hT => ?_
 rw[List.nil_append] at hT ⊢
 simp only[w1,eO,VX,Nat.reduceEqDiff,Nat.reduceAdd,Nat.reduceLeDiff,Nat.reduceLT,Nat.reduceSub]
 have hlen:∀n,n≤M+1→(lK x y ws M wh n).length≤156:=fun n hn=>by
  rw[CH]
  have:(ws.length+1)*n≤13*12:=Nat.mul_le_mul (by omega) (by omega)
  exact this
 refine aV (fun(i:Nat) ρ H1=>i≤M+1∧Tq aP 0 H.length (M+1) b g (lK x y ws M wh i) H1∧ρ 3=VI M∧ρ 4=VB wh∧ρ 13=aM aP [x,y]∧ρ 15=aM aP ws∧ρ 17 = .ref b g 0 (M+1) c∧ρ 55=VI (M+1:Nat)∧ρ 56=VI i) (fun i=>M+1-i) 0
  ⟨Nat.zero_le _,hT,by (repeat' apply And.intro)<;>first | rfl | trivial | assumption⟩ ?_
 clear hT
 rintro i ρ H1 ⟨hi,hT,g3,g4,g13,g15,g17,g55,g56⟩
 have hgl:=hlen i hi
 by_cases cS:(i:Int)<((M+1:Nat):Int)
 ·have wi:IntKind.i64.wrap ((i:Int)+1)=((i+1:Nat):Int):=wN _ (by omega) (by omega)
  have u6:IntKind.i64.wrap ((i:Int)-1)=(i:Int)-1:=wrap64 (by omega) (by omega)
  have u7:max ((i:Int)-1) 0=((i-1:Nat):Int):=by omega
  simp only[sR,g3,g4,g13,g15,g17,g55,g56,cS,List.length_map,eO,VX,Nat.reduceEqDiff,Nat.reduceAdd,Nat.reduceLeDiff,Nat.reduceLT,Nat.reduceSub]
  refine aV (fun(k:Nat) ρ H2=>k≤ws.length∧Tq aP 0 H.length (M+1) b g (lK x y ws M wh i++sZ x ws M wh i k) H2∧ρ 3=VI M∧ρ 4=VB wh∧ρ 13=aM aP [x,y]∧ρ 15=aM aP ws∧ρ 17 = .ref b g 0 (M+1) c∧ρ 18=VI i∧ρ 55=VI (M+1:Nat)∧ρ 56=VI i∧ρ 59=aM aP ws∧ρ 60=VI ws.length∧ρ 61=VI k) (fun k=>ws.length-k) 0
   ⟨Nat.zero_le _,by rw[sZ,List.append_nil];exact hT,by (repeat' apply And.intro)<;>first | rfl | trivial | assumption⟩ ?_
  clear g3 g4 g13 g15 g17 g55 g56 hT
  rintro k ρ H2 ⟨hk,hT,g3,g4,g13,g15,g17,g18,g55,g56,g59,g60,g61⟩
  have hkl:=CE (x:=x) (ws:=ws) (iY:=M) (w:=wh) (n:=i) k
  by_cases O6:(k:Int)<(ws.length:Int)
  ·obtain⟨q,hq⟩:∃q,ws[k]? = some q:=⟨_,List.getElem?_eq_getElem (by omega)⟩
   have hqd:ws.getD k 0=q:=by rw[List.getD_eq_getElem?_getD,hq];rfl
   have bq:=bw q (List.mem_of_getElem? hq)
   have ak:=fun H=>aK (f:=aP) (t := .op) (H:=H) (size:=3) (k := .i64) hq rfl
   have wk:IntKind.i64.wrap ((k:Int)+1)=((k+1:Nat):Int):=wN _ (by omega) (by omega)
   obtain⟨zz,ec⟩:=R0 i k M wh (by omega) (by omega) (by omega)
   have s1:=zP (lo:=0) (H:=H2) (q:=q) (Nat.zero_le _)
   have s2:=Ik (H:=H2) (K:=[]) (q:=q)
   have em:=EL x q (by omega) (by omega)
   have hct:=Nv (n:=i) (k:=k) (iY:=M) (w:=wh) (by omega)
   simp only[sO,g3,g4,g13,g17,g18,g59,g60,g61,O6,ak,s1,s2,ec,a0,em,cZ,eO,VX,Nat.reduceEqDiff,Nat.reduceAdd,Nat.reduceLeDiff,Nat.reduceLT,Nat.reduceSub]
   refine Qm (hT.pre (List.prefix_append H2 [.row 0 [aP q] 3 true])) i (oW i k M wh) (x*q) (by omega) (by omega) (by omega) (by have:=Fo x q;omega) (by rw[List.length_append];omega) fun _ H3 o3 hT3 => ?_
   simp only[g61,wk,eO,VX,Nat.reduceEqDiff,Nat.reduceAdd,Nat.reduceLeDiff,Nat.reduceLT,Nat.reduceSub]
   exact⟨k+1,by omega,by omega,by rw[sZ,hqd,←List.append_assoc];exact hT3,by (repeat' apply And.intro)<;>first | rfl | trivial | assumption⟩
  ·have hke:k=ws.length:=by omega
   subst hke
   simp only[sO,g13,g17,g18,g55,g56,g60,g61,O6,wi,u6,u7,a1,cZ,eO,VX,Nat.reduceEqDiff,Nat.reduceAdd,Nat.reduceLeDiff,Nat.reduceLT,Nat.reduceSub]
   refine Qm hT i (i-1) y (by omega) (by omega) (by omega) bby.1 (by rw[List.length_append];omega) fun _ H3 o3 hT3 => ?_
   simp only[g56,wi,eO,VX,Nat.reduceEqDiff,Nat.reduceAdd,Nat.reduceLeDiff,Nat.reduceLT,Nat.reduceSub]
   exact⟨i+1,by omega,by omega,by rw[lK,←List.append_assoc];exact hT3,by (repeat' apply And.intro)<;>first | rfl | trivial | assumption⟩
 ·have mI:i=M+1:=by omega
  subst mI
  simp only[sR,g15,g17,g55,g56,cS,eO,VX,Nat.reduceEqDiff,Nat.reduceAdd,Nat.reduceLeDiff,Nat.reduceLT,Nat.reduceSub]
  refine adD (H:=H1) (p:=(M+1,lK x y ws M wh (M+1))) hQ hT (Nat.zero_le _) fun r L2 hr => ?_
  simp only[g15,eO,VX,Nat.reduceEqDiff,Nat.reduceAdd,Nat.reduceLeDiff,Nat.reduceLT,Nat.reduceSub]
  exact MC (d:=6) (hr.fzd (d:=4) fN) (aI (tA _)) (aI (v:=VB true) rfl)
set_option maxHeartbeats 1000000 in
theorem HG (a:ByteArray) (bs:List ByteArray) (s:ByteArray) (iY:Int) (wh:Bool) (ha:a.size≤1000000000) (hb:bs.length≤1000000000∧∀x∈bs,x.size≤1000000000) (hs:s.size≤1000000000):FC 43 [sV a,eG bs,sV s,VI iY,VB wh] (Ym (CG ((Aq a bs s iY wh).getD [])) (Aq a bs s iY wh).isSome):=by
 refine FC.KK ⟨true,false⟩ HP (Nat.le_of_ble_eq_true rfl) fun n => ?_
 have e1:=I2 a bs s iY wh ha hb hs
 obtain⟨v,u,ok,hv,Sf⟩:∃v u ok,ajY (gK a bs s iY wh) ((gE bs).getD []) = .dQ [v,u,VB ok]∧aeU (gK a bs s iY wh) = .dQ [v,VB ok]:=by cases gK a bs s iY wh<;>exact⟨_,_,_,rfl,rfl⟩
 have hp:aQ v=true:=by
  unfold aeU at Sf
  split at Sf<;>(injection Sf with Sf;injection Sf with h1 h2;subst h1)
  ·exact Tg _
  ·rfl
 have eS:=Iq (gK a bs s iY wh) (fun _=>Fy) v ok Sf
 rw[hv] at e1
 simp only[Dj,A0,e1,gW,Gx,List.length_replicate,eO,VX,Nat.reduceEqDiff,Nat.reduceAdd,Nat.reduceLeDiff,Nat.reduceLT,Nat.reduceSub]
 refine R3 eS rfl (fz2 (aE hp) (aE rfl)) (BC (n:=n) (K:=[])) (Nat.le_refl _) fun v H2 H3 t1 t2 t3 => ?_
 simp only[t1,t2,eO,VX,Nat.reduceEqDiff,Nat.reduceAdd,Nat.reduceLeDiff,Nat.reduceLT,Nat.reduceSub]
 exact t3
end Go.PM
namespace Go.PM
open Go.Lib
theorem abS {x:ByteArray} {q:Rat} (h:yI x=some q):Ef (pQ x) = .dQ [aY q,VB true]:=by
 obtain⟨h1,h2⟩:=Jy h
 rw[h1]
 unfold Ef
 simp only[h2,decide_true]
theorem aeS {x:ByteArray} (h:yI x=none):∃z,Ef (pQ x) = .dQ [z,VB false]∧(aB z).length=3∧(aB z).all bS=true:=by
 unfold yI at h
 cases hp:pQ x with
 | none=>exact⟨_,rfl,rfl,rfl⟩
 |
  some q =>
  rw[hp] at h
  by_cases h0:0<q
  ·simp only[h0,if_true] at h
   cases h
  ·exact⟨aY q,by unfold Ef;simp only[h0,decide_false],nD q,uK q⟩
end Go.PM