/- Texts of a claim, in one: part 8. -/
import Derived.Test.YtodamlihdkalfaaGreatDoorKYg
set_option linter.unusedSimpArgs false
set_option linter.unusedVariables false
namespace Go.PM
theorem hJ {es:List VV} {g e:Nat} {w:Bool}:aK [.row g es e w] 0 g=some (es,e,w):=bG
theorem PZ {x y:Nat} {ρ:cM} {Q:VQ} (hx:(aC 4294967296 x).length≤17592186044416) (hl:(aC 4294967296 y).length≤(aC 4294967296 x).length) (h0:ρ 0=bE x) (h1:ρ 1=bE y) (h5:ρ 5 = .ref 0 0 0 ((aC 4294967296 x).length+1) ((aC 4294967296 x).length+1)) (h6:ρ 6=VK .u64 0) (h20:ρ 20=VI (aC 4294967296 x).length) (h21:ρ 21=VI 0)
  (hQ:∀(aU:cM) (outs:List Nat) (c:Nat),aU 0=bE x→aU 5 = .ref 0 0 0 ((aC 4294967296 x).length+1) ((aC 4294967296 x).length+1)→aU 6=VK .u64 (c:Nat)→outs.length=(aC 4294967296 x).length+1→(∀d∈outs,d<4294967296)→c≤1→x+y=val 4294967296 (outs.take (aC 4294967296 x).length)+4294967296^(aC 4294967296 x).length*c→Q (.exit 0) aU [.row 0 (outs.map uV) 1 true]) :
  VW ⟨true,false⟩ 0 (.loop jE) Q ρ [.row 0 ((List.replicate ((aC 4294967296 x).length+1) 0).map uV) 1 true]:=by
 unfold bE at h0 h1 hQ
 have vx:=bP (b:=4294967296) (by decide) x
 have vy:=bP (b:=4294967296) (by decide) y
 have lx:=eI (b:=4294967296) (by decide) x
 have ly:=eI (b:=4294967296) (by decide) y
 generalize aC 4294967296 x=xs at *
 generalize aC 4294967296 y=ys at *
 refine aN (fun(s:Nat×List Nat×Nat) ρ H=>s.1≤xs.length∧H=[.row 0 (s.2.1.map uV) 1 true]∧s.2.1.length=xs.length+1∧(∀d∈s.2.1,d<4294967296)∧s.2.2≤1∧val 4294967296 (xs.take s.1)+val 4294967296 (ys.take s.1)=val 4294967296 (s.2.1.take s.1)+4294967296^s.1*s.2.2 ∧
  ρ 0=Ad xs∧ρ 1=Ad ys∧ρ 5 = .ref 0 0 0 (xs.length+1) (xs.length+1)∧ρ 6=VK .u64 s.2.2∧ρ 20=VI xs.length∧ρ 21=VI s.1) (fun s=>xs.length-s.1) (0,List.replicate (xs.length+1) 0,0) ?_ ?_
 ·exact⟨Nat.zero_le _,rfl,by simp,yR (by decide) _,by simp,by simp[val],h0,h1,h5,h6,h20,h21⟩
 ·rintro⟨i,outs,c⟩ ρ H ⟨hi,rfl,gZ,jT,hc,hv,g0,g1,g5,g6,g20,g21⟩
  simp only at hi gZ jT hc hv g6 g21
  by_cases cC:(i:Int)<(xs.length:Int)
  ·obtain⟨a,ha⟩:∃a,xs[i]? = some a:=⟨_,List.getElem?_eq_getElem (by omega)⟩
   have la:=lx a (List.mem_of_getElem? ha)
   have e1:=aF (f:=uV) (t := .op) (H:=[.row 0 (outs.map uV) 1 true]) (size:=1) (k := .i64) ha rfl
   have w1:IntKind.u64.wrap (a:Int)=(a:Int):=eO _ (by omega)
   have w2:IntKind.u64.wrap ((c:Int)+(a:Int))=((c+a:Nat):Int):=by rw[←Int.natCast_add];exact eO _ (by omega)
   have wi:IntKind.i64.wrap ((i:Int)+1)=((i+1:Nat):Int):=wrapN (i+1) (by omega) (by omega)
   have e3:=aQ (H:=[.row 0 (outs.map uV) 1 true]) (b:=0) (g:=0) (o:=0) (n:=xs.length+1) (c:=xs.length+1) (i:=i) (k := .i64) hJ (by omega)
   have e4:∀s:Nat,cJ 0 1 (.ptr 0 0 i 0) (uV s) [.row 0 (outs.map uV) 1 true]=some [.row 0 ((outs.set i s).map uV) 1 true]:=fun s=>by
    rw[cR (f:=uV) (e:=1) hJ (by omega) (Nat.le_refl _) rfl rfl]
    rfl
   have step:∀b,b<4294967296→(∀d,ys[i]? = some d→d=b)→(ys.length≤i→b=0) →
     (i+1≤xs.length∧(outs.set i ((c+a+b) % 4294967296)).length=xs.length+1∧(∀d∈outs.set i ((c+a+b) % 4294967296),d<4294967296)∧(c+a+b) / 4294967296≤1∧val 4294967296 (xs.take (i+1))+val 4294967296 (ys.take (i+1))=val 4294967296 ((outs.set i ((c+a+b) % 4294967296)).take (i+1))+4294967296^(i+1)*((c+a+b) / 4294967296)):=by
    intro b hb h1 h2
    refine⟨by omega,by rw[List.length_set];exact gZ,kI jT (Nat.mod_lt _ (by decide)),by omega,?_⟩
    have hy:val 4294967296 (ys.take (i+1))=val 4294967296 (ys.take i)+4294967296^i*b:=by
     cases RJ:ys[i]? with
     | some d=>rw[aS RJ,h1 d RJ]
     |
      none =>
      have hle:=List.getElem?_eq_none_iff.1 RJ
      rw[h2 hle,iB hle,iB (by omega),Nat.mul_zero,Nat.add_zero]
    rw[aS ha,hy,dQ (by omega),Nat.pow_succ]
    exact Ek hv rfl (Nat.mod_add_div _ _)
   by_cases aV:(i:Int)<(ys.length:Int)
   ·obtain⟨b,hb⟩:∃b,ys[i]? = some b:=⟨_,List.getElem?_eq_getElem (by omega)⟩
    have lb:=ly b (List.mem_of_getElem? hb)
    have e2:=aF (f:=uV) (t := .op) (H:=[.row 0 (outs.map uV) 1 true]) (size:=1) (k := .i64) hb rfl
    have w3:IntKind.u64.wrap (b:Int)=(b:Int):=eO _ (by omega)
    have w4:IntKind.u64.wrap (((c+a:Nat):Int)+(b:Int))=((c+a+b:Nat):Int):=by rw[←Int.natCast_add];exact eO _ (by omega)
    obtain⟨s1,s2,s3,s4,s5⟩:=step b lb (fun d hd=>by rw[hb] at hd;injection hd with hd;exact hd.symm) (fun h=>by omega)
    simp only[jE,g0,g1,g5,g6,g20,g21,cC,aV,e1,e2,e3,e4,w1,w2,w3,w4,wi,wrap32,qV,VX,Nat.reduceEqDiff,Nat.reduceAdd]
    exact⟨(i+1,outs.set i ((c+a+b) % 4294967296),(c+a+b) / 4294967296),by simp only;omega,s1,rfl,s2,s3,s4,s5,by (repeat' apply And.intro)<;>first | rfl | trivial⟩
   ·obtain⟨s1,s2,s3,s4,s5⟩:=step 0 (by decide) (fun d hd=>by have:=(List.getElem?_eq_some_iff.1 hd).1;omega) (fun _=>rfl)
    simp only[Nat.add_zero] at s2 s3 s4 s5
    simp only[jE,g0,g1,g5,g6,g20,g21,cC,aV,e1,e3,e4,w1,w2,wi,wrap32,qV,VX,Nat.reduceEqDiff,Nat.reduceAdd]
    exact⟨(i+1,outs.set i ((c+a) % 4294967296),(c+a) / 4294967296),by simp only;omega,s1,rfl,s2,s3,s4,s5,by (repeat' apply And.intro)<;>first | rfl | trivial⟩
  ·have oU:i=xs.length:=by omega
   subst oU
   simp only[jE,g0,g1,g5,g6,g20,g21,cC,VX,Nat.reduceEqDiff,Nat.reduceAdd]
   refine hQ _ outs c g0 g5 g6 gZ jT hc ?_
   rw[List.take_length,List.take_of_length_le (l:=ys) hl,vx,vy] at hv
   exact hv
theorem Co (a b:Nat) (ha:(aC 4294967296 a).length≤17592186044416) (hb:(aC 4294967296 b).length≤17592186044416):TC 174 [bE a,bE b] (bE (a+b)):=by
 refine TC.walk ⟨true,false⟩ Gd rfl (Nat.le_of_ble_eq_true rfl) (by simp[aL,bH]) (oY _) ?_
 have mk:∀n:Nat,n≤17592186044416→AA [.int .u32 0] 4 (VI ((n+1:Nat):Int)) (VI ((n+1:Nat):Int)) []=some (.ref 0 0 0 (n+1) (n+1),[.row 0 ((List.replicate (n+1) 0).map uV) 1 true]):=fun n hn=>sH (f:=uV) (x:=0) rfl (by omega) (by omega)
 have fin:∀(x y:Nat) (outs:List Nat) (c:Nat),(aC 4294967296 x).length≤17592186044416→x+y=a+b→outs.length=(aC 4294967296 x).length+1→(∀d∈outs,d<4294967296)→c≤1→x+y=val 4294967296 (outs.take (aC 4294967296 x).length)+4294967296^(aC 4294967296 x).length*c →
   bC 1 (.ref 0 0 0 ((aC 4294967296 x).length+1) ((aC 4294967296 x).length+1)) (VI ((aC 4294967296 x).length:Nat)) [.row 0 (outs.map uV) 1 true]=some (.ptr 0 0 (0+(aC 4294967296 x).length) 0) ∧
   cJ 0 1 (.ptr 0 0 (aC 4294967296 x).length 0) (uV (c % 4294967296)) [.row 0 (outs.map uV) 1 true]=some [.row 0 ((outs.set (aC 4294967296 x).length (c % 4294967296)).map uV) 1 true] ∧
   ∀lo K,(∀k,k≤(aC 4294967296 x).length+1→(outs.set (aC 4294967296 x).length (c % 4294967296)).take k=aC 4294967296 (a+b)→K (.ref 0 0 0 k ((aC 4294967296 x).length+1)) [.row 0 ((outs.set (aC 4294967296 x).length (c % 4294967296)).map uV) 1 true]) →
    cB 182 [.ref 0 0 0 ((aC 4294967296 x).length+1) ((aC 4294967296 x).length+1)] lo [.row 0 ((outs.set (aC 4294967296 x).length (c % 4294967296)).map uV) 1 true] K:=by
  intro x y outs c hx yT gZ jT hc hv
  have GX:=kI (i:=(aC 4294967296 x).length) jT (show c % 4294967296<4294967296 from Nat.mod_lt _ (by decide))
  have BI:val 4294967296 (outs.set (aC 4294967296 x).length (c % 4294967296))=a+b:=by
   have h1:=dQ (b:=4294967296) (xs:=outs) (i:=(aC 4294967296 x).length) (d:=c % 4294967296) (by omega)
   rw[List.take_of_length_le (by rw[List.length_set];omega)] at h1
   rw[h1,Nat.mod_eq_of_lt (Nat.lt_of_le_of_lt hc (by decide)),←hv,yT]
  refine⟨aQ hJ (by omega),?_,?_⟩
  ·rw[cR (f:=uV) (e:=1) hJ (by omega) (Nat.le_refl _) rfl rfl]
   rfl
  ·intro lo K hk
   have afK:(outs.set (aC 4294967296 x).length (c % 4294967296)).length=(aC 4294967296 x).length+1:=by rw[List.length_set];exact gZ
   exact qH hJ (by omega) (Nat.le_refl _) (by omega) (fun d hd=>GX d (List.mem_of_mem_take hd)) (by rw[List.take_of_length_le (by omega)];exact BI) hk
 by_cases hsw:(((aC 4294967296 a).length:Nat):Int)<(((aC 4294967296 b).length:Nat):Int)
 ·have w1:IntKind.i64.wrap (((aC 4294967296 b).length:Int)+1)=(((aC 4294967296 b).length+1:Nat):Int):=wrapN _ (by omega) (by omega)
  simp only[wX,sJ,bE,hsw,w1,mk _ hb,VX,Nat.reduceEqDiff,Nat.reduceAdd]
  refine PZ (x:=b) (y:=a) hb (by omega) rfl rfl rfl rfl rfl rfl ?_
  intro aU outs c g0 g5 g6 gZ jT hc hv
  obtain⟨e1,e2,e3⟩:=fin b a outs c hb (by omega) gZ jT hc hv
  simp only[g0,g5,g6,bE,wrap32,e1,e2,VX,Nat.reduceEqDiff,Nat.reduceAdd]
  refine e3 _ _ fun k hk he => ?_
  simp only[VX,Nat.reduceEqDiff,Nat.reduceAdd]
  exact NO hJ (by rw[List.length_set];omega) hk he
 ·have w1:IntKind.i64.wrap (((aC 4294967296 a).length:Int)+1)=(((aC 4294967296 a).length+1:Nat):Int):=wrapN _ (by omega) (by omega)
  simp only[wX,sJ,bE,hsw,w1,mk _ ha,VX,Nat.reduceEqDiff,Nat.reduceAdd]
  refine PZ (x:=a) (y:=b) ha (by omega) rfl rfl rfl rfl rfl rfl ?_
  intro aU outs c g0 g5 g6 gZ jT hc hv
  obtain⟨e1,e2,e3⟩:=fin a b outs c ha rfl gZ jT hc hv
  simp only[g0,g5,g6,bE,wrap32,e1,e2,VX,Nat.reduceEqDiff,Nat.reduceAdd]
  refine e3 _ _ fun k hk he => ?_
  simp only[VX,Nat.reduceEqDiff,Nat.reduceAdd]
  exact NO hJ (by rw[List.length_set];omega) hk he
end Go.PM
namespace Go.PM
theorem Kn {x:Int} {r:Nat} (h:x+4294967296=r) (hx:x<0) (hr:0≤x+4294967296):IntKind.u32.wrap x=(r:Int):=by rw[IntKind.wrap_u32];omega
theorem R1 (n:Nat) (hn:n≤70368744177664):AA [.int .u32 0] 4 (VI (n:Int)) (VI (n:Int)) []=some (.ref 0 0 0 n n,[.row 0 ((List.replicate n 0).map uV) 1 true]):=sH (f:=uV) (x:=0) rfl (by omega) (by omega)
theorem NF {outs:List Nat} {i d:Nat} (hi:i<outs.length):cJ 0 1 (.ptr 0 0 i 0) (uV d) [.row 0 (outs.map uV) 1 true]=some [.row 0 ((outs.set i d).map uV) 1 true]:=by
 rw[cR (f:=uV) (e:=1) hJ hi (Nat.le_refl _) rfl rfl]
 rfl
theorem Cp (a b:Nat) (Gz:b≤a) (ha:(aC 4294967296 a).length≤17592186044416):TC 181 [bE a,bE b] (bE (a-b)):=by
 refine TC.walk ⟨true,false⟩ GD rfl (Nat.le_of_ble_eq_true rfl) (by simp[aL,bH]) (oY _) ?_
 have va:=bP (b:=4294967296) (by decide) a
 have vb:=bP (b:=4294967296) (by decide) b
 have la:=eI (b:=4294967296) (by decide) a
 have lb:=eI (b:=4294967296) (by decide) b
 have hle:=dJ (b:=4294967296) (by decide) Gz
 unfold bE
 generalize aC 4294967296 a=xs at *
 generalize aC 4294967296 b=ys at *
 simp only[CD,Ax,R1 xs.length (by omega),VX,Nat.reduceEqDiff,Nat.reduceAdd]
 refine aN (fun(s:Nat×List Nat×Nat) ρ H=>s.1≤xs.length∧H=[.row 0 (s.2.1.map uV) 1 true]∧s.2.1.length=xs.length∧(∀d∈s.2.1,d<4294967296)∧s.2.2≤1∧val 4294967296 (xs.take s.1)+4294967296^s.1*s.2.2=val 4294967296 (s.2.1.take s.1)+val 4294967296 (ys.take s.1) ∧
  ρ 0=Ad xs∧ρ 1=Ad ys∧ρ 5 = .ref 0 0 0 xs.length xs.length∧ρ 6=VI s.2.2∧ρ 13=VI xs.length∧ρ 14=VI s.1) (fun s=>xs.length-s.1) (0,List.replicate xs.length 0,0) ⟨Nat.zero_le _,rfl,by simp,yR (by decide) _,by simp,by simp[val],rfl,rfl,rfl,rfl,rfl,rfl⟩ ?_
 rintro⟨i,outs,l⟩ ρ H ⟨hi,rfl,gZ,jT,hc,hv,g0,g1,g5,g6,g13,g14⟩
 simp only at hi gZ jT hc hv g6 g14
 by_cases cC:(i:Int)<(xs.length:Int)
 ·obtain⟨x,hx⟩:∃x,xs[i]? = some x:=⟨_,List.getElem?_eq_getElem (by omega)⟩
  have lx:=la x (List.mem_of_getElem? hx)
  have e1:=aF (f:=uV) (t := .op) (H:=[.row 0 (outs.map uV) 1 true]) (size:=1) (k := .i64) hx rfl
  have w1:IntKind.i64.wrap (x:Int)=(x:Int):=wrapN x rfl (by omega)
  have w2:IntKind.i64.wrap ((x:Int)-(l:Int))=(x:Int)-(l:Int):=wrap64 (by omega) (by omega)
  have wi:IntKind.i64.wrap ((i:Int)+1)=((i+1:Nat):Int):=wrapN (i+1) (by omega) (by omega)
  have e3:bC 1 (.ref 0 0 0 xs.length xs.length) (VI i) [.row 0 (outs.map uV) 1 true]=some (.ptr 0 0 i 0):=by rw[aQ hJ (by omega),Nat.zero_add]
  have e4:∀s:Nat,cJ 0 1 (.ptr 0 0 i 0) (uV s) [.row 0 (outs.map uV) 1 true]=some [.row 0 ((outs.set i s).map uV) 1 true]:=fun s=>NF (by omega)
  have step:∀y r l':Nat,y<4294967296→r<4294967296→l'≤1→(∀d,ys[i]? = some d→d=y)→(ys.length≤i→y=0)→r+y+l=x+4294967296*l' →
    i+1≤xs.length∧(outs.set i r).length=xs.length∧(∀d∈outs.set i r,d<4294967296)∧l'≤1∧val 4294967296 (xs.take (i+1))+4294967296^(i+1)*l'=val 4294967296 ((outs.set i r).take (i+1))+val 4294967296 (ys.take (i+1)):=by
   intro y r l' _ hr BO h1 h2 hd
   refine⟨by omega,by rw[List.length_set];exact gZ,kI jT hr,BO,?_⟩
   have hy:val 4294967296 (ys.take (i+1))=val 4294967296 (ys.take i)+4294967296^i*y:=by
    cases RJ:ys[i]? with
    | some d=>rw[aS RJ,h1 d RJ]
    |
     none =>
     have hle:=List.getElem?_eq_none_iff.1 RJ
     rw[h2 hle,iB hle,iB (by omega),Nat.mul_zero,Nat.add_zero]
   rw[aS hx,hy,dQ (by omega),Nat.pow_succ]
   exact Ha hv hd
  by_cases aV:(i:Int)<(ys.length:Int)
  ·obtain⟨y,hy⟩:∃y,ys[i]? = some y:=⟨_,List.getElem?_eq_getElem (by omega)⟩
   have ly:=lb y (List.mem_of_getElem? hy)
   have e2:=aF (f:=uV) (t := .op) (H:=[.row 0 (outs.map uV) 1 true]) (size:=1) (k := .i64) hy rfl
   have w3:IntKind.i64.wrap (y:Int)=(y:Int):=wrapN y rfl (by omega)
   have w4:IntKind.i64.wrap ((x:Int)-(l:Int)-(y:Int))=(x:Int)-(l:Int)-(y:Int):=wrap64 (by omega) (by omega)
   by_cases mD:(x:Int)-(l:Int)-(y:Int)<0
   ·obtain⟨r,hr⟩:∃r:Nat,r+y+l=x+4294967296:=⟨x+4294967296-l-y,by omega⟩
    have w5:IntKind.u32.wrap ((x:Int)-(l:Int)-(y:Int))=(r:Int):=Kn (by omega) mD (by omega)
    obtain⟨s1,s2,s3,s4,s5⟩:=step y r 1 ly (by omega) (Nat.le_refl _) (fun d hd=>by rw[hy] at hd;injection hd with hd;exact hd.symm) (fun h=>by omega) (by omega)
    simp only[gQ,g0,g1,g5,g6,g13,g14,cC,aV,mD,e1,e2,e3,e4,w1,w2,w3,w4,w5,wi,VX,Nat.reduceEqDiff,Nat.reduceAdd]
    exact⟨(i+1,outs.set i r,1),by simp only;omega,s1,rfl,s2,s3,s4,s5,by (repeat' apply And.intro)<;>first | rfl | trivial⟩
   ·obtain⟨r,hr⟩:∃r:Nat,r+y+l=x:=⟨x-l-y,by omega⟩
    have w5:IntKind.u32.wrap ((x:Int)-(l:Int)-(y:Int))=(r:Int):=by rw[IntKind.wrap_u32];omega
    obtain⟨s1,s2,s3,s4,s5⟩:=step y r 0 ly (by omega) (by omega) (fun d hd=>by rw[hy] at hd;injection hd with hd;exact hd.symm) (fun h=>by omega) (by omega)
    simp only[gQ,g0,g1,g5,g6,g13,g14,cC,aV,mD,e1,e2,e3,e4,w1,w2,w3,w4,w5,wi,VX,Nat.reduceEqDiff,Nat.reduceAdd]
    exact⟨(i+1,outs.set i r,0),by simp only;omega,s1,rfl,s2,s3,s4,s5,by (repeat' apply And.intro)<;>first | rfl | trivial⟩
  ·by_cases mD:(x:Int)-(l:Int)<0
   ·obtain⟨r,hr⟩:∃r:Nat,r+l=x+4294967296:=⟨x+4294967296-l,by omega⟩
    have w5:IntKind.u32.wrap ((x:Int)-(l:Int))=(r:Int):=Kn (by omega) mD (by omega)
    obtain⟨s1,s2,s3,s4,s5⟩:=step 0 r 1 (by decide) (by omega) (Nat.le_refl _) (fun d hd=>by have:=(List.getElem?_eq_some_iff.1 hd).1;omega) (fun _=>rfl) (by omega)
    simp only[gQ,g0,g1,g5,g6,g13,g14,cC,aV,mD,e1,e3,e4,w1,w2,w5,wi,VX,Nat.reduceEqDiff,Nat.reduceAdd]
    exact⟨(i+1,outs.set i r,1),by simp only;omega,s1,rfl,s2,s3,s4,s5,by (repeat' apply And.intro)<;>first | rfl | trivial⟩
   ·obtain⟨r,hr⟩:∃r:Nat,r+l=x:=⟨x-l,by omega⟩
    have w5:IntKind.u32.wrap ((x:Int)-(l:Int))=(r:Int):=by rw[IntKind.wrap_u32];omega
    obtain⟨s1,s2,s3,s4,s5⟩:=step 0 r 0 (by decide) (by omega) (by omega) (fun d hd=>by have:=(List.getElem?_eq_some_iff.1 hd).1;omega) (fun _=>rfl) (by omega)
    simp only[gQ,g0,g1,g5,g6,g13,g14,cC,aV,mD,e1,e3,e4,w1,w2,w5,wi,VX,Nat.reduceEqDiff,Nat.reduceAdd]
    exact⟨(i+1,outs.set i r,0),by simp only;omega,s1,rfl,s2,s3,s4,s5,by (repeat' apply And.intro)<;>first | rfl | trivial⟩
 ·have oU:i=xs.length:=by omega
  subst oU
  rw[List.take_length,List.take_of_length_le (l:=ys) hle,List.take_of_length_le (l:=outs) (by omega),va,vb] at hv
  have eX:=nB jT
  rw[gZ] at eX
  have BI:val 4294967296 outs=a-b:=by
   rcases Nat.lt_or_ge l 1 with h | h
   ·have:l=0:=by omega
    subst this
    rw[Nat.mul_zero] at hv
    omega
   ·have:l=1:=by omega
    subst this
    rw[Nat.mul_one] at hv
    omega
  simp only[gQ,g0,g1,g5,g6,g13,g14,cC,VX,Nat.reduceEqDiff,Nat.reduceAdd]
  refine qH (m:=a-b) hJ (by omega) (Nat.le_refl _) (by omega) (fun d hd=>jT d (List.mem_of_mem_take hd)) (by rw[List.take_of_length_le (by omega)];exact BI) fun k hk he => ?_
  simp only[VX,Nat.reduceEqDiff,Nat.reduceAdd]
  exact NO hJ (by omega) hk he
theorem QM {P Q A B Y x c r q o y W:Nat} (KW:A+P*Q*c=B+P*(x*Y)) (h1:r+W*q=c+(x*y+o)):A+P*Q*r+P*Q*W*q=B+P*Q*o+P*(x*(Y+Q*y)):=by
 have h2:P*Q*(r+W*q)=P*Q*(c+(x*y+o)):=by rw[h1]
 grind
theorem kL (a b:Nat) (ha:(aC 4294967296 a).length≤17592186044416) (hb:(aC 4294967296 b).length≤17592186044416):TC 180 [bE a,bE b] (bE (a*b)):=by
 refine TC.walk ⟨true,false⟩ Gl rfl (Nat.le_of_ble_eq_true rfl) (by simp[aL,bH]) (oY _) ?_
 have va:=bP (b:=4294967296) (by decide) a
 have vb:=bP (b:=4294967296) (by decide) b
 have la:=eI (b:=4294967296) (by decide) a
 have lb:=eI (b:=4294967296) (by decide) b
 unfold bE
 generalize aC 4294967296 a=xs at *
 generalize aC 4294967296 b=ys at *
 have w0:IntKind.i64.wrap ((xs.length:Int)+(ys.length:Int))=((xs.length+ys.length:Nat):Int):=wrapN _ (by omega) (by omega)
 simp only[BS,Ab,w0,R1 (xs.length+ys.length) (by omega),VX,Nat.reduceEqDiff,Nat.reduceAdd]
 generalize hN:xs.length+ys.length=N at *
 refine aN (fun(s:Nat×List Nat) ρ H=>s.1≤xs.length∧H=[.row 0 (s.2.map uV) 1 true]∧s.2.length=N∧(∀d∈s.2,d<4294967296)∧val 4294967296 (s.2.take (s.1+ys.length))=val 4294967296 (xs.take s.1)*b ∧
  ρ 0=Ad xs∧ρ 1=Ad ys∧ρ 5 = .ref 0 0 0 N N∧ρ 17=Ad xs∧ρ 18=VI xs.length∧ρ 19=VI s.1) (fun s=>xs.length-s.1) (0,List.replicate N 0) ⟨Nat.zero_le _,rfl,by simp,yR (by decide) _,by simp[val,List.take_replicate,pU],rfl,rfl,rfl,rfl,rfl,rfl⟩ ?_
 rintro⟨i,outs⟩ ρ H ⟨hi,rfl,gZ,jT,hv,g0,g1,g5,g17,g18,g19⟩
 simp only at hi gZ jT hv g19
 by_cases cC:(i:Int)<(xs.length:Int)
 ·obtain⟨x,hx⟩:∃x,xs[i]? = some x:=⟨_,List.getElem?_eq_getElem (by omega)⟩
  have lx:=la x (List.mem_of_getElem? hx)
  have e1:=aF (f:=uV) (t := .op) (H:=[.row 0 (outs.map uV) 1 true]) (size:=1) (k := .i64) hx rfl
  simp only[rU,g0,g1,g5,g17,g18,g19,cC,e1,VX,Nat.reduceEqDiff,Nat.reduceAdd]
  refine aN (fun(s:Nat×List Nat×Nat) ρ H=>s.1≤ys.length∧H=[.row 0 (s.2.1.map uV) 1 true]∧s.2.1.length=N∧(∀d∈s.2.1,d<4294967296)∧s.2.2<4294967296 ∧
   val 4294967296 (s.2.1.take (i+s.1))+4294967296^(i+s.1)*s.2.2=val 4294967296 (outs.take (i+s.1))+4294967296^i*(x*val 4294967296 (ys.take s.1))∧(∀j,i+s.1≤j→s.2.1[j]? = outs[j]?) ∧
   ρ 0=Ad xs∧ρ 1=Ad ys∧ρ 5 = .ref 0 0 0 N N∧ρ 6=VI i∧ρ 7=uV x∧ρ 8=VK .u64 s.2.2∧ρ 17=Ad xs∧ρ 18=VI xs.length∧ρ 19=VI i∧ρ 24=Ad ys∧ρ 25=VI ys.length∧ρ 26=VI s.1) (fun s=>ys.length-s.1) (0,outs,0) ⟨Nat.zero_le _,rfl,gZ,jT,by simp,by simp[val],fun _ _=>rfl,by (repeat' apply And.intro)<;>first | rfl | trivial⟩ ?_
  rintro⟨k,os,c⟩ Mm H ⟨hk,rfl,N2,NH,hc,KW,Ez,k0,k1,k5,k6,k7,k8,Gf,Wu,ZE,k24,k25,k26⟩
  simp only at hk N2 NH hc KW Ez k8 k26
  have wi:IntKind.i64.wrap ((i:Int)+1)=((i+1:Nat):Int):=wrapN (i+1) (by omega) (by omega)
  by_cases hkn:(k:Int)<(ys.length:Int)
  ·obtain⟨y,hy⟩:∃y,ys[k]? = some y:=⟨_,List.getElem?_eq_getElem (by omega)⟩
   have ly:=lb y (List.mem_of_getElem? hy)
   obtain⟨o,ho⟩:∃o,os[i+k]? = some o:=⟨_,List.getElem?_eq_getElem (by omega)⟩
   have lo:=NH o (List.mem_of_getElem? ho)
   have Zp:outs[i+k]? = some o:=by rw[←Ez (i+k) (Nat.le_refl _)];exact ho
   have f1:=aF (f:=uV) (t := .op) (H:=[.row 0 (os.map uV) 1 true]) (size:=1) (k := .i64) hy rfl
   have w1:IntKind.i64.wrap ((i:Int)+(k:Int))=((i+k:Nat):Int):=wrapN _ (by omega) (by omega)
   have f2:bC 1 (.ref 0 0 0 N N) (VI ((i+k:Nat):Int)) [.row 0 (os.map uV) 1 true]=some (.ptr 0 0 (i+k) 0):=by rw[aQ hJ (by omega),Nat.zero_add]
   have f3:dG false 1 (.ptr 0 0 (i+k) 0) [.row 0 (os.map uV) 1 true]=some (uV o):=gL hJ ho
   have f4:∀s:Nat,cJ 0 1 (.ptr 0 0 (i+k) 0) (uV s) [.row 0 (os.map uV) 1 true]=some [.row 0 ((os.set (i+k) s).map uV) 1 true]:=fun s=>NF (by omega)
   have yT:x*y≤4294967295*4294967295:=Nat.mul_le_mul (by omega) (by omega)
   have w2:IntKind.u64.wrap (x:Int)=(x:Int):=eO _ (by omega)
   have w3:IntKind.u64.wrap (y:Int)=(y:Int):=eO _ (by omega)
   have w4:IntKind.u64.wrap (o:Int)=(o:Int):=eO _ (by omega)
   have w5:IntKind.u64.wrap ((x:Int)*(y:Int))=((x*y:Nat):Int):=by rw[←Int.natCast_mul];exact eO _ (by omega)
   have w6:IntKind.u64.wrap (((x*y:Nat):Int)+(o:Int))=((x*y+o:Nat):Int):=by rw[←Int.natCast_add];exact eO _ (by omega)
   have w7:IntKind.u64.wrap ((c:Int)+((x*y+o:Nat):Int))=((c+(x*y+o):Nat):Int):=by rw[←Int.natCast_add];exact eO _ (by omega)
   have wk:IntKind.i64.wrap ((k:Int)+1)=((k+1:Nat):Int):=wrapN (k+1) (by omega) (by omega)
   simp only[rD,k0,k1,k5,k6,k7,k8,Gf,Wu,ZE,k24,k25,k26,hkn,f1,f2,f3,f4,w1,w2,w3,w4,w5,w6,w7,wk,wrap32,qV,VX,Nat.reduceEqDiff,Nat.reduceAdd]
   have hq:(c+(x*y+o)) / 4294967296<4294967296:=Nat.div_lt_of_lt_mul (by omega)
   refine⟨(k+1,os.set (i+k) ((c+(x*y+o)) % 4294967296),(c+(x*y+o)) / 4294967296),by simp only;omega,by omega,rfl,by rw[List.length_set];exact N2,kI NH (Nat.mod_lt _ (by decide)),hq,?_,fun j hj => ?_,by (repeat' apply And.intro)<;>first | rfl | trivial⟩
   ·have h1:=Nat.mod_add_div (c+(x*y+o)) 4294967296
    rw[←Nat.add_assoc,dQ (by omega),aS Zp,aS hy,Nat.pow_succ]
    rw[Nat.pow_add] at KW ⊢
    exact QM KW h1
   ·rw[List.getElem?_set_ne (by omega)]
    exact Ez j (by omega)
  ·have hke:k=ys.length:=by omega
   subst hke
   rw[List.take_length,vb,hv] at KW
   have w1:IntKind.i64.wrap ((i:Int)+(ys.length:Int))=((i+ys.length:Nat):Int):=wrapN _ (by omega) (by omega)
   have f2:bC 1 (.ref 0 0 0 N N) (VI ((i+ys.length:Nat):Int)) [.row 0 (os.map uV) 1 true]=some (.ptr 0 0 (i+ys.length) 0):=by rw[aQ hJ (by omega),Nat.zero_add]
   have f4:∀s:Nat,cJ 0 1 (.ptr 0 0 (i+ys.length) 0) (uV s) [.row 0 (os.map uV) 1 true]=some [.row 0 ((os.set (i+ys.length) s).map uV) 1 true]:=fun s=>NF (by omega)
   simp only[rD,k0,k1,k5,k6,k7,k8,Gf,Wu,ZE,k24,k25,k26,hkn,f2,f4,w1,wi,wrap32,VX,Nat.reduceEqDiff,Nat.reduceAdd]
   refine⟨(i+1,os.set (i+ys.length) (c % 4294967296)),by simp only;omega,by omega,rfl,by rw[List.length_set];exact N2,kI NH (Nat.mod_lt _ (by decide)),?_,by (repeat' apply And.intro)<;>first | rfl | trivial⟩
   rw[show i+1+ys.length=i+ys.length+1 by omega,dQ (by omega),Nat.mod_eq_of_lt hc,KW,aS hx,Nat.add_mul,Nat.mul_assoc]
 ·have oU:i=xs.length:=by omega
  subst oU
  rw[hN,List.take_length,va,List.take_of_length_le (by omega)] at hv
  simp only[rU,g0,g1,g5,g17,g18,g19,cC,VX,Nat.reduceEqDiff,Nat.reduceAdd]
  refine qH (m:=a*b) hJ (by omega) (Nat.le_refl _) (by omega) (fun d hd=>jT d (List.mem_of_mem_take hd)) (by rw[List.take_of_length_le (by omega)];exact hv) fun k hk he => ?_
  simp only[VX,Nat.reduceEqDiff,Nat.reduceAdd]
  exact NO hJ (by omega) hk he
end Go.PM
namespace Go.PM
theorem set_drop {xs:List Nat} {i d:Nat} (h:i<xs.length):(xs.set i d).drop i=d::xs.drop (i+1):=by
 rw[List.drop_eq_getElem_cons (by rw[List.length_set];exact h),List.getElem_set_self,K4 h]
theorem Ud (n k:Nat) (hn:n≤70368744177664) {H:aA}:AA [.int .u32 0] 4 (VI (n:Int)) (VI (n:Int)) H=some (.ref H.length 0 0 n n,H++[.row 0 ((List.replicate n 0).map uV) 1 true]):=sH (f:=uV) (x:=0) rfl (by omega) (by omega)
theorem PW {A q t r x d W:Nat} (h1:t+d*q=r*W+x):(q+W*A)*d+t=x+W*(A*d+r):=by grind
theorem Sb {A B P S W c m x q:Nat} (hv:A+P*c=B*S) (h1:m*S+W*q=x*S):A+P*(c+m*S)+P*W*q=(B+P*x)*S:=by
 have h2:P*(m*S+W*q)=P*(x*S):=by rw[h1]
 grind
theorem uH (a d:Nat) (Cv:0<d) (hdW:d<4294967296) (ha:(aC 4294967296 a).length≤17592186044416):TC 183 [bE a,uV d] (.dY [bE (a / d),uV (a % d)]):=by
 refine TC.walk ⟨true,false⟩ BK rfl (Nat.le_of_ble_eq_true rfl) (by simp[aL,bH,aO,jS]) (by simp[gH,qI,oY,jS]) ?_
 have va:=bP (b:=4294967296) (by decide) a
 have la:=eI (b:=4294967296) (by decide) a
 unfold bE
 generalize aC 4294967296 a=xs at *
 have w0:IntKind.i64.wrap ((xs.length:Int)-1)=(xs.length:Int)-1:=wrap64 (by omega) (by omega)
 have wd:IntKind.u64.wrap (d:Int)=(d:Int):=eO _ (by omega)
 simp only[uN,rX,w0,R1 xs.length (by omega),VX,Nat.reduceEqDiff,Nat.reduceAdd]
 refine aN (fun(s:Nat×List Nat×Nat) ρ H=>s.1≤xs.length∧H=[.row 0 (s.2.1.map uV) 1 true]∧s.2.1.length=xs.length∧(∀d∈s.2.1,d<4294967296)∧s.2.2<d∧val 4294967296 (s.2.1.drop s.1)*d+s.2.2=val 4294967296 (xs.drop s.1) ∧
  ρ 0=Ad xs∧ρ 1=uV d∧ρ 6 = .ref 0 0 0 xs.length xs.length∧ρ 7=VK .u64 s.2.2∧ρ 8=VI ((s.1:Int)-1)) (fun s=>s.1) (xs.length,List.replicate xs.length 0,0) ⟨Nat.le_refl _,rfl,by simp,yR (by decide) _,Cv,by simp[val,List.drop_replicate],rfl,rfl,rfl,rfl,rfl⟩ ?_
 rintro⟨j,outs,r⟩ ρ H ⟨hj,rfl,gZ,jT,hr,hv,g0,g1,g6,g7,g8⟩
 simp only at hj gZ jT hr hv g7 g8
 by_cases hz:(0:Int)≤(j:Int)-1
 ·obtain⟨i,rfl⟩:∃i,j=i+1:=⟨j-1,by omega⟩
  obtain⟨x,hx⟩:∃x,xs[i]? = some x:=⟨_,List.getElem?_eq_getElem (by omega)⟩
  have lx:=la x (List.mem_of_getElem? hx)
  have KY:((i+1:Nat):Int)-1=(i:Int):=by omega
  rw[KY] at g8 hz
  have e1:=aF (f:=uV) (t := .op) (H:=[.row 0 (outs.map uV) 1 true]) (size:=1) (k := .i64) hx rfl
  have e3:bC 1 (.ref 0 0 0 xs.length xs.length) (VI i) [.row 0 (outs.map uV) 1 true]=some (.ptr 0 0 i 0):=by rw[aQ hJ (by omega),Nat.zero_add]
  have e4:∀s:Nat,cJ 0 1 (.ptr 0 0 i 0) (uV s) [.row 0 (outs.map uV) 1 true]=some [.row 0 ((outs.set i s).map uV) 1 true]:=fun s=>NF (by omega)
  have w2:IntKind.i64.wrap ((i:Int)-1)=(i:Int)-1:=wrap64 (by omega) (by omega)
  have w3:IntKind.u64.wrap (x:Int)=(x:Int):=eO _ (by omega)
  have w4:IntKind.u64.wrap (((r*4294967296:Nat):Int)+(x:Int))=((r*4294967296+x:Nat):Int):=by rw[←Int.natCast_add];exact eO _ (by omega)
  have w5:=CP r .u64 (by omega)
  have q1:=T2 (r*4294967296+x) d (by omega) Cv
  have q2:=NG (r*4294967296+x) d Cv
  have hq:(r*4294967296+x) / d<4294967296:=by
   rw[Nat.div_lt_iff_lt_mul Cv]
   have:(r+1)*4294967296≤d*4294967296:=Nat.mul_le_mul_right _ hr
   rw[Nat.mul_comm 4294967296 d]
   omega
  simp only[lB,g0,g1,g6,g7,g8,hz,e1,e3,e4,w2,w3,w4,w5,wd,q1,q2,wrap32,Nat.mod_eq_of_lt hq,VX,Nat.reduceEqDiff,Nat.reduceAdd]
  refine⟨(i,outs.set i ((r*4294967296+x) / d),(r*4294967296+x) % d),by simp only;omega,by omega,rfl,by rw[List.length_set];exact gZ,kI jT hq,Nat.mod_lt _ Cv,?_,by (repeat' apply And.intro)<;>first | rfl | trivial⟩
  have h1:=Nat.mod_add_div (r*4294967296+x) d
  rw[set_drop (by omega),rR,qY hx,←hv]
  exact PW h1
 ·have RA:j=0:=by omega
  subst RA
  rw[List.drop_zero,List.drop_zero,va] at hv
  have h1:a / d=val 4294967296 outs:=by
   rw[←hv,Nat.mul_comm,Nat.mul_add_div Cv,Nat.div_eq_of_lt hr,Nat.add_zero]
  have h2:a % d=r:=by
   rw[←hv,Nat.mul_comm,Nat.mul_add_mod,Nat.mod_eq_of_lt hr]
  simp only[lB,g0,g1,g6,g7,g8,hz,VX,Nat.reduceEqDiff,Nat.reduceAdd]
  refine qH (m:=a / d) hJ (by omega) (Nat.le_refl _) (by omega) (fun d hd=>jT d (List.mem_of_mem_take hd)) (by rw[List.take_of_length_le (by omega)];exact h1.symm) fun k hk he => ?_
  simp only[wrap32,Nat.mod_eq_of_lt (show r<4294967296 by omega),g7,VX,Nat.reduceEqDiff,Nat.reduceAdd]
  rw[h2]
  exact bF (d:=6) (IX (d:=5) hJ (by omega) hk he) (aH rfl)
theorem EH {n g e:Nat} {es:List VV} {w:Bool}:aK (List.replicate n cI.dead++[.row g es e w]) n g=some (es,e,w):=by rw[IL];exact bG
theorem aqS {n:Nat} (xs:List Nat):sQ n (xs.map uV)=true:=by
 rw[EG]
 intro x hx
 obtain⟨y,_,rfl⟩:=List.mem_map.1 hx
 rfl
theorem xD (a s:Nat) (hs:s≤31) (ha:(aC 4294967296 a).length≤17592186044416):FC 220 [bE a,VI s] fun n r L=>∃outs:List Nat,r = .ref n 0 0 ((aC 4294967296 a).length+1) ((aC 4294967296 a).length+1)∧L=[.row 0 (outs.map uV) 1 true]∧outs.length=(aC 4294967296 a).length+1∧(∀d∈outs,d<4294967296)∧val 4294967296 outs=a*2^s∧(∀d,outs[(aC 4294967296 a).length]? = some d→d<2^s):=by
 refine FC.walk ⟨true,false⟩ CM (Nat.le_of_ble_eq_true rfl) fun n => ?_
 have va:=bP (b:=4294967296) (by decide) a
 have la:=eI (b:=4294967296) (by decide) a
 unfold bE
 generalize aC 4294967296 a=xs at *
 have hS:0<2^s:=Nat.pow_pos (by decide)
 have hSW:2^s*2^(32-s)=4294967296:=by rw[←Nat.pow_add,show s+(32-s)=32 by omega]
 have w0:IntKind.i64.wrap ((xs.length:Int)+1)=((xs.length+1:Nat):Int):=wrapN _ (by omega) (by omega)
 simp only[wB,tQ,w0,Ud (xs.length+1) n (by omega),List.length_replicate,VX,Nat.reduceEqDiff,Nat.reduceAdd]
 refine aN (fun(t:Nat×List Nat×Nat) ρ H=>t.1≤xs.length∧H=List.replicate n .dead++[.row 0 (t.2.1.map uV) 1 true]∧t.2.1.length=xs.length+1∧(∀d∈t.2.1,d<4294967296)∧t.2.1[t.1]? = some t.2.2∧t.2.2<2^s∧val 4294967296 (t.2.1.take t.1)+4294967296^t.1*t.2.2=val 4294967296 (xs.take t.1)*2^s ∧
  ρ 1=VI s∧ρ 5 = .ref n 0 0 (xs.length+1) (xs.length+1)∧ρ 13=Ad xs∧ρ 14=VI xs.length∧ρ 15=VI t.1) (fun t=>xs.length-t.1) (0,List.replicate (xs.length+1) 0,0) ⟨Nat.zero_le _,rfl,by simp,yR (by decide) _,by simp,hS,by simp[val],rfl,rfl,rfl,rfl,rfl⟩ ?_
 rintro⟨i,outs,c⟩ ρ H ⟨hi,rfl,gZ,jT,hoc,hc,hv,g1,g5,g13,g14,g15⟩
 simp only at hi gZ jT hoc hc hv g15
 by_cases cC:(i:Int)<(xs.length:Int)
 ·obtain⟨x,hx⟩:∃x,xs[i]? = some x:=⟨_,List.getElem?_eq_getElem (by omega)⟩
  have lx:=la x (List.mem_of_getElem? hx)
  have e1:=aF (f:=uV) (t := .op) (H:=List.replicate n .dead++[.row 0 (outs.map uV) 1 true]) (size:=1) (k := .i64) hx rfl
  have wx:IntKind.u64.wrap (x:Int)=(x:Int):=eO _ (by omega)
  have wi:IntKind.i64.wrap ((i:Int)+1)=((i+1:Nat):Int):=wrapN (i+1) (by omega) (by omega)
  have w5:=ahR x s lx hs
  obtain⟨m,hm⟩:∃m,(x*2^s) % 4294967296=m*2^s:=by
   refine⟨x % 2^(32-s),?_⟩
   rw[←hSW,Nat.mul_comm x,Nat.mul_mod_mul_left,Nat.mul_comm]
  have hhi:(x*2^s) / 4294967296<2^s:=by
   rw[Nat.div_lt_iff_lt_mul (by decide),Nat.mul_comm (2^s)]
   exact Nat.mul_lt_mul_of_pos_right lx hS
  have aV:(x*2^s) % 4294967296<4294967296:=Nat.mod_lt _ (by decide)
  have hmm:m<2^(32-s):=by
   have:m*2^s<2^(32-s)*2^s:=by rw[←hm,Nat.mul_comm (2^(32-s)) (2^s),hSW];exact aV
   exact Nat.lt_of_mul_lt_mul_right this
  have VP:m*2^s+c<4294967296:=by
   have:(m+1)*2^s≤2^(32-s)*2^s:=Nat.mul_le_mul_right _ hmm
   rw[Nat.mul_comm (2^(32-s)),hSW,Nat.add_mul] at this
   omega
  have or1:=aeX c m s hc VP
  have e3:bC 1 (.ref n 0 0 (xs.length+1) (xs.length+1)) (VI i) (List.replicate n .dead++[.row 0 (outs.map uV) 1 true])=some (.ptr n 0 i 0):=by rw[aQ EH (by omega),Nat.zero_add]
  have e4:dG false 1 (.ptr n 0 i 0) (List.replicate n .dead++[.row 0 (outs.map uV) 1 true])=some (uV c):=gL EH hoc
  have e5:∀(os:List Nat) (j t:Nat),j<os.length→cJ n 1 (.ptr n 0 j 0) (uV t) (List.replicate n .dead++[.row 0 (os.map uV) 1 true])=some (List.replicate n .dead++[.row 0 ((os.set j t).map uV) 1 true]):=fun os j t hj=>by
   rw[cR (f:=uV) (e:=1) EH hj (Nat.le_refl _) rfl rfl,RP]
   rfl
  have e6:bC 1 (.ref n 0 0 (xs.length+1) (xs.length+1)) (VI ((i+1:Nat):Int)) (List.replicate n .dead++[.row 0 ((outs.set i (c+m*2^s)).map uV) 1 true])=some (.ptr n 0 (i+1) 0):=by rw[aQ EH (by omega),Nat.zero_add]
  have e7:=e5 outs i (c+m*2^s) (by omega)
  have e8:=e5 (outs.set i (c+m*2^s)) (i+1) ((x*2^s) / 4294967296) (by rw[List.length_set];omega)
  have hq:(x*2^s) / 4294967296 % 4294967296=(x*2^s) / 4294967296:=Nat.mod_eq_of_lt (by
   have:2^s≤2^31:=Nat.pow_le_pow_right (by decide) hs
   omega)
  simp only[mA,g1,g5,g13,g14,g15,cC,e1,e3,e4,e6,e7,e8,wx,wi,w5,wrap32,qV,hm,or1,hq,VX,Nat.reduceEqDiff,Nat.reduceAdd]
  refine⟨(i+1,(outs.set i (c+m*2^s)).set (i+1) ((x*2^s) / 4294967296),(x*2^s) / 4294967296),by simp only;omega,by omega,rfl,by rw[List.length_set,List.length_set];exact gZ,
   kI (kI jT (by omega)) (by
    have:2^s≤2^31:=Nat.pow_le_pow_right (by decide) hs
    omega),by rw[List.getElem?_set_self (by rw[List.length_set];omega)],hhi,?_,by (repeat' apply And.intro)<;>first | rfl | trivial⟩
  rw[List.take_set_of_le (Nat.le_refl _),dQ (by omega),aS hx,Nat.pow_succ]
  have h1:=Nat.mod_add_div (x*2^s) 4294967296
  rw[hm] at h1
  exact Sb hv h1
 ·have oU:i=xs.length:=by omega
  subst oU
  rw[List.take_length,va] at hv
  have BI:val 4294967296 outs=a*2^s:=by
   have h1:=aS (b:=4294967296) hoc
   rw[List.take_of_length_le (by omega)] at h1
   rw[h1]
   exact hv
  simp only[mA,g1,g5,g13,g14,g15,cC,VX,Nat.reduceEqDiff,Nat.reduceAdd]
  exact⟨_,rfl,by simp[fO],by simp[dA,aqS outs],outs,rfl,gZ,jT,BI,fun d hd=>by rw[hoc] at hd;injection hd with hd;omega⟩
end Go.PM
namespace Go.PM
theorem NW (n:Nat) (hn:n≤35184372088832):AA [.int .i64 0] 8 (VI (n:Int)) (VI (n:Int)) []=some (.ref 0 0 0 n n,[.row 0 ((List.replicate n 0).map tV) 1 true]):=sH (f:=tV) (x:=0) rfl (by omega) (by omega)
theorem N0 {outs:List Nat} {i d:Nat} (hi:i<outs.length):cJ 0 1 (.ptr 0 0 i 0) (VI (d:Int)) [.row 0 (outs.map tV) 1 true]=some [.row 0 ((outs.set i d).map tV) 1 true]:=by
 rw[show VI (d:Int)=tV d from rfl,cR (f:=tV) (e:=1) II hi (Nat.le_refl _) rfl rfl]
 rfl
theorem JN {b g:Nat} {rows:List Nat} {w:Bool} {H:aA} {j d:Nat} (hr:aK H b g=some (rows.map tV,1,w)) (hj:rows[j]? = some d):dG false 1 (.ptr b g j 0) H=some (VI (d:Int)):=oM hr hj
theorem adT {n i:Nat} {outs:List Nat} (h:i<n):bC 1 (.ref 0 0 0 n n) (VI (i:Int)) [.row 0 (outs.map tV) 1 true]=some (.ptr 0 0 i 0):=by rw[aQ II h,Nat.zero_add]
theorem wr {x:Int} (n:Nat) (h:x=n) (hn:n≤9223372036854775807):IntKind.i64.wrap x=(n:Int):=wrapN n h hn
theorem yE (a b:Nat) (Gz:b≤a) (ha:(aC 1000000000 a).length≤17592186044416):TC 179 [bL a,bL b] (bL (a-b)):=by
 refine TC.walk ⟨true,false⟩ E0 rfl (Nat.le_of_ble_eq_true rfl) (by simp[aL,bO]) (lR _) ?_
 have hle:=dJ (b:=1000000000) (by decide) Gz
 simp only[Bv,xO,Kh,cH,VX,Nat.reduceEqDiff,Nat.reduceAdd]
 refine aN (fun(s:Nat×List Nat×Nat) ρ H=>s.1=s.2.1.length∧s.1≤(aC 1000000000 a).length∧H=[.row s.2.1.length (s.2.1.map tV) 1 true]∧(∀d∈s.2.1,d<1000000000)∧s.2.2≤1∧val 1000000000 ((aC 1000000000 a).take s.1)+1000000000^s.1*s.2.2=val 1000000000 s.2.1+val 1000000000 ((aC 1000000000 b).take s.1) ∧
  ρ 0=bL a∧ρ 1=bL b∧ρ 5 = .ref 0 s.2.1.length 0 s.2.1.length s.2.1.length∧ρ 6=VI s.2.2∧ρ 11=VI (aC 1000000000 a).length∧ρ 12=VI s.1) (fun s=>(aC 1000000000 a).length-s.1) (0,[],0) ⟨rfl,Nat.zero_le _,rfl,by simp,by simp,by simp[val],rfl,rfl,rfl,rfl,rfl,rfl⟩ ?_
 rintro⟨i,outs,l⟩ ρ H ⟨hi,IM,rfl,jT,hc,hv,g0,g1,g5,g6,g11,g12⟩
 simp only at hi IM jT hc hv g5 g6 g12
 by_cases cC:(i:Int)<((aC 1000000000 a).length:Int)
 ·have hx:=Je (b:=1000000000) (by decide) (n:=a) (i:=i) (by omega)
  have e1:bC 1 (bL a) (VI i) [.row outs.length (outs.map tV) 1 true]=some (.cO (tV (a / 1000000000^i % 1000000000)) 0):=aF (f:=tV) (t := .op) (size:=1) (k := .i64) hx rfl
  have c2:=BZ b i
  have t1:=Dt (b:=1000000000) (aC 1000000000 a) i
  have t2:=Dt (b:=1000000000) (aC 1000000000 b) i
  rw[Gy (by decide)] at t1 t2
  have lx:=Nat.mod_lt (a / 1000000000^i) (show 0<1000000000 by decide)
  have ly:=Nat.mod_lt (b / 1000000000^i) (show 0<1000000000 by decide)
  generalize a / 1000000000^i % 1000000000=x at *
  generalize b / 1000000000^i % 1000000000=y at *
  have wi:IntKind.i64.wrap ((i:Int)+1)=((i+1:Nat):Int):=wrapN (i+1) (by omega) (by omega)
  have w1:IntKind.i64.wrap ((x:Int)-(y:Int))=(x:Int)-(y:Int):=wrap64 (by omega) (by omega)
  have w2:IntKind.i64.wrap ((x:Int)-(y:Int)-(l:Int))=(x:Int)-(y:Int)-(l:Int):=wrap64 (by omega) (by omega)
  have step:∀r l':Nat,r<1000000000→l'≤1→r+y+l=x+1000000000*l'→(∀d∈outs++[r],d<1000000000)∧val 1000000000 ((aC 1000000000 a).take (i+1))+1000000000^(i+1)*l'=val 1000000000 (outs++[r])+val 1000000000 ((aC 1000000000 b).take (i+1)):=by
   intro r l' hr _ hd
   refine⟨fun d h => ?_,?_⟩
   ·rcases List.mem_append.1 h with h | h
    ·exact jT d h
    ·rw[List.mem_singleton.1 h];exact hr
   ·rw[t1,t2,rA,←hi,Nat.pow_succ]
    exact Ha hv hd
  by_cases mD:(x:Int)-(y:Int)-(l:Int)<0
  ·obtain⟨r,hr⟩:∃r:Nat,r+y+l=x+1000000000:=⟨x+1000000000-l-y,by omega⟩
   have w3:IntKind.i64.wrap ((x:Int)-(y:Int)-(l:Int)+1000000000)=(r:Int):=wrapN r (by omega) (by omega)
   obtain⟨s1,s2⟩:=step r 1 (by omega) (Nat.le_refl _) (by omega)
   have a1:=aaK (ds:=outs) (d:=r) (by omega)
   simp only[lA,g0,g1,g5,g6,g11,g12,cC,e1,c2,w1,w2,w3,wi,mD,rJ,tS,a1,VX,Nat.reduceEqDiff,Nat.reduceAdd]
   refine⟨(i+1,outs++[r],1),by simp only;omega,by simp;omega,by simp only;omega,by simp,s1,Nat.le_refl _,s2,?_⟩
   simp only[List.length_append,List.length_singleton]
   try (repeat' apply And.intro)<;>first | rfl | trivial
  ·obtain⟨r,hr⟩:∃r:Nat,r+y+l=x:=⟨x-l-y,by omega⟩
   obtain⟨s1,s2⟩:=step r 0 (by omega) (by omega) (by omega)
   have er:(x:Int)-(y:Int)-(l:Int)=(r:Int):=by omega
   have a1:=aaK (ds:=outs) (d:=r) (by omega)
   have w3:IntKind.i64.wrap ((x:Int)-(y:Int)-(l:Int))=(r:Int):=wrapN r er (by omega)
   have Mj:¬(r:Int)<0:=by omega
   simp only[lA,g0,g1,g5,g6,g11,g12,cC,e1,c2,w1,w3,wi,Mj,rJ,tS,a1,VX,Nat.reduceEqDiff,Nat.reduceAdd]
   refine⟨(i+1,outs++[r],0),by simp only;omega,by simp;omega,by simp only;omega,by simp,s1,Nat.zero_le _,s2,?_⟩
   simp only[List.length_append,List.length_singleton]
   try (repeat' apply And.intro)<;>first | rfl | trivial
 ·have oU:i=(aC 1000000000 a).length:=by omega
  rw[oU,List.take_length,List.take_of_length_le (l:=aC 1000000000 b) hle,bP (by decide),bP (by decide)] at hv
  have eX:=nB jT
  rw[←hi,oU] at eX
  have BI:val 1000000000 outs=a-b:=by
   rcases Nat.lt_or_ge l 1 with h | h
   ·have:l=0:=by omega
    subst this
    rw[Nat.mul_zero] at hv
    omega
   ·have:l=1:=by omega
    subst this
    rw[Nat.mul_one] at hv
    omega
  simp only[lA,g0,g1,g5,g6,g11,g12,cC,VX,Nat.reduceEqDiff,Nat.reduceAdd]
  refine GJ jT rfl (by omega) BI ?_
  simp only[VX,Nat.reduceEqDiff,Nat.reduceAdd]
  exact PQ _
theorem kD (a b:Nat) (ha:(aC 1000000000 a).length≤17592186044416) (hb:(aC 1000000000 b).length≤17592186044416):TC 162 [bL a,bL b] (bL (a*b)):=by
 refine TC.walk ⟨true,false⟩ Gi rfl (Nat.le_of_ble_eq_true rfl) (by simp[aL,bO]) (lR _) ?_
 have va:=bP (b:=1000000000) (by decide) a
 have vb:=bP (b:=1000000000) (by decide) b
 have la:=eI (b:=1000000000) (by decide) a
 have lb:=eI (b:=1000000000) (by decide) b
 unfold bL
 generalize aC 1000000000 a=xs at *
 generalize aC 1000000000 b=ys at *
 have w0:IntKind.i64.wrap ((xs.length:Int)+(ys.length:Int))=((xs.length+ys.length:Nat):Int):=wrapN _ (by omega) (by omega)
 simp only[B9,Ak,dH,w0,NW (xs.length+ys.length) (by omega),VX,Nat.reduceEqDiff,Nat.reduceAdd]
 generalize hN:xs.length+ys.length=N at *
 refine aN (fun(s:Nat×List Nat) ρ H=>s.1≤xs.length∧H=[.row 0 (s.2.map tV) 1 true]∧s.2.length=N∧(∀d∈s.2,d<1000000000)∧val 1000000000 (s.2.take (s.1+ys.length))=val 1000000000 (xs.take s.1)*b∧(∀j,s.1+ys.length≤j→j<N→s.2[j]? = some 0) ∧
  ρ 0=gA xs∧ρ 1=gA ys∧ρ 5 = .ref 0 0 0 N N∧ρ 17=VI xs.length∧ρ 18=VI s.1) (fun s=>xs.length-s.1) (0,List.replicate N 0) ⟨Nat.zero_le _,rfl,by simp,yR (by decide) _,by simp[val,List.take_replicate,pU],fun j _ h=>by simp[List.getElem?_replicate,h],rfl,rfl,rfl,rfl,rfl⟩ ?_
 rintro⟨i,outs⟩ ρ H ⟨hi,rfl,gZ,jT,hv,hzr,g0,g1,g5,g17,g18⟩
 simp only at hi gZ jT hv hzr g18
 by_cases cC:(i:Int)<(xs.length:Int)
 ·obtain⟨x,hx⟩:∃x,xs[i]? = some x:=⟨_,List.getElem?_eq_getElem (by omega)⟩
  have lx:=la x (List.mem_of_getElem? hx)
  have e1:∀os:List Nat,bC 1 (gA xs) (VI i) [.row 0 (os.map tV) 1 true]=some (.cO (tV x) 0):=fun os=>aF (f:=tV) (t := .op) (size:=1) (k := .i64) hx rfl
  simp only[qZ,g0,g1,g5,g17,g18,cC,dH,VX,Nat.reduceEqDiff,Nat.reduceAdd]
  refine aN (fun(s:Nat×List Nat×Nat) ρ H=>s.1≤ys.length∧H=[.row 0 (s.2.1.map tV) 1 true]∧s.2.1.length=N∧(∀d∈s.2.1,d<1000000000)∧s.2.2<1000000000 ∧
   val 1000000000 (s.2.1.take (i+s.1))+1000000000^(i+s.1)*s.2.2=val 1000000000 (outs.take (i+s.1))+1000000000^i*(x*val 1000000000 (ys.take s.1))∧(∀j,i+s.1≤j→s.2.1[j]? = outs[j]?) ∧
   ρ 0=gA xs∧ρ 1=gA ys∧ρ 5 = .ref 0 0 0 N N∧ρ 6=VI i∧ρ 7=VI s.2.2∧ρ 17=VI xs.length∧ρ 18=VI i∧ρ 22=VI ys.length∧ρ 23=VI s.1) (fun s=>ys.length-s.1) (0,outs,0) ⟨Nat.zero_le _,rfl,gZ,jT,by simp,by simp[val],fun _ _=>rfl,by (repeat' apply And.intro)<;>first | rfl | trivial⟩ ?_
  rintro⟨k,os,c⟩ Mm H ⟨hk,rfl,N2,NH,hc,KW,Ez,k0,k1,k5,k6,k7,Gf,Wu,k22,k23⟩
  simp only at hk N2 NH hc KW Ez k7 k23
  have wi:IntKind.i64.wrap ((i:Int)+1)=((i+1:Nat):Int):=wrapN (i+1) (by omega) (by omega)
  by_cases hkn:(k:Int)<(ys.length:Int)
  ·obtain⟨y,hy⟩:∃y,ys[k]? = some y:=⟨_,List.getElem?_eq_getElem (by omega)⟩
   have ly:=lb y (List.mem_of_getElem? hy)
   obtain⟨o,ho⟩:∃o,os[i+k]? = some o:=⟨_,List.getElem?_eq_getElem (by omega)⟩
   have lo:=NH o (List.mem_of_getElem? ho)
   have Zp:outs[i+k]? = some o:=by rw[←Ez (i+k) (Nat.le_refl _)];exact ho
   have f1:bC 1 (gA ys) (VI k) [.row 0 (os.map tV) 1 true]=some (.cO (tV y) 0):=aF (f:=tV) (t := .op) (size:=1) (k := .i64) hy rfl
   have w1:IntKind.i64.wrap ((i:Int)+(k:Int))=((i+k:Nat):Int):=wrapN _ (by omega) (by omega)
   have f2:bC 1 (.ref 0 0 0 N N) (VI ((i+k:Nat):Int)) [.row 0 (os.map tV) 1 true]=some (.ptr 0 0 (i+k) 0):=adT (by omega)
   have f3:dG false 1 (.ptr 0 0 (i+k) 0) [.row 0 (os.map tV) 1 true]=some (VI (o:Int)):=JN II ho
   have f4:∀s:Nat,cJ 0 1 (.ptr 0 0 (i+k) 0) (VI (s:Int)) [.row 0 (os.map tV) 1 true]=some [.row 0 ((os.set (i+k) s).map tV) 1 true]:=fun s=>N0 (by omega)
   have yT:x*y≤999999999*999999999:=Nat.mul_le_mul (by omega) (by omega)
   have w5:IntKind.i64.wrap ((x:Int)*(y:Int))=((x*y:Nat):Int):=wrapN _ (by simp) (by omega)
   have w6:IntKind.i64.wrap ((o:Int)+((x*y:Nat):Int))=((o+x*y:Nat):Int):=wrapN _ (by omega) (by omega)
   have w7:IntKind.i64.wrap (((o+x*y:Nat):Int)+(c:Int))=((o+x*y+c:Nat):Int):=wrapN _ (by omega) (by omega)
   have wk:IntKind.i64.wrap ((k:Int)+1)=((k+1:Nat):Int):=wrapN (k+1) (by omega) (by omega)
   have r1:=LR (o+x*y+c)
   have q1:=ME (o+x*y+c) (by omega)
   simp only[qS,k0,k1,k5,k6,k7,Gf,Wu,k22,k23,hkn,e1,f1,f2,f3,f4,w1,w5,w6,w7,wk,r1,q1,VX,Nat.reduceEqDiff,Nat.reduceAdd]
   have hq:(o+x*y+c) / 1000000000<1000000000:=Nat.div_lt_of_lt_mul (by omega)
   refine⟨(k+1,os.set (i+k) ((o+x*y+c) % 1000000000),(o+x*y+c) / 1000000000),by simp only;omega,by omega,rfl,by rw[List.length_set];exact N2,kI NH (Nat.mod_lt _ (by decide)),hq,?_,fun j hj => ?_,by (repeat' apply And.intro)<;>first | rfl | trivial⟩
   ·have h1:=Nat.mod_add_div (o+x*y+c) 1000000000
    rw[show o+x*y+c=c+(x*y+o) by omega] at h1 ⊢
    rw[←Nat.add_assoc,dQ (by omega),aS Zp,aS hy,Nat.pow_succ]
    rw[Nat.pow_add] at KW ⊢
    exact QM KW h1
   ·rw[List.getElem?_set_ne (by omega)]
    exact Ez j (by omega)
  ·have hke:k=ys.length:=by omega
   subst hke
   rw[List.take_length,vb,hv] at KW
   have w1:IntKind.i64.wrap ((i:Int)+(ys.length:Int))=((i+ys.length:Nat):Int):=wrapN _ (by omega) (by omega)
   have Dm:os[i+ys.length]? = some 0:=by rw[Ez _ (Nat.le_refl _)];exact hzr _ (Nat.le_refl _) (by omega)
   have f2:bC 1 (.ref 0 0 0 N N) (VI ((i+ys.length:Nat):Int)) [.row 0 (os.map tV) 1 true]=some (.ptr 0 0 (i+ys.length) 0):=adT (by omega)
   have f3:dG false 1 (.ptr 0 0 (i+ys.length) 0) [.row 0 (os.map tV) 1 true]=some (VI ((0:Nat):Int)):=JN II Dm
   have f4:∀s:Nat,cJ 0 1 (.ptr 0 0 (i+ys.length) 0) (VI (s:Int)) [.row 0 (os.map tV) 1 true]=some [.row 0 ((os.set (i+ys.length) s).map tV) 1 true]:=fun s=>N0 (by omega)
   have w2:IntKind.i64.wrap (((0:Nat):Int)+(c:Int))=(c:Int):=wrapN _ (by omega) (by omega)
   simp only[qS,k0,k1,k5,k6,k7,Gf,Wu,k22,k23,hkn,dH,f2,f3,f4,w1,w2,wi,VX,Nat.reduceEqDiff,Nat.reduceAdd]
   refine⟨(i+1,os.set (i+ys.length) c),by simp only;omega,by omega,rfl,by rw[List.length_set];exact N2,kI NH hc,?_,fun j hj WI => ?_,by (repeat' apply And.intro)<;>first | rfl | trivial⟩
   ·rw[show i+1+ys.length=i+ys.length+1 by omega,dQ (by omega),KW,aS hx,Nat.add_mul,Nat.mul_assoc]
   ·rw[List.getElem?_set_ne (by omega),Ez j (by omega)]
    exact hzr j (by omega) WI
 ·have oU:i=xs.length:=by omega
  subst oU
  rw[hN,List.take_length,va,List.take_of_length_le (by omega)] at hv
  simp only[qZ,g0,g1,g5,g17,g18,cC,VX,Nat.reduceEqDiff,Nat.reduceAdd]
  refine GJ (m:=a*b) jT gZ.symm (by omega) hv ?_
  simp only[VX,Nat.reduceEqDiff,Nat.reduceAdd]
  exact PQ _
theorem BC (a:Nat) (ha:(aC 1000000000 a).length≤17592186044416):TC 236 [bL a] (if (aC 1000000000 a).length≤2 then .dY [VI a,VB true] else .dY [VI 0,VB false]):=by
 refine TC.walk ⟨true,false⟩ Ip rfl (Nat.le_of_ble_eq_true rfl) (by simp[aL,bO]) (by split<;>rfl) ?_
 by_cases h2:(aC 1000000000 a).length≤2
 ·rw[if_pos h2]
  have h3:¬(2:Int)<((aC 1000000000 a).length:Int):=by omega
  have c0:TC 225 [bL a,VI 0] (VI ((a % 1000000000:Nat):Int)):=by have:=BZ a 0;rwa [Nat.pow_zero,Nat.div_one] at this
  have c1:TC 225 [bL a,VI 1] (VI ((a / 1000000000 % 1000000000:Nat):Int)):=by have:=BZ a 1;rwa [Nat.pow_one] at this
  have aV:=fL (b:=1000000000) (by decide) a
  have hp:1000000000^(aC 1000000000 a).length≤1000000000^2:=Nat.pow_le_pow_right (by decide) h2
  have hm:a / 1000000000<1000000000:=Nat.div_lt_of_lt_mul (by omega)
  rw[Nat.mod_eq_of_lt hm] at c1
  have hmd:=Nat.mod_add_div a 1000000000
  have w1:IntKind.i64.wrap (1000000000*((a / 1000000000:Nat):Int))=((1000000000*(a / 1000000000):Nat):Int):=wrapN _ (by omega) (by omega)
  have w2:IntKind.i64.wrap (((a % 1000000000:Nat):Int)+((1000000000*(a / 1000000000):Nat):Int))=(a:Int):=wrapN _ (by omega) (by omega)
  simp only[yY,tX,cH,h3,c0,c1,w1,w2,VX,Nat.reduceEqDiff,Nat.reduceAdd]
  exact aI rfl
 ·rw[if_neg h2]
  have h3:(2:Int)<((aC 1000000000 a).length:Int):=by omega
  simp only[yY,tX,cH,h3,VX,Nat.reduceEqDiff,Nat.reduceAdd]
  exact aI rfl
theorem Yy {outs:List Nat} {n cap x:Nat} (hn:n=outs.length) (hc:n<cap):eJ 0 1 8 (.ref 0 0 0 n cap) [VI (x:Int)] [.row 0 ((outs++List.replicate (cap-n) 0).map tV) 1 true]=some (.ref 0 0 0 (n+1) cap,[.row 0 (((outs++[x])++List.replicate (cap-(n+1)) 0).map tV) 1 true]):=by
 subst hn
 simp only[eJ,bG,List.length_map,List.length_append,List.length_replicate,List.length_cons,List.length_nil,Nat.zero_add]
 rw[if_pos ⟨by decide,by decide⟩,if_pos ⟨trivial,Nat.le_refl _,by omega⟩,if_pos (by omega),if_neg (by omega),if_pos (by omega)]
 congr 3
 have e:List.replicate (cap-outs.length) 0=(0:Nat)::List.replicate (cap-(outs.length+1)) 0:=by
  rw[show cap-outs.length=(cap-(outs.length+1))+1 by omega,List.replicate_succ]
 simp only[cK,List.set_cons_zero,e,List.map_append,List.map_cons,List.length_cons,List.length_nil,List.map_nil]
 congr 1
 rw[List.take_left' (by simp),←List.drop_drop,List.drop_left' (by simp)]
 simp
theorem wY (a d:Nat) (Cv:0<d) (hd:d<1000000000) (ha:(aC 1000000000 a).length<17592186044416):TC 238 [bL a,VI (d:Int)] (bL (a*d)):=by
 refine TC.walk ⟨true,false⟩ Ey rfl (Nat.le_of_ble_eq_true rfl) (by simp[aL,bO];rfl) (lR _) ?_
 have w0:IntKind.i64.wrap (((aC 1000000000 a).length:Int)+1)=(((aC 1000000000 a).length+1:Nat):Int):=wrapN _ (by omega) (by omega)
 have mk:AA [.int .i64 0] 8 (VI 0) (VI (((aC 1000000000 a).length+1:Nat):Int)) []=some (.ref 0 0 0 0 ((aC 1000000000 a).length+1),[.row 0 ((([]:List Nat)++List.replicate ((aC 1000000000 a).length+1-0) 0).map tV) 1 true]):=by
  simp only[AA]
  rw[if_pos ⟨by omega,by omega,by omega,by omega⟩]
  simp
  rfl
 simp only[zO,wW,cH,w0,mk,VX,Nat.reduceEqDiff,Nat.reduceAdd]
 refine aN (fun(s:Nat×List Nat×Nat) ρ H=>s.1=s.2.1.length∧s.1≤(aC 1000000000 a).length∧H=[.row 0 ((s.2.1++List.replicate ((aC 1000000000 a).length+1-s.1) 0).map tV) 1 true]∧s.2.2<d∧aC 1000000000 (a*d)=s.2.1++aC 1000000000 (a / 1000000000^s.1*d+s.2.2) ∧
  ρ 1=VI d∧ρ 5 = .ref 0 0 0 s.1 ((aC 1000000000 a).length+1)∧ρ 6=VI s.2.2∧ρ 14=bL a∧ρ 15=VI (aC 1000000000 a).length∧ρ 16=VI s.1) (fun s=>(aC 1000000000 a).length-s.1) (0,[],0) ⟨rfl,Nat.zero_le _,rfl,Cv,by simp,rfl,rfl,rfl,rfl,rfl,rfl⟩ ?_
 rintro⟨i,outs,c⟩ ρ H ⟨hi,IM,rfl,hc,hv,g1,g5,g6,g14,g15,g16⟩
 simp only at hi IM hc hv g5 g6 g16
 by_cases cC:(i:Int)<((aC 1000000000 a).length:Int)
 ·have hx:=Je (b:=1000000000) (by decide) (n:=a) (i:=i) (by omega)
  have hA:=(Dd (b:=1000000000) (by decide) (n:=a) (i:=i)).1 (by omega)
  have e1:∀H,bC 1 (bL a) (VI i) H=some (.cO (tV (a / 1000000000^i % 1000000000)) 0):=fun H=>aF (f:=tV) (t := .op) (size:=1) (k := .i64) hx rfl
  have lx:=Nat.mod_lt (a / 1000000000^i) (show 0<1000000000 by decide)
  have eW:a / 1000000000^i*d+c≠0:=by
   have:=Nat.mul_ne_zero hA (show d≠0 by omega)
   omega
  rw[UR (by decide) eW,←rG] at hv
  generalize a / 1000000000^i % 1000000000=x at *
  have hxd:x*d≤999999999*999999999:=Nat.mul_le_mul (by omega) (by omega)
  have w1:IntKind.i64.wrap ((x:Int)*(d:Int))=((x*d:Nat):Int):=wrapN _ (by simp) (by omega)
  have w2:IntKind.i64.wrap (((x*d:Nat):Int)+(c:Int))=((x*d+c:Nat):Int):=wrapN _ (by omega) (by omega)
  have wi:IntKind.i64.wrap ((i:Int)+1)=((i+1:Nat):Int):=wrapN (i+1) (by omega) (by omega)
  have r1:=LR (x*d+c)
  have q1:=ME (x*d+c) (by omega)
  have a1:=Yy (outs:=outs) (n:=i) (cap:=(aC 1000000000 a).length+1) (x:=(x*d+c) % 1000000000) hi (by omega)
  have hq:(x*d+c) / 1000000000<d:=by
   rw[Nat.div_lt_iff_lt_mul (by decide)]
   have h1:x*d≤999999999*d:=Nat.mul_le_mul_right _ (by omega)
   omega
  simp only[jU,g1,g5,g6,g14,g15,g16,cC,e1,w1,w2,wi,r1,q1,rJ,tS,a1,VX,Nat.reduceEqDiff,Nat.reduceAdd]
  refine⟨(i+1,outs++[(x*d+c) % 1000000000],(x*d+c) / 1000000000),by simp only;omega,by simp;omega,by simp only;omega,rfl,hq,by rw[hv,List.append_assoc];rfl,?_⟩
  try (repeat' apply And.intro)<;>first | rfl | trivial
 ·have oU:i=(aC 1000000000 a).length:=by omega
  have hz:a / 1000000000^i=0:=by
   have:=mt (Dd (b:=1000000000) (by decide) (n:=a) (i:=i)).2
   omega
  rw[hz,Nat.zero_mul,Nat.zero_add] at hv
  by_cases hcp:(0:Int)<(c:Int)
  ·rw[Ct (b:=1000000000) (by decide) (show c≠0 by omega) (show c<1000000000 by omega)] at hv
   have a1:=Yy (outs:=outs) (n:=i) (cap:=(aC 1000000000 a).length+1) (x:=c) hi (by omega)
   simp only[jU,g1,g5,g6,g14,g15,g16,cC,hcp,rJ,tS,a1,VX,Nat.reduceEqDiff,Nat.reduceAdd]
   rw[bL,hv]
   rw[Nr bG (by simp;omega) (by omega) (cZ fun _=>rfl)]
   rw[List.map_append,List.take_left' (by simp;omega)]
  ·have hc0:c=0:=by omega
   rw[hc0,bN,List.append_nil] at hv
   simp only[jU,g1,g5,g6,g14,g15,g16,cC,hcp,VX,Nat.reduceEqDiff,Nat.reduceAdd]
   rw[bL,hv]
   rw[Nr bG (by simp;omega) (by omega) (cZ fun _=>rfl)]
   rw[List.map_append,List.take_left' (by simp;omega)]
theorem IU (a b:Nat) (ha:a≤9223372036854775807) (hb:0<b):cU .quo (.int .i64 (a:Int)) (.int .i64 (b:Int))=some (.int .i64 ((a / b:Nat):Int)):=by
 have h1:¬((b:Int)=0):=by omega
 have h2:(a:Int).tdiv (b:Int)=((a / b:Nat):Int):=by rw[Int.tdiv_eq_ediv_of_nonneg (by omega)];simp
 have h3:a / b≤a:=Nat.div_le_self _ _
 simp only[cU,if_true,h1,if_false,h2]
 generalize a / b=q at *
 rw[wrap64 (by omega) (by omega)]
theorem I7 (a b:Nat) (hb:0<b):cU .rem (.int .i64 (a:Int)) (.int .i64 (b:Int))=some (.int .i64 ((a % b:Nat):Int)):=by
 have h1:¬((b:Int)=0):=by omega
 have h2:(a:Int).tmod (b:Int)=((a % b:Nat):Int):=by rw[Int.tmod_eq_emod_of_nonneg (by omega)];simp
 simp only[cU,if_true,h1,if_false,h2]
theorem YQ {r d x:Nat} (hr:r<d) (hd:d<1000000000) (hx:x<1000000000):r*1000000000+x≤9223372036854775807:=by omega
theorem ahN {r d x:Nat} (Cv:0<d) (hr:r<d) (hx:x<1000000000):(r*1000000000+x) / d<1000000000:=by
 rw[Nat.div_lt_iff_lt_mul Cv]
 omega
theorem wQ (a d:Nat) (Cv:0<d) (hdT:d<1000000000) (ha:(aC 1000000000 a).length≤17592186044416):TC 237 [bL a,VI (d:Int)] (.dY [bL (a / d),VI ((a % d:Nat):Int)]):=by
 refine TC.walk ⟨true,false⟩ D5 rfl (Nat.le_of_ble_eq_true rfl) (by simp[aL,bO];rfl) (by simp[gH,qI,lR,jS]) ?_
 have va:=bP (b:=1000000000) (by decide) a
 have la:=eI (b:=1000000000) (by decide) a
 unfold bL
 generalize aC 1000000000 a=xs at *
 have w0:IntKind.i64.wrap ((xs.length:Int)-1)=(xs.length:Int)-1:=wrap64 (by omega) (by omega)
 simp only[Al,wL,dH,w0,NW xs.length (by omega),VX,Nat.reduceEqDiff,Nat.reduceAdd]
 refine aN (fun(s:Nat×List Nat×Nat) ρ H=>s.1≤xs.length∧H=[.row 0 (s.2.1.map tV) 1 true]∧s.2.1.length=xs.length∧(∀d∈s.2.1,d<1000000000)∧s.2.2<d∧val 1000000000 (s.2.1.drop s.1)*d+s.2.2=val 1000000000 (xs.drop s.1) ∧
  ρ 0=gA xs∧ρ 1=VI d∧ρ 6 = .ref 0 0 0 xs.length xs.length∧ρ 7=VI s.2.2∧ρ 8=VI ((s.1:Int)-1)) (fun s=>s.1) (xs.length,List.replicate xs.length 0,0) ⟨Nat.le_refl _,rfl,by simp,yR (by decide) _,Cv,by simp[val,List.drop_replicate],rfl,rfl,rfl,rfl,rfl⟩ ?_
 rintro⟨j,outs,r⟩ ρ H ⟨hj,rfl,gZ,jT,hr,hv,g0,g1,g6,g7,g8⟩
 simp only at hj gZ jT hr hv g7 g8
 by_cases hz:(0:Int)≤(j:Int)-1
 ·obtain⟨i,rfl⟩:∃i,j=i+1:=⟨j-1,by omega⟩
  obtain⟨x,hx⟩:∃x,xs[i]? = some x:=⟨_,List.getElem?_eq_getElem (by omega)⟩
  have lx:=la x (List.mem_of_getElem? hx)
  have KY:((i+1:Nat):Int)-1=(i:Int):=by omega
  rw[KY] at g8 hz
  have e1:=aF (f:=tV) (t := .op) (H:=[.row 0 (outs.map tV) 1 true]) (size:=1) (k := .i64) hx rfl
  have e3:bC 1 (.ref 0 0 0 xs.length xs.length) (VI i) [.row 0 (outs.map tV) 1 true]=some (.ptr 0 0 i 0):=adT (by omega)
  have e4:∀s:Nat,cJ 0 1 (.ptr 0 0 i 0) (VI (s:Int)) [.row 0 (outs.map tV) 1 true]=some [.row 0 ((outs.set i s).map tV) 1 true]:=fun s=>N0 (by omega)
  have w2:IntKind.i64.wrap ((i:Int)-1)=(i:Int)-1:=wrap64 (by omega) (by omega)
  have w4:IntKind.i64.wrap ((r:Int)*1000000000)=((r*1000000000:Nat):Int):=wrapN _ (by omega) (by omega)
  have w5:IntKind.i64.wrap (((r*1000000000:Nat):Int)+(x:Int))=((r*1000000000+x:Nat):Int):=wrapN _ (by omega) (by omega)
  have Di:r*1000000000+x≤9223372036854775807:=YQ hr hdT lx
  have q1:=IU (r*1000000000+x) d Di Cv
  have q2:=I7 (r*1000000000+x) d Cv
  have hq:(r*1000000000+x) / d<1000000000:=ahN Cv hr lx
  simp only[oR,g0,g1,g6,g7,g8,hz,e1,e3,e4,w2,w4,w5,q1,q2,VX,Nat.reduceEqDiff,Nat.reduceAdd]
  refine⟨(i,outs.set i ((r*1000000000+x) / d),(r*1000000000+x) % d),by simp only;omega,by omega,rfl,by rw[List.length_set];exact gZ,kI jT hq,Nat.mod_lt _ Cv,?_,by (repeat' apply And.intro)<;>first | rfl | trivial⟩
  have h1:=Nat.mod_add_div (r*1000000000+x) d
  rw[set_drop (by omega),rR,qY hx,←hv]
  exact PW h1
 ·have RA:j=0:=by omega
  subst RA
  rw[List.drop_zero,List.drop_zero,va] at hv
  have h1:a / d=val 1000000000 outs:=by
   rw[←hv,Nat.mul_comm,Nat.mul_add_div Cv,Nat.div_eq_of_lt hr,Nat.add_zero]
  have h2:a % d=r:=by
   rw[←hv,Nat.mul_comm,Nat.mul_add_mod,Nat.mod_eq_of_lt hr]
  simp only[oR,g0,g1,g6,g7,g8,hz,VX,Nat.reduceEqDiff,Nat.reduceAdd]
  refine GJ (m:=a / d) jT gZ.symm (by omega) h1.symm ?_
  simp only[g7,VX,Nat.reduceEqDiff,Nat.reduceAdd]
  rw[h2]
  exact aI (by simp[aO,aL,vP,bL,jS])
end Go.PM
namespace Go.PM
theorem M7 {H:aA} {b b' g:Nat} {x:cI} (h:b≠b'):aK (H.set b x) b' g=aK H b' g:=by
 unfold aK
 rw[List.getElem?_set_ne h]
theorem lW {H:aA} {b g e:Nat} {es lL:List VV} {w w':Bool} (h:aK H b g=some (es,e,w)):aK (H.set b (.row g lL e w')) b g=some (lL,e,w'):=by
 have aV:b<H.length:=by
  unfold aK at h
  split at h
  ·rename_i hb
   exact(List.getElem?_eq_some_iff.1 hb).1
  ·cases h
 unfold aK
 rw[List.getElem?_set_self aV]
 simp
theorem kW {H:aA} {b:Nat} {x y:cI}:(H.set b x).set b y=H.set b y:=by rw[List.set_set]
theorem vB {H:aA} {b g e:Nat} {es:List VV} {w:Bool} (h:aK H b g=some (es,e,w)):H.set b (.row g es e w)=H:=by
 apply List.ext_getElem?
 intro i
 by_cases hi:b=i
 ·subst hi
  unfold aK at h
  split at h
  ·rename_i hb
   split at h
   ·rename_i hg
    cases h
    rw[List.getElem?_set_self (List.getElem?_eq_some_iff.1 hb).1,hb,hg]
   ·cases h
  ·cases h
 ·rw[List.getElem?_set_ne hi]
theorem Xi {H:aA} {b g o i lo d:Nat} {pre gD post:List Nat} (hr:aK H b g=some ((pre++gD++post).map uV,1,true)) (ho:pre.length=o) (hi:i<gD.length) (eX:lo≤b) :
  cJ lo 1 (.ptr b g (o+i) 0) (uV d) H=some (H.set b (.row g ((pre++gD.set i d++post).map uV) 1 true)):=by
 rw[cR (f:=uV) (e:=1) hr (by simp only[List.length_append];omega) eX rfl rfl,Tk ho hi]
theorem Ss {H:aA} {lo b g o L c b2 g2 n2 c2 t:Nat} {pre gD post vs Ly:List Nat} {w2:Bool} (hr:aK H b g=some ((pre++gD++post).map uV,1,true)) (ZN:aK H b2 g2=some (Ly.map uV,1,w2)) (hb:b≠b2) (eX:lo≤b)
  (ho:pre.length=o) (hL:gD.length=L) (auJ:L≤70368744177664) (Oq:Ly.take n2=vs) (hn2:n2≤Ly.length) (hle:n2≤L) (Va:∀d∈gD,d<4294967296) (EA:∀d∈vs,d<4294967296) (ht:t<4294967296) (nC:t*val 4294967296 vs≤val 4294967296 gD+val 4294967296 vs) :
  kG 221 [.ref b g o L c,.ref b2 g2 0 n2 c2,VK .u64 t] lo H fun r H'=>∃pZ:List Nat,H'=H.set b (.row g ((pre++pZ++post).map uV) 1 true)∧pZ.length=L∧(∀d∈pZ,d<4294967296) ∧
   ((r=VB false∧val 4294967296 pZ+t*val 4294967296 vs=val 4294967296 gD)∨(r=VB true∧val 4294967296 gD<t*val 4294967296 vs∧val 4294967296 pZ+t*val 4294967296 vs=val 4294967296 gD+val 4294967296 vs)):=by
 refine kG.walk ⟨true,false⟩ IA (Nat.le_of_ble_eq_true rfl) ?_
 have DS:vs.length=n2:=by rw[←Oq,List.length_take];omega
 have uS:∀i,i<n2→Ly[i]? = vs[i]? := fun i hi=>by rw[←Oq,List.getElem?_take_of_lt hi]
 have N2:=nB Va
 have KW:=nB EA
 rw[hL] at N2
 rw[DS] at KW
 have hVL:val 4294967296 vs≤4294967296^L:=Nat.le_trans (Nat.le_of_lt KW) (Nat.pow_le_pow_right (by decide) hle)
 have e0:∀ {K:aA} {es:List VV},aK K b g=some (es,1,true)→nS (.ref b g o L c) K=some (VI L):=fun h=>cT h
 have e00:∀ {K:aA},aK K b2 g2=some (Ly.map uV,1,w2)→nS (.ref b2 g2 0 n2 c2) K=some (VI n2):=fun h=>cT h
 have rd:∀(s:List Nat),s.length=L→aK (H.set b (.row g ((pre++s++post).map uV) 1 true)) b g=some ((pre++s++post).map uV,1,true):=fun s _=>lW hr
 have rd2:∀(s:List Nat),aK (H.set b (.row g ((pre++s++post).map uV) 1 true)) b2 g2=some (Ly.map uV,1,w2):=fun s=>by rw[M7 hb];exact ZN
 have wi:∀i:Nat,i<L→IntKind.i64.wrap ((i:Int)+1)=((i+1:Nat):Int):=fun i hi=>wrapN (i+1) (by omega) (by omega)
 have back:∀(ρ:cM) (s:List Nat),s.length=L→(∀d∈s,d<4294967296)→(∀s2:List Nat,s2.length=L→(∀d∈s2,d<4294967296)→∀c,val 4294967296 s+val 4294967296 vs=val 4294967296 s2+4294967296^L*c→val 4294967296 s2+t*val 4294967296 vs=val 4294967296 gD+val 4294967296 vs)→val 4294967296 gD<t*val 4294967296 vs→ρ 0 = .ref b g o L c→ρ 1 = .ref b2 g2 0 n2 c2→ρ 7=VK .u64 0→ρ 58=VI L→ρ 59=VI 0 →
   VW ⟨true,false⟩ lo (.loop kJ) (yV 2 (lO (VW ⟨true,false⟩ lo (.seq (.cX [⟨(some 6),(.mv (.const (.bool true))),none,false,[]⟩]) .ret) (zJ [.tmp 6] fun r H'=>∃pZ:List Nat,H'=H.set b (.row g ((pre++pZ++post).map uV) 1 true)∧pZ.length=L∧(∀d∈pZ,d<4294967296)∧((r=VB false∧val 4294967296 pZ+t*val 4294967296 vs=val 4294967296 gD)∨(r=VB true∧val 4294967296 gD<t*val 4294967296 vs∧val 4294967296 pZ+t*val 4294967296 vs=val 4294967296 gD+val 4294967296 vs)))) (zJ [.tmp 6] fun r H'=>∃pZ:List Nat,H'=H.set b (.row g ((pre++pZ++post).map uV) 1 true)∧pZ.length=L∧(∀d∈pZ,d<4294967296)∧((r=VB false∧val 4294967296 pZ+t*val 4294967296 vs=val 4294967296 gD)∨(r=VB true∧val 4294967296 gD<t*val 4294967296 vs∧val 4294967296 pZ+t*val 4294967296 vs=val 4294967296 gD+val 4294967296 vs))))) ρ (H.set b (.row g ((pre++s++post).map uV) 1 true)):=by
  intro ρ s hs NH JQ aaD g0 g1 g7 g58 g59
  refine aN (fun(u:Nat×List Nat×Nat) ρ K=>u.1≤L∧K=H.set b (.row g ((pre++u.2.1++post).map uV) 1 true)∧u.2.1.length=L∧(∀d∈u.2.1,d<4294967296)∧u.2.2≤1∧val 4294967296 (s.take u.1)+val 4294967296 (vs.take u.1)=val 4294967296 (u.2.1.take u.1)+4294967296^u.1*u.2.2∧(∀j,u.1≤j→u.2.1[j]? = s[j]?) ∧
   ρ 0 = .ref b g o L c∧ρ 1 = .ref b2 g2 0 n2 c2∧ρ 7=VK .u64 u.2.2∧ρ 58=VI L∧ρ 59=VI u.1) (fun u=>L-u.1) (0,s,0) ⟨Nat.zero_le _,rfl,hs,NH,by simp,by simp[val],fun _ _=>rfl,g0,g1,g7,g58,g59⟩ ?_
  rintro⟨i,outs,cy⟩ Mm K ⟨hi,rfl,gZ,jT,hc,hv,Ez,k0,k1,k7,k58,k59⟩
  simp only at hi gZ jT hc hv Ez k7 k59
  by_cases cC:(i:Int)<(L:Int)
  ·obtain⟨x,hx⟩:∃x,outs[i]? = some x:=⟨_,List.getElem?_eq_getElem (by omega)⟩
   have lx:=jT x (List.mem_of_getElem? hx)
   have Vp:s[i]? = some x:=by rw[←Ez i (Nat.le_refl _)];exact hx
   have e1:bC 1 (.ref b g o L c) (VI i) (H.set b (.row g ((pre++outs++post).map uV) 1 true))=some (.ptr b g (o+i) 0):=aQ (rd outs gZ) (by omega)
   have e2:dG false 1 (.ptr b g (o+i) 0) (H.set b (.row g ((pre++outs++post).map uV) 1 true))=some (uV x):=gL (rd outs gZ) (by rw[N3 ho (by omega)];exact hx)
   have e3:∀d:Nat,cJ lo 1 (.ptr b g (o+i) 0) (uV d) (H.set b (.row g ((pre++outs++post).map uV) 1 true))=some (H.set b (.row g ((pre++outs.set i d++post).map uV) 1 true)):=fun d=>by
    rw[Xi (rd outs gZ) ho (by omega) eX,kW]
   have e4:=e00 (rd2 outs)
   have w1:IntKind.u64.wrap (x:Int)=(x:Int):=eO _ (by omega)
   have w2:IntKind.u64.wrap ((cy:Int)+(x:Int))=((cy+x:Nat):Int):=by rw[←Int.natCast_add];exact eO _ (by omega)
   have wii:=wi i (by omega)
   have step:∀y,y<4294967296→(∀d,vs[i]? = some d→d=y)→(vs.length≤i→y=0) →
     (i+1≤L∧(outs.set i ((cy+x+y) % 4294967296)).length=L∧(∀d∈outs.set i ((cy+x+y) % 4294967296),d<4294967296)∧(cy+x+y) / 4294967296≤1∧val 4294967296 (s.take (i+1))+val 4294967296 (vs.take (i+1))=val 4294967296 ((outs.set i ((cy+x+y) % 4294967296)).take (i+1))+4294967296^(i+1)*((cy+x+y) / 4294967296))∧∀j,i+1≤j→(outs.set i ((cy+x+y) % 4294967296))[j]? = s[j]? := by
    intro y hy h1 h2
    refine⟨⟨by omega,by rw[List.length_set];exact gZ,kI jT (Nat.mod_lt _ (by decide)),by omega,?_⟩,fun j hj=>by rw[List.getElem?_set_ne (by omega)];exact Ez j (by omega)⟩
    have hy':val 4294967296 (vs.take (i+1))=val 4294967296 (vs.take i)+4294967296^i*y:=by
     cases RJ:vs[i]? with
     | some d=>rw[aS RJ,h1 d RJ]
     |
      none =>
      have hle:=List.getElem?_eq_none_iff.1 RJ
      rw[h2 hle,iB hle,iB (by omega),Nat.mul_zero,Nat.add_zero]
    rw[aS Vp,hy',dQ (by omega),Nat.pow_succ]
    exact Ek hv rfl (Nat.mod_add_div _ _)
   by_cases aV:(i:Int)<(n2:Int)
   ·obtain⟨y,hy⟩:∃y,vs[i]? = some y:=⟨_,List.getElem?_eq_getElem (by omega)⟩
    have ly:=EA y (List.mem_of_getElem? hy)
    have f1:bC 1 (.ref b2 g2 0 n2 c2) (VI i) (H.set b (.row g ((pre++outs++post).map uV) 1 true))=some (.ptr b2 g2 i 0):=by rw[aQ (rd2 outs) (by omega),Nat.zero_add]
    have f2:dG false 1 (.ptr b2 g2 i 0) (H.set b (.row g ((pre++outs++post).map uV) 1 true))=some (uV y):=gL (rd2 outs) (by rw[uS i (by omega)];exact hy)
    have w3:IntKind.u64.wrap (y:Int)=(y:Int):=eO _ (by omega)
    have w4:IntKind.u64.wrap (((cy+x:Nat):Int)+(y:Int))=((cy+x+y:Nat):Int):=by rw[←Int.natCast_add];exact eO _ (by omega)
    obtain⟨⟨s1,s2,s3,s4,s5⟩,s6⟩:=step y ly (fun d hd=>by rw[hy] at hd;injection hd with hd;exact hd.symm) (fun h=>by omega)
    simp only[kJ,k0,k1,k7,k58,k59,cC,aV,e1,e2,e3,e4,f1,f2,w1,w2,w3,w4,wii,wrap32,qV,VX,Nat.reduceEqDiff,Nat.reduceAdd]
    exact⟨(i+1,outs.set i ((cy+x+y) % 4294967296),(cy+x+y) / 4294967296),by simp only;omega,s1,rfl,s2,s3,s4,s5,s6,by (repeat' apply And.intro)<;>first | rfl | trivial⟩
   ·obtain⟨⟨s1,s2,s3,s4,s5⟩,s6⟩:=step 0 (by decide) (fun d hd=>by have:=(List.getElem?_eq_some_iff.1 hd).1;omega) (fun _=>rfl)
    simp only[Nat.add_zero] at s2 s3 s4 s5 s6
    simp only[kJ,k0,k1,k7,k58,k59,cC,aV,e1,e2,e3,e4,w1,w2,wii,wrap32,qV,VX,Nat.reduceEqDiff,Nat.reduceAdd]
    exact⟨(i+1,outs.set i ((cy+x) % 4294967296),(cy+x) / 4294967296),by simp only;omega,s1,rfl,s2,s3,s4,s5,s6,by (repeat' apply And.intro)<;>first | rfl | trivial⟩
  ·have oU:i=L:=by omega
   subst oU
   rw[List.take_of_length_le (by omega),List.take_of_length_le (by omega),List.take_of_length_le (by omega)] at hv
   simp only[kJ,k0,k1,k7,k58,k59,cC,VX,Nat.reduceEqDiff,Nat.reduceAdd]
   exact⟨outs,rfl,gZ,jT,.inr ⟨aaD,JQ outs gZ jT cy hv⟩⟩
 simp only[DP,Br,e0 hr,VX,Nat.reduceEqDiff,Nat.reduceAdd]
 refine aN (fun(u:Nat×List Nat×Nat×Nat) ρ K=>u.1≤L∧K=H.set b (.row g ((pre++u.2.1++post).map uV) 1 true)∧u.2.1.length=L∧(∀d∈u.2.1,d<4294967296)∧u.2.2.1<4294967296∧u.2.2.2≤1∧val 4294967296 (gD.take u.1)+4294967296^u.1*(u.2.2.1+u.2.2.2)=val 4294967296 (u.2.1.take u.1)+t*val 4294967296 (vs.take u.1)∧(∀j,u.1≤j→u.2.1[j]? = gD[j]?) ∧
  ρ 0 = .ref b g o L c∧ρ 1 = .ref b2 g2 0 n2 c2∧ρ 2=VK .u64 t∧ρ 7=VK .u64 u.2.2.1∧ρ 8=VI u.2.2.2∧ρ 13=VI L∧ρ 14=VI u.1) (fun u=>L-u.1) (0,gD,0,0) ⟨Nat.zero_le _,(vB hr).symm,hL,Va,by simp,by simp,by simp[val],fun _ _=>rfl,by (repeat' apply And.intro)<;>first | rfl | trivial⟩ ?_
 rintro⟨i,outs,cy,l⟩ ρ K ⟨hi,rfl,gZ,jT,hc,DX,hv,Ez,k0,k1,k2,k7,k8,AD,BH⟩
 simp only at hi gZ jT hc DX hv Ez k7 k8 BH
 by_cases cC:(i:Int)<(L:Int)
 ·obtain⟨x,hx⟩:∃x,outs[i]? = some x:=⟨_,List.getElem?_eq_getElem (by omega)⟩
  have lx:=jT x (List.mem_of_getElem? hx)
  have Vp:gD[i]? = some x:=by rw[←Ez i (Nat.le_refl _)];exact hx
  have e1:bC 1 (.ref b g o L c) (VI i) (H.set b (.row g ((pre++outs++post).map uV) 1 true))=some (.ptr b g (o+i) 0):=aQ (rd outs gZ) (by omega)
  have e2:dG false 1 (.ptr b g (o+i) 0) (H.set b (.row g ((pre++outs++post).map uV) 1 true))=some (uV x):=gL (rd outs gZ) (by rw[N3 ho (by omega)];exact hx)
  have e3:∀d:Nat,cJ lo 1 (.ptr b g (o+i) 0) (uV d) (H.set b (.row g ((pre++outs++post).map uV) 1 true))=some (H.set b (.row g ((pre++outs.set i d++post).map uV) 1 true)):=fun d=>by
   rw[Xi (rd outs gZ) ho (by omega) eX,kW]
  have e4:=e00 (rd2 outs)
  have wii:=wi i (by omega)
  have w1:IntKind.i64.wrap (x:Int)=(x:Int):=wrapN x rfl (by omega)
  have step:∀y c1,y<4294967296→c1=cy+t*y→(∀d,vs[i]? = some d→d=y)→(vs.length≤i→y=0) →
    c1 / 4294967296<4294967296∧IntKind.i64.wrap ((x:Int)-((c1 % 4294967296:Nat):Int)-(l:Int))=(x:Int)-((c1 % 4294967296:Nat):Int)-(l:Int)∧IntKind.i64.wrap ((x:Int)-((c1 % 4294967296:Nat):Int))=(x:Int)-((c1 % 4294967296:Nat):Int) ∧
    ∃r l',l'≤1∧((x:Int)-((c1 % 4294967296:Nat):Int)-(l:Int)<0↔l'=1)∧IntKind.u32.wrap ((x:Int)-((c1 % 4294967296:Nat):Int)-(l:Int))=((r:Nat):Int) ∧
    (i+1≤L∧(outs.set i r).length=L∧(∀d∈outs.set i r,d<4294967296)∧c1 / 4294967296<4294967296∧l'≤1∧val 4294967296 (gD.take (i+1))+4294967296^(i+1)*(c1 / 4294967296+l')=val 4294967296 ((outs.set i r).take (i+1))+t*val 4294967296 (vs.take (i+1))∧∀j,i+1≤j→(outs.set i r)[j]? = gD[j]?):=by
   intro y c1 hy hc1 h1 h2
   have hty:t*y≤4294967295*4294967295:=Nat.mul_le_mul (by omega) (by omega)
   have hm:=Nat.mod_lt c1 (show 0<4294967296 by decide)
   have hdv:=Nat.mod_add_div c1 4294967296
   have hq:c1 / 4294967296<4294967296:=Nat.div_lt_of_lt_mul (by omega)
   refine⟨hq,wrap64 (by omega) (by omega),wrap64 (by omega) (by omega),?_⟩
   obtain⟨r,l',BO,FT,hd,hlw,mD⟩:∃r l':Nat,l'≤1∧r<4294967296∧r+c1 % 4294967296+l=x+4294967296*l'∧IntKind.u32.wrap ((x:Int)-((c1 % 4294967296:Nat):Int)-(l:Int))=((r:Nat):Int)∧((x:Int)-((c1 % 4294967296:Nat):Int)-(l:Int)<0↔l'=1):=by
    by_cases hn:(x:Int)-((c1 % 4294967296:Nat):Int)-(l:Int)<0
    ·exact⟨x+4294967296-c1 % 4294967296-l,1,by omega,by omega,by omega,Kn (by omega) hn (by omega),fun _=>rfl,fun _=>hn⟩
    ·exact⟨x-c1 % 4294967296-l,0,by omega,by omega,by omega,by rw[IntKind.wrap_u32];omega,fun h=>absurd h hn,fun h=>by omega⟩
   refine⟨r,l',BO,mD,hlw,by omega,by rw[List.length_set];exact gZ,kI jT FT,hq,BO,?_,fun j hj=>by rw[List.getElem?_set_ne (by omega)];exact Ez j (by omega)⟩
   have hy':val 4294967296 (vs.take (i+1))=val 4294967296 (vs.take i)+4294967296^i*y:=by
    cases RJ:vs[i]? with
    | some d=>rw[aS RJ,h1 d RJ]
    |
     none =>
     have hle:=List.getElem?_eq_none_iff.1 RJ
     rw[h2 hle,iB hle,iB (by omega),Nat.mul_zero,Nat.add_zero]
   rw[aS Vp,hy',dQ (by omega),Nat.pow_succ]
   have:=U9 hv hc1 hdv.symm hd
   rw[this,Nat.mul_add,Nat.mul_left_comm t]
  by_cases aV:(i:Int)<(n2:Int)
  ·obtain⟨y,hy⟩:∃y,vs[i]? = some y:=⟨_,List.getElem?_eq_getElem (by omega)⟩
   have ly:=EA y (List.mem_of_getElem? hy)
   have f1:bC 1 (.ref b2 g2 0 n2 c2) (VI i) (H.set b (.row g ((pre++outs++post).map uV) 1 true))=some (.ptr b2 g2 i 0):=by rw[aQ (rd2 outs) (by omega),Nat.zero_add]
   have f2:dG false 1 (.ptr b2 g2 i 0) (H.set b (.row g ((pre++outs++post).map uV) 1 true))=some (uV y):=gL (rd2 outs) (by rw[uS i (by omega)];exact hy)
   have w3:IntKind.u64.wrap (y:Int)=(y:Int):=eO _ (by omega)
   have hty:t*y≤4294967295*4294967295:=Nat.mul_le_mul (by omega) (by omega)
   have w4:IntKind.u64.wrap ((t:Int)*(y:Int))=((t*y:Nat):Int):=by rw[←Int.natCast_mul];exact eO _ (by omega)
   have w5:IntKind.u64.wrap ((cy:Int)+((t*y:Nat):Int))=((cy+t*y:Nat):Int):=by rw[←Int.natCast_add];exact eO _ (by omega)
   have w6:IntKind.i64.wrap (((cy+t*y) % 4294967296:Nat):Int)=(((cy+t*y) % 4294967296:Nat):Int):=wrapN _ rfl (by omega)
   obtain⟨_,a1,a2,r,l',BO,mD,hw,s1,s2,s3,s4,s5,s6,s7⟩:=step y (cy+t*y) ly rfl (fun d hd=>by rw[hy] at hd;injection hd with hd;exact hd.symm) (fun h=>by omega)
   by_cases hn:(x:Int)-(((cy+t*y) % 4294967296:Nat):Int)-(l:Int)<0
   ·have:=mD.1 hn
    subst this
    simp only[eT,k0,k1,k2,k7,k8,AD,BH,cC,aV,e1,e2,e3,e4,f1,f2,w1,w3,w4,w5,w6,a1,a2,hn,hw,wii,wrap32,qV,VX,Nat.reduceEqDiff,Nat.reduceAdd]
    exact⟨(i+1,outs.set i r,(cy+t*y) / 4294967296,1),by simp only;omega,s1,rfl,s2,s3,s4,s5,s6,s7,by (repeat' apply And.intro)<;>first | rfl | trivial⟩
   ·have:l'=0:=by
     have:l'≠1:=fun h=>hn (mD.2 h)
     omega
    subst this
    simp only[eT,k0,k1,k2,k7,k8,AD,BH,cC,aV,e1,e2,e3,e4,f1,f2,w1,w3,w4,w5,w6,a1,a2,hn,hw,wii,wrap32,qV,VX,Nat.reduceEqDiff,Nat.reduceAdd]
    exact⟨(i+1,outs.set i r,(cy+t*y) / 4294967296,0),by simp only;omega,s1,rfl,s2,s3,s4,s5,s6,s7,by (repeat' apply And.intro)<;>first | rfl | trivial⟩
  ·have w6:IntKind.i64.wrap ((cy % 4294967296:Nat):Int)=((cy % 4294967296:Nat):Int):=wrapN _ rfl (by omega)
   obtain⟨_,a1,a2,r,l',BO,mD,hw,s1,s2,s3,s4,s5,s6,s7⟩:=step 0 cy (by decide) (by simp) (fun d hd=>by have:=(List.getElem?_eq_some_iff.1 hd).1;omega) (fun _=>rfl)
   by_cases hn:(x:Int)-((cy % 4294967296:Nat):Int)-(l:Int)<0
   ·have:=mD.1 hn
    subst this
    simp only[eT,k0,k1,k2,k7,k8,AD,BH,cC,aV,e1,e2,e3,e4,w1,w6,a1,a2,hn,hw,wii,wrap32,qV,VX,Nat.reduceEqDiff,Nat.reduceAdd]
    exact⟨(i+1,outs.set i r,cy / 4294967296,1),by simp only;omega,s1,rfl,s2,s3,s4,s5,s6,s7,by (repeat' apply And.intro)<;>first | rfl | trivial⟩
   ·have:l'=0:=by
     have:l'≠1:=fun h=>hn (mD.2 h)
     omega
    subst this
    simp only[eT,k0,k1,k2,k7,k8,AD,BH,cC,aV,e1,e2,e3,e4,w1,w6,a1,a2,hn,hw,wii,wrap32,qV,VX,Nat.reduceEqDiff,Nat.reduceAdd]
    exact⟨(i+1,outs.set i r,cy / 4294967296,0),by simp only;omega,s1,rfl,s2,s3,s4,s5,s6,s7,by (repeat' apply And.intro)<;>first | rfl | trivial⟩
 ·have oU:i=L:=by omega
  subst oU
  rw[List.take_of_length_le (by omega),List.take_of_length_le (by omega),List.take_of_length_le (by omega)] at hv
  have afK:=nB jT
  rw[gZ] at afK
  by_cases hz:l=0∧cy=0
  ·obtain⟨rfl,rfl⟩:=hz
   simp only[eT,k0,k1,k2,k7,k8,AD,BH,cC,Int.natCast_zero,VX,Nat.reduceEqDiff,Nat.reduceAdd]
   exact⟨outs,rfl,gZ,jT,.inl (by simpa using hv.symm)⟩
  ·have VD:cy+l=1:=by
    rcases WY hv afK hVL nC with h | h<;>omega
   rw[VD,Nat.mul_one] at hv
   have aaD:val 4294967296 gD<t*val 4294967296 vs:=by omega
   have fin:∀s2:List Nat,s2.length=i→(∀d∈s2,d<4294967296)→∀c,val 4294967296 outs+val 4294967296 vs=val 4294967296 s2+4294967296^i*c→val 4294967296 s2+t*val 4294967296 vs=val 4294967296 gD+val 4294967296 vs:=by
    intro s2 h2 h3 c h4
    have h5:=nB h3
    rw[h2] at h5
    exact X2 hv h4 h5 hVL nC N2 (by omega)
   have hlen:=e0 (rd outs gZ)
   by_cases zF:(l:Int)=0
   ·have hcy:¬(cy:Int)=0:=by omega
    simp only[eT,k0,k1,k2,k7,k8,AD,BH,cC,zF,hcy,hlen,VX,Nat.reduceEqDiff,Nat.reduceAdd]
    exact back _ outs gZ jT fin aaD k0 k1 (by rfl) (by rfl) (by rfl)
   ·simp only[eT,k0,k1,k2,k7,k8,AD,BH,cC,zF,hlen,VX,Nat.reduceEqDiff,Nat.reduceAdd]
    exact back _ outs gZ jT fin aaD k0 k1 (by rfl) (by rfl) (by rfl)
end Go.PM
namespace Go.PM
section
variable {H:aA} {b g o i lo d:Nat} {L R:List VV} {low:List Nat}
theorem Yp (hr:aK H b g=some (L++low.map tV++R,1,true)) (ho:L.length=o) (hi:low[i]? = some d):dG false 1 (.ptr b g (o+i) 0) H=some (VI (d:Int)):=by
 have aV:=(List.getElem?_eq_some_iff.1 hi).1
 rw[Od hr (x:=tV d) (by rw[N3 ho (by simpa using aV)];simp[hi])]
 rfl
theorem Zw (hr:aK H b g=some (L++low.map tV++R,1,true)) (ho:L.length=o) (hi:i<low.length) (eX:lo≤b):cJ lo 1 (.ptr b g (o+i) 0) (VI (d:Int)) H=some (H.set b (.row g (L++(low.set i d).map tV++R) 1 true)):=by
 rw[jL hr (by simp only[List.length_append,List.length_map];omega) eX rfl rfl,Tk ho (by simpa using hi),List.map_set]
theorem Rv {n:Nat} {z:Int} (hr:aK H b g=some (L++low.map tV++VI z::R,1,true)) (ho:L.length=o) (hn:low.length=n):dG false 1 (.ptr b g (o+n) 0) H=some (VI z):=by
 rw[Od hr (x:=VI z) (by rw[List.getElem?_append_right (by simp;omega)];simp[ho,hn])]
 rfl
theorem Za {n:Nat} {z z':Int} (hr:aK H b g=some (L++low.map tV++VI z::R,1,true)) (ho:L.length=o) (hn:low.length=n) (eX:lo≤b):cJ lo 1 (.ptr b g (o+n) 0) (VI z') H=some (H.set b (.row g (L++low.map tV++VI z'::R) 1 true)):=by
 rw[jL hr (by simp only[List.length_append,List.length_map,List.length_cons];omega) eX rfl rfl,List.set_append_right _ _ (by simp;omega)]
 congr 5
 simp[ho,hn]
end
theorem NC {P A N B c u x t r k m q T:Nat} (h:A+P*c=N+t*B) (h1:r+m+c=u+T*k) (h2:m+T*q=x*t):(A+P*u)+P*T*(q+k)=(N+P*r)+t*(B+P*x):=by
 have e1:P*(r+m+c)=P*(u+T*k):=by rw[h1]
 have e2:P*(m+T*q)=P*(x*t):=by rw[h2]
 grind
theorem YF {x t:Nat} (hx:x<1000000000) (ht:t<1000000000):x*t≤999999998000000001∧x*t / 1000000000≤999999998:=by
 have h:x*t≤999999999*999999999:=Nat.mul_le_mul (by omega) (by omega)
 omega
theorem V5 {H:aA} {lo b g o n N t top:Nat} {L R:List VV} {low vs:List Nat} (hr:aK H b g=some (L++low.map tV++VI (top:Int)::R,1,true)) (eX:lo≤b) (ho:L.length=o) (hl:low.length=n) (DS:vs.length=n) (hN:o+n<N) (BX:N≤70368744177664)
  (WU:∀d∈low,d<1000000000) (EA:∀d∈vs,d<1000000000) (ht:t<1000000000) (XZ:top<1000000000) :
  kG 239 [.ref b g 0 N N,gA vs,VI (o:Int),VI (t:Int)] lo H fun r H'=>∃(zW:List Nat) (c:Nat),H'=H.set b (.row g (L++zW.map tV++VI ((top:Int)-(c:Int))::R) 1 true)∧zW.length=n∧(∀d∈zW,d<1000000000)∧c≤1000000000 ∧
   r=VB (decide ((top:Int)-(c:Int)<0))∧val 1000000000 low+1000000000^n*c=val 1000000000 zW+t*val 1000000000 vs:=by
 refine kG.walk ⟨true,false⟩ E3 (Nat.le_of_ble_eq_true rfl) ?_
 have rd:∀(s:List Nat) (z:Int),aK (H.set b (.row g (L++s.map tV++VI z::R) 1 true)) b g=some (L++s.map tV++VI z::R,1,true):=fun s z=>lW hr
 have ad:∀(K:aA) (es:List VV) (i:Nat),aK K b g=some (es,1,true)→i≤n→bC 1 (.ref b g 0 N N) (VI ((o+i:Nat):Int)) K=some (.ptr b g (o+i) 0):=fun K es i h hi=>by rw[aQ h (by omega),Nat.zero_add]
 simp only[Bx,xV,dH,VX,Nat.reduceEqDiff,Nat.reduceAdd]
 refine aN (fun(u:Nat×List Nat×Nat) ρ K=>u.1≤n∧K=H.set b (.row g (L++u.2.1.map tV++VI (top:Int)::R) 1 true)∧u.2.1.length=n∧(∀d∈u.2.1,d<1000000000)∧u.2.2≤1000000000∧val 1000000000 (low.take u.1)+1000000000^u.1*u.2.2=val 1000000000 (u.2.1.take u.1)+t*val 1000000000 (vs.take u.1)∧(∀j,u.1≤j→u.2.1[j]? = low[j]?) ∧
  ρ 0 = .ref b g 0 N N∧ρ 1=gA vs∧ρ 2=VI o∧ρ 3=VI t∧ρ 9=VI u.2.2∧ρ 13=gA vs∧ρ 14=VI vs.length∧ρ 15=VI u.1) (fun u=>n-u.1) (0,low,0) ⟨Nat.zero_le _,(vB hr).symm,hl,WU,by simp,by simp[val],fun _ _=>rfl,by (repeat' apply And.intro)<;>first | rfl | trivial⟩ ?_
 rintro⟨i,outs,c⟩ ρ K ⟨hi,rfl,gZ,jT,hc,hv,Ez,k0,k1,k2,k3,k9,AD,BH,IS⟩
 simp only at hi gZ jT hc hv Ez k9 IS
 by_cases cC:(i:Int)<(vs.length:Int)
 ·obtain⟨u,hu⟩:∃u,outs[i]? = some u:=⟨_,List.getElem?_eq_getElem (by omega)⟩
  have lu:=jT u (List.mem_of_getElem? hu)
  have hu':low[i]? = some u:=by rw[←Ez i (Nat.le_refl _)];exact hu
  obtain⟨x,hx⟩:∃x,vs[i]? = some x:=⟨_,List.getElem?_eq_getElem (by omega)⟩
  have lx:=EA x (List.mem_of_getElem? hx)
  obtain⟨xt1,xt2⟩:=YF lx ht
  have e1:bC 1 (gA vs) (VI i) (H.set b (.row g (L++outs.map tV++VI (top:Int)::R) 1 true))=some (.cO (tV x) 0):=aF (f:=tV) (t := .op) (size:=1) (k := .i64) hx rfl
  have w1:IntKind.i64.wrap ((o:Int)+(i:Int))=((o+i:Nat):Int):=wrapN _ (by omega) (by omega)
  have e2:=ad _ _ i (rd outs top) (by omega)
  have e3:=Yp (rd outs top) ho hu
  have e4:∀d:Nat,cJ lo 1 (.ptr b g (o+i) 0) (VI (d:Int)) (H.set b (.row g (L++outs.map tV++VI (top:Int)::R) 1 true))=some (H.set b (.row g (L++(outs.set i d).map tV++VI (top:Int)::R) 1 true)):=fun d=>by rw[Zw (rd outs top) ho (by omega) eX,kW]
  have w2:IntKind.i64.wrap ((x:Int)*(t:Int))=((x*t:Nat):Int):=wrapN _ (by simp) (by omega)
  have r1:=LR (x*t)
  have q1:=ME (x*t) (by omega)
  have hm:=Nat.mod_lt (x*t) (show 0<1000000000 by decide)
  have hdv:=Nat.mod_add_div (x*t) 1000000000
  have wi:IntKind.i64.wrap ((i:Int)+1)=((i+1:Nat):Int):=wrapN (i+1) (by omega) (by omega)
  generalize hmq:x*t % 1000000000=m at *
  generalize hqq:x*t / 1000000000=q at *
  have w3:IntKind.i64.wrap ((u:Int)-(m:Int))=(u:Int)-(m:Int):=wrap64 (by omega) (by omega)
  have w4:IntKind.i64.wrap ((u:Int)-(m:Int)-(c:Int))=(u:Int)-(m:Int)-(c:Int):=wrap64 (by omega) (by omega)
  have step:∀r k:Nat,r<1000000000→r+m+c=u+1000000000*k→val 1000000000 (low.take (i+1))+1000000000^(i+1)*(q+k)=val 1000000000 ((outs.set i r).take (i+1))+t*val 1000000000 (vs.take (i+1))∧(∀d∈outs.set i r,d<1000000000)∧(∀j,i+1≤j→(outs.set i r)[j]? = low[j]?)∧(outs.set i r).length=n:=by
   intro r k hr hk
   refine⟨?_,kI jT hr,fun j hj=>by rw[List.getElem?_set_ne (by omega)];exact Ez j (by omega),by rw[List.length_set];exact gZ⟩
   rw[aS hu',aS hx,dQ (by omega),Nat.pow_succ]
   exact NC hv hk hdv
  by_cases h1:(u:Int)-(m:Int)-(c:Int)<0
  ·have w5:IntKind.i64.wrap ((u:Int)-(m:Int)-(c:Int)+1000000000)=(u:Int)-(m:Int)-(c:Int)+1000000000:=wrap64 (by omega) (by omega)
   have w6:IntKind.i64.wrap ((q:Int)+1)=((q+1:Nat):Int):=wrapN _ (by omega) (by omega)
   by_cases h2:(u:Int)-(m:Int)-(c:Int)+1000000000<0
   ·obtain⟨r,hr⟩:∃r:Nat,r+m+c=u+1000000000*2:=⟨u+1000000000*2-m-c,by omega⟩
    have w7:IntKind.i64.wrap ((u:Int)-(m:Int)-(c:Int)+1000000000+1000000000)=(r:Int):=wrapN r (by omega) (by omega)
    have w8:IntKind.i64.wrap (((q+1:Nat):Int)+1)=((q+2:Nat):Int):=wrapN _ (by omega) (by omega)
    obtain⟨s1,s2,s3,s4⟩:=step r 2 (by omega) hr
    simp only[iS,k0,k1,k2,k3,k9,AD,BH,IS,cC,e1,e2,e3,e4,w1,w2,w3,w4,w5,w6,w7,w8,wi,r1,q1,h1,h2,VX,Nat.reduceEqDiff,Nat.reduceAdd]
    refine⟨(i+1,outs.set i r,q+2),by simp only;omega,by omega,rfl,s4,s2,by simp only;omega,s1,s3,?_⟩
    try (repeat' apply And.intro)<;>first | rfl | trivial
   ·obtain⟨r,hr⟩:∃r:Nat,r+m+c=u+1000000000*1:=⟨u+1000000000*1-m-c,by omega⟩
    have w7:IntKind.i64.wrap ((u:Int)-(m:Int)-(c:Int)+1000000000)=(r:Int):=wrapN r (by omega) (by omega)
    have h3:¬(r:Int)<0:=by omega
    obtain⟨s1,s2,s3,s4⟩:=step r 1 (by omega) hr
    simp only[iS,k0,k1,k2,k3,k9,AD,BH,IS,cC,e1,e2,e3,e4,w1,w2,w3,w4,w6,w7,wi,r1,q1,h1,h3,VX,Nat.reduceEqDiff,Nat.reduceAdd]
    refine⟨(i+1,outs.set i r,q+1),by simp only;omega,by omega,rfl,s4,s2,by simp only;omega,s1,s3,?_⟩
    try (repeat' apply And.intro)<;>first | rfl | trivial
  ·obtain⟨r,hr⟩:∃r:Nat,r+m+c=u+1000000000*0:=⟨u-m-c,by omega⟩
   have w7:IntKind.i64.wrap ((u:Int)-(m:Int)-(c:Int))=(r:Int):=wrapN r (by omega) (by omega)
   have h3:¬(r:Int)<0:=by omega
   obtain⟨s1,s2,s3,s4⟩:=step r 0 (by omega) hr
   simp only[iS,k0,k1,k2,k3,k9,AD,BH,IS,cC,e1,e2,e3,e4,w1,w2,w3,w7,wi,r1,q1,h3,VX,Nat.reduceEqDiff,Nat.reduceAdd]
   refine⟨(i+1,outs.set i r,q),by simp only;omega,by omega,rfl,s4,s2,by simp only;omega,s1,s3,?_⟩
   try (repeat' apply And.intro)<;>first | rfl | trivial
 ·have oU:i=n:=by omega
  subst oU
  rw[List.take_of_length_le (by omega),List.take_of_length_le (by omega),List.take_of_length_le (by omega)] at hv
  have w1:IntKind.i64.wrap ((o:Int)+(vs.length:Int))=((o+i:Nat):Int):=wrapN _ (by omega) (by omega)
  have e2:=ad _ _ i (rd outs top) (by omega)
  have e2':=ad _ _ i (rd outs ((top:Int)-(c:Int))) (by omega)
  have e3:=Rv (rd outs top) ho gZ
  have e3':=Rv (rd outs ((top:Int)-(c:Int))) ho gZ
  have e4:cJ lo 1 (.ptr b g (o+i) 0) (VI ((top:Int)-(c:Int))) (H.set b (.row g (L++outs.map tV++VI (top:Int)::R) 1 true))=some (H.set b (.row g (L++outs.map tV++VI ((top:Int)-(c:Int))::R) 1 true)):=by rw[Za (rd outs top) ho gZ eX,kW]
  have w2:IntKind.i64.wrap ((top:Int)-(c:Int))=(top:Int)-(c:Int):=wrap64 (by omega) (by omega)
  simp only[iS,k0,k1,k2,k3,k9,AD,BH,IS,cC,dH,w1,w2,e2,e2',e3,e3',e4,VX,Nat.reduceEqDiff,Nat.reduceAdd]
  refine⟨outs,c,rfl,gZ,jT,hc,?_,hv⟩
  try rfl
theorem Wr {H:aA} {lo b g o n N:Nat} {z:Int} {L R:List VV} {low vs:List Nat} (hr:aK H b g=some (L++low.map tV++VI z::R,1,true)) (eX:lo≤b) (ho:L.length=o) (hl:low.length=n) (DS:vs.length=n) (hN:o+n<N) (BX:N≤70368744177664)
  (WU:∀d∈low,d<1000000000) (EA:∀d∈vs,d<1000000000) (hz : -1000000000≤z) (Q0:z≤1000000000) :
  kG 240 [.ref b g 0 N N,gA vs,VI (o:Int)] lo H fun r H'=>∃(zW:List Nat) (c:Nat),H'=H.set b (.row g (L++zW.map tV++VI (z+(c:Int))::R) 1 true)∧zW.length=n∧(∀d∈zW,d<1000000000)∧c≤1 ∧
   val 1000000000 low+val 1000000000 vs=val 1000000000 zW+1000000000^n*c:=by
 refine kG.walk ⟨true,false⟩ EE (Nat.le_of_ble_eq_true rfl) ?_
 have rd:∀(s:List Nat) (z:Int),aK (H.set b (.row g (L++s.map tV++VI z::R) 1 true)) b g=some (L++s.map tV++VI z::R,1,true):=fun s z=>lW hr
 have ad:∀(K:aA) (es:List VV) (i:Nat),aK K b g=some (es,1,true)→i≤n→bC 1 (.ref b g 0 N N) (VI ((o+i:Nat):Int)) K=some (.ptr b g (o+i) 0):=fun K es i h hi=>by rw[aQ h (by omega),Nat.zero_add]
 simp only[BF,yB,dH,VX,Nat.reduceEqDiff,Nat.reduceAdd]
 refine aN (fun(u:Nat×List Nat×Nat) ρ K=>u.1≤n∧K=H.set b (.row g (L++u.2.1.map tV++VI z::R) 1 true)∧u.2.1.length=n∧(∀d∈u.2.1,d<1000000000)∧u.2.2≤1∧val 1000000000 (low.take u.1)+val 1000000000 (vs.take u.1)=val 1000000000 (u.2.1.take u.1)+1000000000^u.1*u.2.2∧(∀j,u.1≤j→u.2.1[j]? = low[j]?) ∧
  ρ 0 = .ref b g 0 N N∧ρ 1=gA vs∧ρ 2=VI o∧ρ 6=VI u.2.2∧ρ 10=gA vs∧ρ 11=VI vs.length∧ρ 12=VI u.1) (fun u=>n-u.1) (0,low,0) ⟨Nat.zero_le _,(vB hr).symm,hl,WU,by simp,by simp[val],fun _ _=>rfl,by (repeat' apply And.intro)<;>first | rfl | trivial⟩ ?_
 rintro⟨i,outs,c⟩ ρ K ⟨hi,rfl,gZ,jT,hc,hv,Ez,k0,k1,k2,k6,WH,T7,Gn⟩
 simp only at hi gZ jT hc hv Ez k6 Gn
 by_cases cC:(i:Int)<(vs.length:Int)
 ·obtain⟨u,hu⟩:∃u,outs[i]? = some u:=⟨_,List.getElem?_eq_getElem (by omega)⟩
  have lu:=jT u (List.mem_of_getElem? hu)
  have hu':low[i]? = some u:=by rw[←Ez i (Nat.le_refl _)];exact hu
  obtain⟨x,hx⟩:∃x,vs[i]? = some x:=⟨_,List.getElem?_eq_getElem (by omega)⟩
  have lx:=EA x (List.mem_of_getElem? hx)
  have e1:bC 1 (gA vs) (VI i) (H.set b (.row g (L++outs.map tV++VI z::R) 1 true))=some (.cO (tV x) 0):=aF (f:=tV) (t := .op) (size:=1) (k := .i64) hx rfl
  have w1:IntKind.i64.wrap ((o:Int)+(i:Int))=((o+i:Nat):Int):=wrapN _ (by omega) (by omega)
  have e2:=ad _ _ i (rd outs z) (by omega)
  have e3:=Yp (rd outs z) ho hu
  have e4:∀d:Nat,cJ lo 1 (.ptr b g (o+i) 0) (VI (d:Int)) (H.set b (.row g (L++outs.map tV++VI z::R) 1 true))=some (H.set b (.row g (L++(outs.set i d).map tV++VI z::R) 1 true)):=fun d=>by rw[Zw (rd outs z) ho (by omega) eX,kW]
  have w2:IntKind.i64.wrap ((u:Int)+(x:Int))=((u+x:Nat):Int):=wrapN _ (by omega) (by omega)
  have w3:IntKind.i64.wrap (((u+x:Nat):Int)+(c:Int))=((u+x+c:Nat):Int):=wrapN _ (by omega) (by omega)
  have r1:=LR (u+x+c)
  have q1:=ME (u+x+c) (by omega)
  have wi:IntKind.i64.wrap ((i:Int)+1)=((i+1:Nat):Int):=wrapN (i+1) (by omega) (by omega)
  simp only[qA,k0,k1,k2,k6,WH,T7,Gn,cC,e1,e2,e3,e4,w1,w2,w3,wi,r1,q1,VX,Nat.reduceEqDiff,Nat.reduceAdd]
  refine⟨(i+1,outs.set i ((u+x+c) % 1000000000),(u+x+c) / 1000000000),by simp only;omega,by omega,rfl,by rw[List.length_set];exact gZ,kI jT (Nat.mod_lt _ (by decide)),by simp only;omega,?_,fun j hj=>by rw[List.getElem?_set_ne (by omega)];exact Ez j (by omega),?_⟩
  ·simp only
   rw[aS hu',aS hx,dQ (by omega),Nat.pow_succ]
   exact Ek hv (show c+u+x=u+x+c by omega) (Nat.mod_add_div _ _)
  ·try (repeat' apply And.intro)<;>first | rfl | trivial
 ·have oU:i=n:=by omega
  subst oU
  rw[List.take_of_length_le (by omega),List.take_of_length_le (by omega),List.take_of_length_le (by omega)] at hv
  have w1:IntKind.i64.wrap ((o:Int)+(vs.length:Int))=((o+i:Nat):Int):=wrapN _ (by omega) (by omega)
  have e2:=ad _ _ i (rd outs z) (by omega)
  have e3:=Rv (rd outs z) ho gZ
  have e4:cJ lo 1 (.ptr b g (o+i) 0) (VI (z+(c:Int))) (H.set b (.row g (L++outs.map tV++VI z::R) 1 true))=some (H.set b (.row g (L++outs.map tV++VI (z+(c:Int))::R) 1 true)):=by rw[Za (rd outs z) ho gZ eX,kW]
  have w2:IntKind.i64.wrap (z+(c:Int))=z+(c:Int):=wrap64 (by omega) (by omega)
  simp only[qA,k0,k1,k2,k6,WH,T7,Gn,cC,dH,w1,w2,e2,e3,e4,VX,Nat.reduceEqDiff,Nat.reduceAdd]
  exact⟨outs,c,rfl,gZ,jT,hc,hv⟩
end Go.PM