/- Texts of a claim, in one: part 8. -/
import Derived.Test.YtjmflicajplclaaGreatDoorKYg
set_option linter.unusedSimpArgs false
set_option linter.unusedVariables false
namespace Go.PM
theorem jL {es:List VV} {g e:Nat} {w:Bool}:aF [.row g es e w] 0 g=some (es,e,w):=aQ
theorem Sb {x y:Nat} {ρ:dL} {Q:VQ} (hx:(aC 4294967296 x).length≤17592186044416) (hl:(aC 4294967296 y).length≤(aC 4294967296 x).length) (h0:ρ 0=bS x) (h1:ρ 1=bS y) (h5:ρ 5 = .ref 0 0 0 ((aC 4294967296 x).length+1) ((aC 4294967296 x).length+1)) (h6:ρ 6=VK .u64 0) (h20:ρ 20=VI (aC 4294967296 x).length) (h21:ρ 21=VI 0)
  (hQ:∀(bL:dL) (outs:List Nat) (c:Nat),bL 0=bS x→bL 5 = .ref 0 0 0 ((aC 4294967296 x).length+1) ((aC 4294967296 x).length+1)→bL 6=VK .u64 (c:Nat)→outs.length=(aC 4294967296 x).length+1→(∀d∈outs,d<4294967296)→c≤1→x+y=val 4294967296 (outs.take (aC 4294967296 x).length)+4294967296^(aC 4294967296 x).length*c→Q (.exit 0) bL [.row 0 (outs.map uV) 1 true]) :
  VW ⟨true,false⟩ 0 (.loop lA) Q ρ [.row 0 ((List.replicate ((aC 4294967296 x).length+1) 0).map uV) 1 true]:=by
 unfold bS at h0 h1 hQ
 have vx:=cM (b:=4294967296) (by decide) x
 have vy:=cM (b:=4294967296) (by decide) y
 have lx:=fL (b:=4294967296) (by decide) x
 have ly:=fL (b:=4294967296) (by decide) y
 generalize aC 4294967296 x=xs at *
 generalize aC 4294967296 y=ys at *
 refine aU (fun(s:Nat×List Nat×Nat) ρ H=>s.1≤xs.length∧H=[.row 0 (s.2.1.map uV) 1 true]∧s.2.1.length=xs.length+1∧(∀d∈s.2.1,d<4294967296)∧s.2.2≤1∧val 4294967296 (xs.take s.1)+val 4294967296 (ys.take s.1)=val 4294967296 (s.2.1.take s.1)+4294967296^s.1*s.2.2 ∧
  ρ 0=BG xs∧ρ 1=BG ys∧ρ 5 = .ref 0 0 0 (xs.length+1) (xs.length+1)∧ρ 6=VK .u64 s.2.2∧ρ 20=VI xs.length∧ρ 21=VI s.1) (fun s=>xs.length-s.1) (0,List.replicate (xs.length+1) 0,0) ?_ ?_
 ·exact⟨Nat.zero_le _,rfl,by simp,A0 (by decide) _,by simp,by simp[val],h0,h1,h5,h6,h20,h21⟩
 ·rintro⟨i,outs,c⟩ ρ H ⟨hi,rfl,jK,lM,hc,hv,g0,g1,g5,g6,g20,g21⟩
  simp only at hi jK lM hc hv g6 g21
  by_cases cS:(i:Int)<(xs.length:Int)
  ·obtain⟨a,ha⟩:∃a,xs[i]? = some a:=⟨_,List.getElem?_eq_getElem (by omega)⟩
   have la:=lx a (List.mem_of_getElem? ha)
   have e1:=aJ (f:=uV) (t := .op) (H:=[.row 0 (outs.map uV) 1 true]) (size:=1) (k := .i64) ha rfl
   have w1:IntKind.u64.wrap (a:Int)=(a:Int):=eE _ (by omega)
   have w2:IntKind.u64.wrap ((c:Int)+(a:Int))=((c+a:Nat):Int):=by rw[←Int.natCast_add];exact eE _ (by omega)
   have wi:IntKind.i64.wrap ((i:Int)+1)=((i+1:Nat):Int):=wrapN (i+1) (by omega) (by omega)
   have e3:=bD (H:=[.row 0 (outs.map uV) 1 true]) (b:=0) (g:=0) (o:=0) (n:=xs.length+1) (c:=xs.length+1) (i:=i) (k := .i64) jL (by omega)
   have e4:∀s:Nat,bI 0 1 (.ptr 0 0 i 0) (uV s) [.row 0 (outs.map uV) 1 true]=some [.row 0 ((outs.set i s).map uV) 1 true]:=fun s=>by
    rw[fA (f:=uV) (e:=1) jL (by omega) (Nat.le_refl _) rfl rfl]
    rfl
   have step:∀b,b<4294967296→(∀d,ys[i]? = some d→d=b)→(ys.length≤i→b=0) →
     (i+1≤xs.length∧(outs.set i ((c+a+b) % 4294967296)).length=xs.length+1∧(∀d∈outs.set i ((c+a+b) % 4294967296),d<4294967296)∧(c+a+b) / 4294967296≤1∧val 4294967296 (xs.take (i+1))+val 4294967296 (ys.take (i+1))=val 4294967296 ((outs.set i ((c+a+b) % 4294967296)).take (i+1))+4294967296^(i+1)*((c+a+b) / 4294967296)):=by
    intro b hb h1 h2
    refine⟨by omega,by rw[List.length_set];exact jK,lZ lM (Nat.mod_lt _ (by decide)),by omega,?_⟩
    have hy:val 4294967296 (ys.take (i+1))=val 4294967296 (ys.take i)+4294967296^i*b:=by
     cases U7:ys[i]? with
     | some d=>rw[bE U7,h1 d U7]
     |
      none =>
      have hle:=List.getElem?_eq_none_iff.1 U7
      rw[h2 hle,jQ hle,jQ (by omega),Nat.mul_zero,Nat.add_zero]
    rw[bE ha,hy,eT (by omega),Nat.pow_succ]
    exact Gl hv rfl (Nat.mod_add_div _ _)
   by_cases bH:(i:Int)<(ys.length:Int)
   ·obtain⟨b,hb⟩:∃b,ys[i]? = some b:=⟨_,List.getElem?_eq_getElem (by omega)⟩
    have lb:=ly b (List.mem_of_getElem? hb)
    have e2:=aJ (f:=uV) (t := .op) (H:=[.row 0 (outs.map uV) 1 true]) (size:=1) (k := .i64) hb rfl
    have w3:IntKind.u64.wrap (b:Int)=(b:Int):=eE _ (by omega)
    have w4:IntKind.u64.wrap (((c+a:Nat):Int)+(b:Int))=((c+a+b:Nat):Int):=by rw[←Int.natCast_add];exact eE _ (by omega)
    obtain⟨s1,s2,s3,s4,s5⟩:=step b lb (fun d hd=>by rw[hb] at hd;injection hd with hd;exact hd.symm) (fun h=>by omega)
    simp only[lA,g0,g1,g5,g6,g20,g21,cS,bH,e1,e2,e3,e4,w1,w2,w3,w4,wi,wrap32,oF,VX,Nat.reduceEqDiff,Nat.reduceAdd]
    exact⟨(i+1,outs.set i ((c+a+b) % 4294967296),(c+a+b) / 4294967296),by simp only;omega,s1,rfl,s2,s3,s4,s5,by (repeat' apply And.intro)<;>first | rfl | trivial⟩
   ·obtain⟨s1,s2,s3,s4,s5⟩:=step 0 (by decide) (fun d hd=>by have:=(List.getElem?_eq_some_iff.1 hd).1;omega) (fun _=>rfl)
    simp only[Nat.add_zero] at s2 s3 s4 s5
    simp only[lA,g0,g1,g5,g6,g20,g21,cS,bH,e1,e3,e4,w1,w2,wi,wrap32,oF,VX,Nat.reduceEqDiff,Nat.reduceAdd]
    exact⟨(i+1,outs.set i ((c+a) % 4294967296),(c+a) / 4294967296),by simp only;omega,s1,rfl,s2,s3,s4,s5,by (repeat' apply And.intro)<;>first | rfl | trivial⟩
  ·have mT:i=xs.length:=by omega
   subst mT
   simp only[lA,g0,g1,g5,g6,g20,g21,cS,VX,Nat.reduceEqDiff,Nat.reduceAdd]
   refine hQ _ outs c g0 g5 g6 jK lM hc ?_
   rw[List.take_length,List.take_of_length_le (l:=ys) hl,vx,vy] at hv
   exact hv
theorem Du (a b:Nat) (ha:(aC 4294967296 a).length≤17592186044416) (hb:(aC 4294967296 b).length≤17592186044416):TC 145 [bS a,bS b] (bS (a+b)):=by
 refine TC.walk ⟨true,false⟩ Jb rfl (Nat.le_of_ble_eq_true rfl) (by simp[aP,cB]) (qX _) ?_
 have mk:∀n:Nat,n≤17592186044416→Bs [.int .u32 0] 4 (VI ((n+1:Nat):Int)) (VI ((n+1:Nat):Int)) []=some (.ref 0 0 0 (n+1) (n+1),[.row 0 ((List.replicate (n+1) 0).map uV) 1 true]):=fun n hn=>sD (f:=uV) (x:=0) rfl (by omega) (by omega)
 have fin:∀(x y:Nat) (outs:List Nat) (c:Nat),(aC 4294967296 x).length≤17592186044416→x+y=a+b→outs.length=(aC 4294967296 x).length+1→(∀d∈outs,d<4294967296)→c≤1→x+y=val 4294967296 (outs.take (aC 4294967296 x).length)+4294967296^(aC 4294967296 x).length*c →
   bQ 1 (.ref 0 0 0 ((aC 4294967296 x).length+1) ((aC 4294967296 x).length+1)) (VI ((aC 4294967296 x).length:Nat)) [.row 0 (outs.map uV) 1 true]=some (.ptr 0 0 (0+(aC 4294967296 x).length) 0) ∧
   bI 0 1 (.ptr 0 0 (aC 4294967296 x).length 0) (uV (c % 4294967296)) [.row 0 (outs.map uV) 1 true]=some [.row 0 ((outs.set (aC 4294967296 x).length (c % 4294967296)).map uV) 1 true] ∧
   ∀lo K,(∀k,k≤(aC 4294967296 x).length+1→(outs.set (aC 4294967296 x).length (c % 4294967296)).take k=aC 4294967296 (a+b)→K (.ref 0 0 0 k ((aC 4294967296 x).length+1)) [.row 0 ((outs.set (aC 4294967296 x).length (c % 4294967296)).map uV) 1 true]) →
    cV 182 [.ref 0 0 0 ((aC 4294967296 x).length+1) ((aC 4294967296 x).length+1)] lo [.row 0 ((outs.set (aC 4294967296 x).length (c % 4294967296)).map uV) 1 true] K:=by
  intro x y outs c hx A8 jK lM hc hv
  have I9:=lZ (i:=(aC 4294967296 x).length) lM (show c % 4294967296<4294967296 from Nat.mod_lt _ (by decide))
  have uU:val 4294967296 (outs.set (aC 4294967296 x).length (c % 4294967296))=a+b:=by
   have h1:=eT (b:=4294967296) (xs:=outs) (i:=(aC 4294967296 x).length) (d:=c % 4294967296) (by omega)
   rw[List.take_of_length_le (by rw[List.length_set];omega)] at h1
   rw[h1,Nat.mod_eq_of_lt (Nat.lt_of_le_of_lt hc (by decide)),←hv,A8]
  refine⟨bD jL (by omega),?_,?_⟩
  ·rw[fA (f:=uV) (e:=1) jL (by omega) (Nat.le_refl _) rfl rfl]
   rfl
  ·intro lo K hk
   have aoQ:(outs.set (aC 4294967296 x).length (c % 4294967296)).length=(aC 4294967296 x).length+1:=by rw[List.length_set];exact jK
   exact sF jL (by omega) (Nat.le_refl _) (by omega) (fun d hd=>I9 d (List.mem_of_mem_take hd)) (by rw[List.take_of_length_le (by omega)];exact uU) hk
 by_cases hsw:(((aC 4294967296 a).length:Nat):Int)<(((aC 4294967296 b).length:Nat):Int)
 ·have w1:IntKind.i64.wrap (((aC 4294967296 b).length:Int)+1)=(((aC 4294967296 b).length+1:Nat):Int):=wrapN _ (by omega) (by omega)
  simp only[zK,uH,bS,hsw,w1,mk _ hb,VX,Nat.reduceEqDiff,Nat.reduceAdd]
  refine Sb (x:=b) (y:=a) hb (by omega) rfl rfl rfl rfl rfl rfl ?_
  intro bL outs c g0 g5 g6 jK lM hc hv
  obtain⟨e1,e2,e3⟩:=fin b a outs c hb (by omega) jK lM hc hv
  simp only[g0,g5,g6,bS,wrap32,e1,e2,VX,Nat.reduceEqDiff,Nat.reduceAdd]
  refine e3 _ _ fun k hk he => ?_
  simp only[VX,Nat.reduceEqDiff,Nat.reduceAdd]
  exact QY jL (by rw[List.length_set];omega) hk he
 ·have w1:IntKind.i64.wrap (((aC 4294967296 a).length:Int)+1)=(((aC 4294967296 a).length+1:Nat):Int):=wrapN _ (by omega) (by omega)
  simp only[zK,uH,bS,hsw,w1,mk _ ha,VX,Nat.reduceEqDiff,Nat.reduceAdd]
  refine Sb (x:=a) (y:=b) ha (by omega) rfl rfl rfl rfl rfl rfl ?_
  intro bL outs c g0 g5 g6 jK lM hc hv
  obtain⟨e1,e2,e3⟩:=fin a b outs c ha rfl jK lM hc hv
  simp only[g0,g5,g6,bS,wrap32,e1,e2,VX,Nat.reduceEqDiff,Nat.reduceAdd]
  refine e3 _ _ fun k hk he => ?_
  simp only[VX,Nat.reduceEqDiff,Nat.reduceAdd]
  exact QY jL (by rw[List.length_set];omega) hk he
end Go.PM
namespace Go.PM
theorem MU {x:Int} {r:Nat} (h:x+4294967296=r) (hx:x<0) (hr:0≤x+4294967296):IntKind.u32.wrap x=(r:Int):=by rw[IntKind.wrap_u32];omega
theorem Vt (n:Nat) (hn:n≤70368744177664):Bs [.int .u32 0] 4 (VI (n:Int)) (VI (n:Int)) []=some (.ref 0 0 0 n n,[.row 0 ((List.replicate n 0).map uV) 1 true]):=sD (f:=uV) (x:=0) rfl (by omega) (by omega)
theorem Qo {outs:List Nat} {i d:Nat} (hi:i<outs.length):bI 0 1 (.ptr 0 0 i 0) (uV d) [.row 0 (outs.map uV) 1 true]=some [.row 0 ((outs.set i d).map uV) 1 true]:=by
 rw[fA (f:=uV) (e:=1) jL hi (Nat.le_refl _) rfl rfl]
 rfl
theorem Dv (a b:Nat) (GH:b≤a) (ha:(aC 4294967296 a).length≤17592186044416):TC 146 [bS a,bS b] (bS (a-b)):=by
 refine TC.walk ⟨true,false⟩ Ja rfl (Nat.le_of_ble_eq_true rfl) (by simp[aP,cB]) (qX _) ?_
 have va:=cM (b:=4294967296) (by decide) a
 have vb:=cM (b:=4294967296) (by decide) b
 have la:=fL (b:=4294967296) (by decide) a
 have lb:=fL (b:=4294967296) (by decide) b
 have hle:=eI (b:=4294967296) (by decide) GH
 unfold bS
 generalize aC 4294967296 a=xs at *
 generalize aC 4294967296 b=ys at *
 simp only[D8,BI,Vt xs.length (by omega),VX,Nat.reduceEqDiff,Nat.reduceAdd]
 refine aU (fun(s:Nat×List Nat×Nat) ρ H=>s.1≤xs.length∧H=[.row 0 (s.2.1.map uV) 1 true]∧s.2.1.length=xs.length∧(∀d∈s.2.1,d<4294967296)∧s.2.2≤1∧val 4294967296 (xs.take s.1)+4294967296^s.1*s.2.2=val 4294967296 (s.2.1.take s.1)+val 4294967296 (ys.take s.1) ∧
  ρ 0=BG xs∧ρ 1=BG ys∧ρ 5 = .ref 0 0 0 xs.length xs.length∧ρ 6=VI s.2.2∧ρ 13=VI xs.length∧ρ 14=VI s.1) (fun s=>xs.length-s.1) (0,List.replicate xs.length 0,0) ⟨Nat.zero_le _,rfl,by simp,A0 (by decide) _,by simp,by simp[val],rfl,rfl,rfl,rfl,rfl,rfl⟩ ?_
 rintro⟨i,outs,l⟩ ρ H ⟨hi,rfl,jK,lM,hc,hv,g0,g1,g5,g6,g13,g14⟩
 simp only at hi jK lM hc hv g6 g14
 by_cases cS:(i:Int)<(xs.length:Int)
 ·obtain⟨x,hx⟩:∃x,xs[i]? = some x:=⟨_,List.getElem?_eq_getElem (by omega)⟩
  have lx:=la x (List.mem_of_getElem? hx)
  have e1:=aJ (f:=uV) (t := .op) (H:=[.row 0 (outs.map uV) 1 true]) (size:=1) (k := .i64) hx rfl
  have w1:IntKind.i64.wrap (x:Int)=(x:Int):=wrapN x rfl (by omega)
  have w2:IntKind.i64.wrap ((x:Int)-(l:Int))=(x:Int)-(l:Int):=wrap64 (by omega) (by omega)
  have wi:IntKind.i64.wrap ((i:Int)+1)=((i+1:Nat):Int):=wrapN (i+1) (by omega) (by omega)
  have e3:bQ 1 (.ref 0 0 0 xs.length xs.length) (VI i) [.row 0 (outs.map uV) 1 true]=some (.ptr 0 0 i 0):=by rw[bD jL (by omega),Nat.zero_add]
  have e4:∀s:Nat,bI 0 1 (.ptr 0 0 i 0) (uV s) [.row 0 (outs.map uV) 1 true]=some [.row 0 ((outs.set i s).map uV) 1 true]:=fun s=>Qo (by omega)
  have step:∀y r l':Nat,y<4294967296→r<4294967296→l'≤1→(∀d,ys[i]? = some d→d=y)→(ys.length≤i→y=0)→r+y+l=x+4294967296*l' →
    i+1≤xs.length∧(outs.set i r).length=xs.length∧(∀d∈outs.set i r,d<4294967296)∧l'≤1∧val 4294967296 (xs.take (i+1))+4294967296^(i+1)*l'=val 4294967296 ((outs.set i r).take (i+1))+val 4294967296 (ys.take (i+1)):=by
   intro y r l' _ hr Co h1 h2 hd
   refine⟨by omega,by rw[List.length_set];exact jK,lZ lM hr,Co,?_⟩
   have hy:val 4294967296 (ys.take (i+1))=val 4294967296 (ys.take i)+4294967296^i*y:=by
    cases U7:ys[i]? with
    | some d=>rw[bE U7,h1 d U7]
    |
     none =>
     have hle:=List.getElem?_eq_none_iff.1 U7
     rw[h2 hle,jQ hle,jQ (by omega),Nat.mul_zero,Nat.add_zero]
   rw[bE hx,hy,eT (by omega),Nat.pow_succ]
   exact JG hv hd
  by_cases bH:(i:Int)<(ys.length:Int)
  ·obtain⟨y,hy⟩:∃y,ys[i]? = some y:=⟨_,List.getElem?_eq_getElem (by omega)⟩
   have ly:=lb y (List.mem_of_getElem? hy)
   have e2:=aJ (f:=uV) (t := .op) (H:=[.row 0 (outs.map uV) 1 true]) (size:=1) (k := .i64) hy rfl
   have w3:IntKind.i64.wrap (y:Int)=(y:Int):=wrapN y rfl (by omega)
   have w4:IntKind.i64.wrap ((x:Int)-(l:Int)-(y:Int))=(x:Int)-(l:Int)-(y:Int):=wrap64 (by omega) (by omega)
   by_cases mX:(x:Int)-(l:Int)-(y:Int)<0
   ·obtain⟨r,hr⟩:∃r:Nat,r+y+l=x+4294967296:=⟨x+4294967296-l-y,by omega⟩
    have w5:IntKind.u32.wrap ((x:Int)-(l:Int)-(y:Int))=(r:Int):=MU (by omega) mX (by omega)
    obtain⟨s1,s2,s3,s4,s5⟩:=step y r 1 ly (by omega) (Nat.le_refl _) (fun d hd=>by rw[hy] at hd;injection hd with hd;exact hd.symm) (fun h=>by omega) (by omega)
    simp only[iW,g0,g1,g5,g6,g13,g14,cS,bH,mX,e1,e2,e3,e4,w1,w2,w3,w4,w5,wi,VX,Nat.reduceEqDiff,Nat.reduceAdd]
    exact⟨(i+1,outs.set i r,1),by simp only;omega,s1,rfl,s2,s3,s4,s5,by (repeat' apply And.intro)<;>first | rfl | trivial⟩
   ·obtain⟨r,hr⟩:∃r:Nat,r+y+l=x:=⟨x-l-y,by omega⟩
    have w5:IntKind.u32.wrap ((x:Int)-(l:Int)-(y:Int))=(r:Int):=by rw[IntKind.wrap_u32];omega
    obtain⟨s1,s2,s3,s4,s5⟩:=step y r 0 ly (by omega) (by omega) (fun d hd=>by rw[hy] at hd;injection hd with hd;exact hd.symm) (fun h=>by omega) (by omega)
    simp only[iW,g0,g1,g5,g6,g13,g14,cS,bH,mX,e1,e2,e3,e4,w1,w2,w3,w4,w5,wi,VX,Nat.reduceEqDiff,Nat.reduceAdd]
    exact⟨(i+1,outs.set i r,0),by simp only;omega,s1,rfl,s2,s3,s4,s5,by (repeat' apply And.intro)<;>first | rfl | trivial⟩
  ·by_cases mX:(x:Int)-(l:Int)<0
   ·obtain⟨r,hr⟩:∃r:Nat,r+l=x+4294967296:=⟨x+4294967296-l,by omega⟩
    have w5:IntKind.u32.wrap ((x:Int)-(l:Int))=(r:Int):=MU (by omega) mX (by omega)
    obtain⟨s1,s2,s3,s4,s5⟩:=step 0 r 1 (by decide) (by omega) (Nat.le_refl _) (fun d hd=>by have:=(List.getElem?_eq_some_iff.1 hd).1;omega) (fun _=>rfl) (by omega)
    simp only[iW,g0,g1,g5,g6,g13,g14,cS,bH,mX,e1,e3,e4,w1,w2,w5,wi,VX,Nat.reduceEqDiff,Nat.reduceAdd]
    exact⟨(i+1,outs.set i r,1),by simp only;omega,s1,rfl,s2,s3,s4,s5,by (repeat' apply And.intro)<;>first | rfl | trivial⟩
   ·obtain⟨r,hr⟩:∃r:Nat,r+l=x:=⟨x-l,by omega⟩
    have w5:IntKind.u32.wrap ((x:Int)-(l:Int))=(r:Int):=by rw[IntKind.wrap_u32];omega
    obtain⟨s1,s2,s3,s4,s5⟩:=step 0 r 0 (by decide) (by omega) (by omega) (fun d hd=>by have:=(List.getElem?_eq_some_iff.1 hd).1;omega) (fun _=>rfl) (by omega)
    simp only[iW,g0,g1,g5,g6,g13,g14,cS,bH,mX,e1,e3,e4,w1,w2,w5,wi,VX,Nat.reduceEqDiff,Nat.reduceAdd]
    exact⟨(i+1,outs.set i r,0),by simp only;omega,s1,rfl,s2,s3,s4,s5,by (repeat' apply And.intro)<;>first | rfl | trivial⟩
 ·have mT:i=xs.length:=by omega
  subst mT
  rw[List.take_length,List.take_of_length_le (l:=ys) hle,List.take_of_length_le (l:=outs) (by omega),va,vb] at hv
  have dP:=oW lM
  rw[jK] at dP
  have uU:val 4294967296 outs=a-b:=by
   rcases Nat.lt_or_ge l 1 with h | h
   ·have:l=0:=by omega
    subst this
    rw[Nat.mul_zero] at hv
    omega
   ·have:l=1:=by omega
    subst this
    rw[Nat.mul_one] at hv
    omega
  simp only[iW,g0,g1,g5,g6,g13,g14,cS,VX,Nat.reduceEqDiff,Nat.reduceAdd]
  refine sF (m:=a-b) jL (by omega) (Nat.le_refl _) (by omega) (fun d hd=>lM d (List.mem_of_mem_take hd)) (by rw[List.take_of_length_le (by omega)];exact uU) fun k hk he => ?_
  simp only[VX,Nat.reduceEqDiff,Nat.reduceAdd]
  exact QY jL (by omega) hk he
theorem S7 {P Q A B Y x c r q o y W:Nat} (N2:A+P*Q*c=B+P*(x*Y)) (h1:r+W*q=c+(x*y+o)):A+P*Q*r+P*Q*W*q=B+P*Q*o+P*(x*(Y+Q*y)):=by
 have h2:P*Q*(r+W*q)=P*Q*(c+(x*y+o)):=by rw[h1]
 grind
theorem iP (a b:Nat) (ha:(aC 4294967296 a).length≤17592186044416) (hb:(aC 4294967296 b).length≤17592186044416):TC 143 [bS a,bS b] (bS (a*b)):=by
 refine TC.walk ⟨true,false⟩ Iw rfl (Nat.le_of_ble_eq_true rfl) (by simp[aP,cB]) (qX _) ?_
 have va:=cM (b:=4294967296) (by decide) a
 have vb:=cM (b:=4294967296) (by decide) b
 have la:=fL (b:=4294967296) (by decide) a
 have lb:=fL (b:=4294967296) (by decide) b
 unfold bS
 generalize aC 4294967296 a=xs at *
 generalize aC 4294967296 b=ys at *
 have w0:IntKind.i64.wrap ((xs.length:Int)+(ys.length:Int))=((xs.length+ys.length:Nat):Int):=wrapN _ (by omega) (by omega)
 simp only[D0,Bc,w0,Vt (xs.length+ys.length) (by omega),VX,Nat.reduceEqDiff,Nat.reduceAdd]
 generalize hN:xs.length+ys.length=N at *
 refine aU (fun(s:Nat×List Nat) ρ H=>s.1≤xs.length∧H=[.row 0 (s.2.map uV) 1 true]∧s.2.length=N∧(∀d∈s.2,d<4294967296)∧val 4294967296 (s.2.take (s.1+ys.length))=val 4294967296 (xs.take s.1)*b ∧
  ρ 0=BG xs∧ρ 1=BG ys∧ρ 5 = .ref 0 0 0 N N∧ρ 17=BG xs∧ρ 18=VI xs.length∧ρ 19=VI s.1) (fun s=>xs.length-s.1) (0,List.replicate N 0) ⟨Nat.zero_le _,rfl,by simp,A0 (by decide) _,by simp[val,List.take_replicate,rQ],rfl,rfl,rfl,rfl,rfl,rfl⟩ ?_
 rintro⟨i,outs⟩ ρ H ⟨hi,rfl,jK,lM,hv,g0,g1,g5,g17,g18,g19⟩
 simp only at hi jK lM hv g19
 by_cases cS:(i:Int)<(xs.length:Int)
 ·obtain⟨x,hx⟩:∃x,xs[i]? = some x:=⟨_,List.getElem?_eq_getElem (by omega)⟩
  have lx:=la x (List.mem_of_getElem? hx)
  have e1:=aJ (f:=uV) (t := .op) (H:=[.row 0 (outs.map uV) 1 true]) (size:=1) (k := .i64) hx rfl
  simp only[tL,g0,g1,g5,g17,g18,g19,cS,e1,VX,Nat.reduceEqDiff,Nat.reduceAdd]
  refine aU (fun(s:Nat×List Nat×Nat) ρ H=>s.1≤ys.length∧H=[.row 0 (s.2.1.map uV) 1 true]∧s.2.1.length=N∧(∀d∈s.2.1,d<4294967296)∧s.2.2<4294967296 ∧
   val 4294967296 (s.2.1.take (i+s.1))+4294967296^(i+s.1)*s.2.2=val 4294967296 (outs.take (i+s.1))+4294967296^i*(x*val 4294967296 (ys.take s.1))∧(∀j,i+s.1≤j→s.2.1[j]? = outs[j]?) ∧
   ρ 0=BG xs∧ρ 1=BG ys∧ρ 5 = .ref 0 0 0 N N∧ρ 6=VI i∧ρ 7=uV x∧ρ 8=VK .u64 s.2.2∧ρ 17=BG xs∧ρ 18=VI xs.length∧ρ 19=VI i∧ρ 24=BG ys∧ρ 25=VI ys.length∧ρ 26=VI s.1) (fun s=>ys.length-s.1) (0,outs,0) ⟨Nat.zero_le _,rfl,jK,lM,by simp,by simp[val],fun _ _=>rfl,by (repeat' apply And.intro)<;>first | rfl | trivial⟩ ?_
  rintro⟨k,os,c⟩ PX H ⟨hk,rfl,Qe,QU,hc,N2,GJ,k0,k1,k5,k6,k7,k8,I4,ZU,k19,k24,k25,k26⟩
  simp only at hk Qe QU hc N2 GJ k8 k26
  have wi:IntKind.i64.wrap ((i:Int)+1)=((i+1:Nat):Int):=wrapN (i+1) (by omega) (by omega)
  by_cases hkn:(k:Int)<(ys.length:Int)
  ·obtain⟨y,hy⟩:∃y,ys[k]? = some y:=⟨_,List.getElem?_eq_getElem (by omega)⟩
   have ly:=lb y (List.mem_of_getElem? hy)
   obtain⟨o,ho⟩:∃o,os[i+k]? = some o:=⟨_,List.getElem?_eq_getElem (by omega)⟩
   have lo:=QU o (List.mem_of_getElem? ho)
   have Z7:outs[i+k]? = some o:=by rw[←GJ (i+k) (Nat.le_refl _)];exact ho
   have f1:=aJ (f:=uV) (t := .op) (H:=[.row 0 (os.map uV) 1 true]) (size:=1) (k := .i64) hy rfl
   have w1:IntKind.i64.wrap ((i:Int)+(k:Int))=((i+k:Nat):Int):=wrapN _ (by omega) (by omega)
   have f2:bQ 1 (.ref 0 0 0 N N) (VI ((i+k:Nat):Int)) [.row 0 (os.map uV) 1 true]=some (.ptr 0 0 (i+k) 0):=by rw[bD jL (by omega),Nat.zero_add]
   have f3:bX false 1 (.ptr 0 0 (i+k) 0) [.row 0 (os.map uV) 1 true]=some (uV o):=iT jL ho
   have f4:∀s:Nat,bI 0 1 (.ptr 0 0 (i+k) 0) (uV s) [.row 0 (os.map uV) 1 true]=some [.row 0 ((os.set (i+k) s).map uV) 1 true]:=fun s=>Qo (by omega)
   have A8:x*y≤4294967295*4294967295:=Nat.mul_le_mul (by omega) (by omega)
   have w2:IntKind.u64.wrap (x:Int)=(x:Int):=eE _ (by omega)
   have w3:IntKind.u64.wrap (y:Int)=(y:Int):=eE _ (by omega)
   have w4:IntKind.u64.wrap (o:Int)=(o:Int):=eE _ (by omega)
   have w5:IntKind.u64.wrap ((x:Int)*(y:Int))=((x*y:Nat):Int):=by rw[←Int.natCast_mul];exact eE _ (by omega)
   have w6:IntKind.u64.wrap (((x*y:Nat):Int)+(o:Int))=((x*y+o:Nat):Int):=by rw[←Int.natCast_add];exact eE _ (by omega)
   have w7:IntKind.u64.wrap ((c:Int)+((x*y+o:Nat):Int))=((c+(x*y+o):Nat):Int):=by rw[←Int.natCast_add];exact eE _ (by omega)
   have wk:IntKind.i64.wrap ((k:Int)+1)=((k+1:Nat):Int):=wrapN (k+1) (by omega) (by omega)
   simp only[tS,k0,k1,k5,k6,k7,k8,I4,ZU,k19,k24,k25,k26,hkn,f1,f2,f3,f4,w1,w2,w3,w4,w5,w6,w7,wk,wrap32,oF,VX,Nat.reduceEqDiff,Nat.reduceAdd]
   have hq:(c+(x*y+o)) / 4294967296<4294967296:=Nat.div_lt_of_lt_mul (by omega)
   refine⟨(k+1,os.set (i+k) ((c+(x*y+o)) % 4294967296),(c+(x*y+o)) / 4294967296),by simp only;omega,by omega,rfl,by rw[List.length_set];exact Qe,lZ QU (Nat.mod_lt _ (by decide)),hq,?_,fun j hj => ?_,by (repeat' apply And.intro)<;>first | rfl | trivial⟩
   ·have h1:=Nat.mod_add_div (c+(x*y+o)) 4294967296
    rw[←Nat.add_assoc,eT (by omega),bE Z7,bE hy,Nat.pow_succ]
    rw[Nat.pow_add] at N2 ⊢
    exact S7 N2 h1
   ·rw[List.getElem?_set_ne (by omega)]
    exact GJ j (by omega)
  ·have hke:k=ys.length:=by omega
   subst hke
   rw[List.take_length,vb,hv] at N2
   have w1:IntKind.i64.wrap ((i:Int)+(ys.length:Int))=((i+ys.length:Nat):Int):=wrapN _ (by omega) (by omega)
   have f2:bQ 1 (.ref 0 0 0 N N) (VI ((i+ys.length:Nat):Int)) [.row 0 (os.map uV) 1 true]=some (.ptr 0 0 (i+ys.length) 0):=by rw[bD jL (by omega),Nat.zero_add]
   have f4:∀s:Nat,bI 0 1 (.ptr 0 0 (i+ys.length) 0) (uV s) [.row 0 (os.map uV) 1 true]=some [.row 0 ((os.set (i+ys.length) s).map uV) 1 true]:=fun s=>Qo (by omega)
   simp only[tS,k0,k1,k5,k6,k7,k8,I4,ZU,k19,k24,k25,k26,hkn,f2,f4,w1,wi,wrap32,VX,Nat.reduceEqDiff,Nat.reduceAdd]
   refine⟨(i+1,os.set (i+ys.length) (c % 4294967296)),by simp only;omega,by omega,rfl,by rw[List.length_set];exact Qe,lZ QU (Nat.mod_lt _ (by decide)),?_,by (repeat' apply And.intro)<;>first | rfl | trivial⟩
   rw[show i+1+ys.length=i+ys.length+1 by omega,eT (by omega),Nat.mod_eq_of_lt hc,N2,bE hx,Nat.add_mul,Nat.mul_assoc]
 ·have mT:i=xs.length:=by omega
  subst mT
  rw[hN,List.take_length,va,List.take_of_length_le (by omega)] at hv
  simp only[tL,g0,g1,g5,g17,g18,g19,cS,VX,Nat.reduceEqDiff,Nat.reduceAdd]
  refine sF (m:=a*b) jL (by omega) (Nat.le_refl _) (by omega) (fun d hd=>lM d (List.mem_of_mem_take hd)) (by rw[List.take_of_length_le (by omega)];exact hv) fun k hk he => ?_
  simp only[VX,Nat.reduceEqDiff,Nat.reduceAdd]
  exact QY jL (by omega) hk he
end Go.PM
namespace Go.PM
theorem set_drop {xs:List Nat} {i d:Nat} (h:i<xs.length):(xs.set i d).drop i=d::xs.drop (i+1):=by
 rw[List.drop_eq_getElem_cons (by rw[List.length_set];exact h),List.getElem_set_self,Oz h]
theorem W4 (n k:Nat) (hn:n≤70368744177664) {H:aA}:Bs [.int .u32 0] 4 (VI (n:Int)) (VI (n:Int)) H=some (.ref H.length 0 0 n n,H++[.row 0 ((List.replicate n 0).map uV) 1 true]):=sD (f:=uV) (x:=0) rfl (by omega) (by omega)
theorem TR {A q t r x d W:Nat} (h1:t+d*q=r*W+x):(q+W*A)*d+t=x+W*(A*d+r):=by grind
theorem UC {A B P S W c m x q:Nat} (hv:A+P*c=B*S) (h1:m*S+W*q=x*S):A+P*(c+m*S)+P*W*q=(B+P*x)*S:=by
 have h2:P*(m*S+W*q)=P*(x*S):=by rw[h1]
 grind
theorem wU (a d:Nat) (DZ:0<d) (hdW:d<4294967296) (ha:(aC 4294967296 a).length≤17592186044416):TC 197 [bS a,uV d] (.dR [bS (a / d),uV (a % d)]):=by
 refine TC.walk ⟨true,false⟩ Dp rfl (Nat.le_of_ble_eq_true rfl) (by simp[aP,cB,aY,lF]) (by simp[hC,qD,qX,lF]) ?_
 have va:=cM (b:=4294967296) (by decide) a
 have la:=fL (b:=4294967296) (by decide) a
 unfold bS
 generalize aC 4294967296 a=xs at *
 have w0:IntKind.i64.wrap ((xs.length:Int)-1)=(xs.length:Int)-1:=wrap64 (by omega) (by omega)
 have wd:IntKind.u64.wrap (d:Int)=(d:Int):=eE _ (by omega)
 simp only[xC,uF,w0,Vt xs.length (by omega),VX,Nat.reduceEqDiff,Nat.reduceAdd]
 refine aU (fun(s:Nat×List Nat×Nat) ρ H=>s.1≤xs.length∧H=[.row 0 (s.2.1.map uV) 1 true]∧s.2.1.length=xs.length∧(∀d∈s.2.1,d<4294967296)∧s.2.2<d∧val 4294967296 (s.2.1.drop s.1)*d+s.2.2=val 4294967296 (xs.drop s.1) ∧
  ρ 0=BG xs∧ρ 1=uV d∧ρ 6 = .ref 0 0 0 xs.length xs.length∧ρ 7=VK .u64 s.2.2∧ρ 8=VI ((s.1:Int)-1)) (fun s=>s.1) (xs.length,List.replicate xs.length 0,0) ⟨Nat.le_refl _,rfl,by simp,A0 (by decide) _,DZ,by simp[val,List.drop_replicate],rfl,rfl,rfl,rfl,rfl⟩ ?_
 rintro⟨j,outs,r⟩ ρ H ⟨hj,rfl,jK,lM,hr,hv,g0,g1,g6,g7,g8⟩
 simp only at hj jK lM hr hv g7 g8
 by_cases hz:(0:Int)≤(j:Int)-1
 ·obtain⟨i,rfl⟩:∃i,j=i+1:=⟨j-1,by omega⟩
  obtain⟨x,hx⟩:∃x,xs[i]? = some x:=⟨_,List.getElem?_eq_getElem (by omega)⟩
  have lx:=la x (List.mem_of_getElem? hx)
  have GI:((i+1:Nat):Int)-1=(i:Int):=by omega
  rw[GI] at g8 hz
  have e1:=aJ (f:=uV) (t := .op) (H:=[.row 0 (outs.map uV) 1 true]) (size:=1) (k := .i64) hx rfl
  have e3:bQ 1 (.ref 0 0 0 xs.length xs.length) (VI i) [.row 0 (outs.map uV) 1 true]=some (.ptr 0 0 i 0):=by rw[bD jL (by omega),Nat.zero_add]
  have e4:∀s:Nat,bI 0 1 (.ptr 0 0 i 0) (uV s) [.row 0 (outs.map uV) 1 true]=some [.row 0 ((outs.set i s).map uV) 1 true]:=fun s=>Qo (by omega)
  have w2:IntKind.i64.wrap ((i:Int)-1)=(i:Int)-1:=wrap64 (by omega) (by omega)
  have w3:IntKind.u64.wrap (x:Int)=(x:Int):=eE _ (by omega)
  have w4:IntKind.u64.wrap (((r*4294967296:Nat):Int)+(x:Int))=((r*4294967296+x:Nat):Int):=by rw[←Int.natCast_add];exact eE _ (by omega)
  have w5:=Ew r .u64 (by omega)
  have q1:=Xv (r*4294967296+x) d (by omega) DZ
  have q2:=QA (r*4294967296+x) d DZ
  have hq:(r*4294967296+x) / d<4294967296:=by
   rw[Nat.div_lt_iff_lt_mul DZ]
   have:(r+1)*4294967296≤d*4294967296:=Nat.mul_le_mul_right _ hr
   rw[Nat.mul_comm 4294967296 d]
   omega
  simp only[mZ,g0,g1,g6,g7,g8,hz,e1,e3,e4,w2,w3,w4,w5,wd,q1,q2,wrap32,Nat.mod_eq_of_lt hq,VX,Nat.reduceEqDiff,Nat.reduceAdd]
  refine⟨(i,outs.set i ((r*4294967296+x) / d),(r*4294967296+x) % d),by simp only;omega,by omega,rfl,by rw[List.length_set];exact jK,lZ lM hq,Nat.mod_lt _ DZ,?_,by (repeat' apply And.intro)<;>first | rfl | trivial⟩
  have h1:=Nat.mod_add_div (r*4294967296+x) d
  rw[set_drop (by omega),sX,tB hx,←hv]
  exact TR h1
 ·have Wh:j=0:=by omega
  subst Wh
  rw[List.drop_zero,List.drop_zero,va] at hv
  have h1:a / d=val 4294967296 outs:=by
   rw[←hv,Nat.mul_comm,Nat.mul_add_div DZ,Nat.div_eq_of_lt hr,Nat.add_zero]
  have h2:a % d=r:=by
   rw[←hv,Nat.mul_comm,Nat.mul_add_mod,Nat.mod_eq_of_lt hr]
  simp only[mZ,g0,g1,g6,g7,g8,hz,VX,Nat.reduceEqDiff,Nat.reduceAdd]
  refine sF (m:=a / d) jL (by omega) (Nat.le_refl _) (by omega) (fun d hd=>lM d (List.mem_of_mem_take hd)) (by rw[List.take_of_length_le (by omega)];exact h1.symm) fun k hk he => ?_
  simp only[wrap32,Nat.mod_eq_of_lt (show r<4294967296 by omega),g7,VX,Nat.reduceEqDiff,Nat.reduceAdd]
  rw[h2]
  exact bZ (d:=6) (Ld (d:=5) jL (by omega) hk he) (aM rfl)
theorem GU {n g e:Nat} {es:List VV} {w:Bool}:aF (List.replicate n bT.dead++[.row g es e w]) n g=some (es,e,w):=by rw[vL];exact aQ
theorem ayO {n:Nat} (xs:List Nat):nY n (xs.map uV)=true:=by
 rw[D1]
 intro x hx
 obtain⟨y,_,rfl⟩:=List.mem_map.1 hx
 rfl
theorem zZ (a s:Nat) (hs:s≤31) (ha:(aC 4294967296 a).length≤17592186044416):FC 199 [bS a,VI s] fun n r L=>∃outs:List Nat,r = .ref n 0 0 ((aC 4294967296 a).length+1) ((aC 4294967296 a).length+1)∧L=[.row 0 (outs.map uV) 1 true]∧outs.length=(aC 4294967296 a).length+1∧(∀d∈outs,d<4294967296)∧val 4294967296 outs=a*2^s∧(∀d,outs[(aC 4294967296 a).length]? = some d→d<2^s):=by
 refine FC.walk ⟨true,false⟩ DC (Nat.le_of_ble_eq_true rfl) fun n => ?_
 have va:=cM (b:=4294967296) (by decide) a
 have la:=fL (b:=4294967296) (by decide) a
 unfold bS
 generalize aC 4294967296 a=xs at *
 have hS:0<2^s:=Nat.pow_pos (by decide)
 have hSW:2^s*2^(32-s)=4294967296:=by rw[←Nat.pow_add,show s+(32-s)=32 by omega]
 have w0:IntKind.i64.wrap ((xs.length:Int)+1)=((xs.length+1:Nat):Int):=wrapN _ (by omega) (by omega)
 simp only[yZ,vU,w0,W4 (xs.length+1) n (by omega),List.length_replicate,VX,Nat.reduceEqDiff,Nat.reduceAdd]
 refine aU (fun(t:Nat×List Nat×Nat) ρ H=>t.1≤xs.length∧H=List.replicate n .dead++[.row 0 (t.2.1.map uV) 1 true]∧t.2.1.length=xs.length+1∧(∀d∈t.2.1,d<4294967296)∧t.2.1[t.1]? = some t.2.2∧t.2.2<2^s∧val 4294967296 (t.2.1.take t.1)+4294967296^t.1*t.2.2=val 4294967296 (xs.take t.1)*2^s ∧
  ρ 1=VI s∧ρ 5 = .ref n 0 0 (xs.length+1) (xs.length+1)∧ρ 13=BG xs∧ρ 14=VI xs.length∧ρ 15=VI t.1) (fun t=>xs.length-t.1) (0,List.replicate (xs.length+1) 0,0) ⟨Nat.zero_le _,rfl,by simp,A0 (by decide) _,by simp,hS,by simp[val],rfl,rfl,rfl,rfl,rfl⟩ ?_
 rintro⟨i,outs,c⟩ ρ H ⟨hi,rfl,jK,lM,hoc,hc,hv,g1,g5,g13,g14,g15⟩
 simp only at hi jK lM hoc hc hv g15
 by_cases cS:(i:Int)<(xs.length:Int)
 ·obtain⟨x,hx⟩:∃x,xs[i]? = some x:=⟨_,List.getElem?_eq_getElem (by omega)⟩
  have lx:=la x (List.mem_of_getElem? hx)
  have e1:=aJ (f:=uV) (t := .op) (H:=List.replicate n .dead++[.row 0 (outs.map uV) 1 true]) (size:=1) (k := .i64) hx rfl
  have wx:IntKind.u64.wrap (x:Int)=(x:Int):=eE _ (by omega)
  have wi:IntKind.i64.wrap ((i:Int)+1)=((i+1:Nat):Int):=wrapN (i+1) (by omega) (by omega)
  have w5:=aoB x s lx hs
  obtain⟨m,hm⟩:∃m,(x*2^s) % 4294967296=m*2^s:=by
   refine⟨x % 2^(32-s),?_⟩
   rw[←hSW,Nat.mul_comm x,Nat.mul_mod_mul_left,Nat.mul_comm]
  have hhi:(x*2^s) / 4294967296<2^s:=by
   rw[Nat.div_lt_iff_lt_mul (by decide),Nat.mul_comm (2^s)]
   exact Nat.mul_lt_mul_of_pos_right lx hS
  have bH:(x*2^s) % 4294967296<4294967296:=Nat.mod_lt _ (by decide)
  have hmm:m<2^(32-s):=by
   have:m*2^s<2^(32-s)*2^s:=by rw[←hm,Nat.mul_comm (2^(32-s)) (2^s),hSW];exact bH
   exact Nat.lt_of_mul_lt_mul_right this
  have anX:m*2^s+c<4294967296:=by
   have:(m+1)*2^s≤2^(32-s)*2^s:=Nat.mul_le_mul_right _ hmm
   rw[Nat.mul_comm (2^(32-s)),hSW,Nat.add_mul] at this
   omega
  have or1:=anC c m s hc anX
  have e3:bQ 1 (.ref n 0 0 (xs.length+1) (xs.length+1)) (VI i) (List.replicate n .dead++[.row 0 (outs.map uV) 1 true])=some (.ptr n 0 i 0):=by rw[bD GU (by omega),Nat.zero_add]
  have e4:bX false 1 (.ptr n 0 i 0) (List.replicate n .dead++[.row 0 (outs.map uV) 1 true])=some (uV c):=iT GU hoc
  have e5:∀(os:List Nat) (j t:Nat),j<os.length→bI n 1 (.ptr n 0 j 0) (uV t) (List.replicate n .dead++[.row 0 (os.map uV) 1 true])=some (List.replicate n .dead++[.row 0 ((os.set j t).map uV) 1 true]):=fun os j t hj=>by
   rw[fA (f:=uV) (e:=1) GU hj (Nat.le_refl _) rfl rfl,A7]
   rfl
  have e6:bQ 1 (.ref n 0 0 (xs.length+1) (xs.length+1)) (VI ((i+1:Nat):Int)) (List.replicate n .dead++[.row 0 ((outs.set i (c+m*2^s)).map uV) 1 true])=some (.ptr n 0 (i+1) 0):=by rw[bD GU (by omega),Nat.zero_add]
  have e7:=e5 outs i (c+m*2^s) (by omega)
  have e8:=e5 (outs.set i (c+m*2^s)) (i+1) ((x*2^s) / 4294967296) (by rw[List.length_set];omega)
  have hq:(x*2^s) / 4294967296 % 4294967296=(x*2^s) / 4294967296:=Nat.mod_eq_of_lt (by
   have:2^s≤2^31:=Nat.pow_le_pow_right (by decide) hs
   omega)
  simp only[nU,g1,g5,g13,g14,g15,cS,e1,e3,e4,e6,e7,e8,wx,wi,w5,wrap32,oF,hm,or1,hq,VX,Nat.reduceEqDiff,Nat.reduceAdd]
  refine⟨(i+1,(outs.set i (c+m*2^s)).set (i+1) ((x*2^s) / 4294967296),(x*2^s) / 4294967296),by simp only;omega,by omega,rfl,by rw[List.length_set,List.length_set];exact jK,
   lZ (lZ lM (by omega)) (by
    have:2^s≤2^31:=Nat.pow_le_pow_right (by decide) hs
    omega),by rw[List.getElem?_set_self (by rw[List.length_set];omega)],hhi,?_,by (repeat' apply And.intro)<;>first | rfl | trivial⟩
  rw[List.take_set_of_le (Nat.le_refl _),eT (by omega),bE hx,Nat.pow_succ]
  have h1:=Nat.mod_add_div (x*2^s) 4294967296
  rw[hm] at h1
  exact UC hv h1
 ·have mT:i=xs.length:=by omega
  subst mT
  rw[List.take_length,va] at hv
  have uU:val 4294967296 outs=a*2^s:=by
   have h1:=bE (b:=4294967296) hoc
   rw[List.take_of_length_le (by omega)] at h1
   rw[h1]
   exact hv
  simp only[nU,g1,g5,g13,g14,g15,cS,VX,Nat.reduceEqDiff,Nat.reduceAdd]
  exact⟨_,rfl,by simp[eG],by simp[dS,ayO outs],outs,rfl,jK,lM,uU,fun d hd=>by rw[hoc] at hd;injection hd with hd;omega⟩
end Go.PM
namespace Go.PM
theorem Q4 (n:Nat) (hn:n≤35184372088832):Bs [.int .i64 0] 8 (VI (n:Int)) (VI (n:Int)) []=some (.ref 0 0 0 n n,[.row 0 ((List.replicate n 0).map tV) 1 true]):=sD (f:=tV) (x:=0) rfl (by omega) (by omega)
theorem QO {outs:List Nat} {i d:Nat} (hi:i<outs.length):bI 0 1 (.ptr 0 0 i 0) (VI (d:Int)) [.row 0 (outs.map tV) 1 true]=some [.row 0 ((outs.set i d).map tV) 1 true]:=by
 rw[show VI (d:Int)=tV d from rfl,fA (f:=tV) (e:=1) Lf hi (Nat.le_refl _) rfl rfl]
 rfl
theorem NQ {b g:Nat} {rows:List Nat} {w:Bool} {H:aA} {j d:Nat} (hr:aF H b g=some (rows.map tV,1,w)) (hj:rows[j]? = some d):bX false 1 (.ptr b g j 0) H=some (VI (d:Int)):=pI hr hj
theorem adT {n i:Nat} {outs:List Nat} (h:i<n):bQ 1 (.ref 0 0 0 n n) (VI (i:Int)) [.row 0 (outs.map tV) 1 true]=some (.ptr 0 0 i 0):=by rw[bD Lf h,Nat.zero_add]
theorem wr {x:Int} (n:Nat) (h:x=n) (hn:n≤9223372036854775807):IntKind.i64.wrap x=(n:Int):=wrapN n h hn
theorem Ay (a b:Nat) (GH:b≤a) (ha:(aC 1000000000 a).length≤17592186044416):TC 156 [cE a,cE b] (cE (a-b)):=by
 refine TC.walk ⟨true,false⟩ HJ rfl (Nat.le_of_ble_eq_true rfl) (by simp[aP,cL]) (nI _) ?_
 have hle:=eI (b:=1000000000) (by decide) GH
 simp only[C6,AE,LD,cN,VX,Nat.reduceEqDiff,Nat.reduceAdd]
 refine aU (fun(s:Nat×List Nat×Nat) ρ H=>s.1=s.2.1.length∧s.1≤(aC 1000000000 a).length∧H=[.row s.2.1.length (s.2.1.map tV) 1 true]∧(∀d∈s.2.1,d<1000000000)∧s.2.2≤1∧val 1000000000 ((aC 1000000000 a).take s.1)+1000000000^s.1*s.2.2=val 1000000000 s.2.1+val 1000000000 ((aC 1000000000 b).take s.1) ∧
  ρ 0=cE a∧ρ 1=cE b∧ρ 5 = .ref 0 s.2.1.length 0 s.2.1.length s.2.1.length∧ρ 6=VI s.2.2∧ρ 11=VI (aC 1000000000 a).length∧ρ 12=VI s.1) (fun s=>(aC 1000000000 a).length-s.1) (0,[],0) ⟨rfl,Nat.zero_le _,rfl,by simp,by simp,by simp[val],rfl,rfl,rfl,rfl,rfl,rfl⟩ ?_
 rintro⟨i,outs,l⟩ ρ H ⟨hi,KZ,rfl,lM,hc,hv,g0,g1,g5,g6,g11,g12⟩
 simp only at hi KZ lM hc hv g5 g6 g12
 by_cases cS:(i:Int)<((aC 1000000000 a).length:Int)
 ·have hx:=Ml (b:=1000000000) (by decide) (n:=a) (i:=i) (by omega)
  have e1:bQ 1 (cE a) (VI i) [.row outs.length (outs.map tV) 1 true]=some (.cT (tV (a / 1000000000^i % 1000000000)) 0):=aJ (f:=tV) (t := .op) (size:=1) (k := .i64) hx rfl
  have c2:=D4 b i
  have t1:=Fp (b:=1000000000) (aC 1000000000 a) i
  have t2:=Fp (b:=1000000000) (aC 1000000000 b) i
  rw[Ix (by decide)] at t1 t2
  have lx:=Nat.mod_lt (a / 1000000000^i) (show 0<1000000000 by decide)
  have ly:=Nat.mod_lt (b / 1000000000^i) (show 0<1000000000 by decide)
  generalize a / 1000000000^i % 1000000000=x at *
  generalize b / 1000000000^i % 1000000000=y at *
  have wi:IntKind.i64.wrap ((i:Int)+1)=((i+1:Nat):Int):=wrapN (i+1) (by omega) (by omega)
  have w1:IntKind.i64.wrap ((x:Int)-(y:Int))=(x:Int)-(y:Int):=wrap64 (by omega) (by omega)
  have w2:IntKind.i64.wrap ((x:Int)-(y:Int)-(l:Int))=(x:Int)-(y:Int)-(l:Int):=wrap64 (by omega) (by omega)
  have step:∀r l':Nat,r<1000000000→l'≤1→r+y+l=x+1000000000*l'→(∀d∈outs++[r],d<1000000000)∧val 1000000000 ((aC 1000000000 a).take (i+1))+1000000000^(i+1)*l'=val 1000000000 (outs++[r])+val 1000000000 ((aC 1000000000 b).take (i+1)):=by
   intro r l' hr _ hd
   refine⟨fun d h => ?_,?_⟩
   ·rcases List.mem_append.1 h with h | h
    ·exact lM d h
    ·rw[List.mem_singleton.1 h];exact hr
   ·rw[t1,t2,sI,←hi,Nat.pow_succ]
    exact JG hv hd
  by_cases mX:(x:Int)-(y:Int)-(l:Int)<0
  ·obtain⟨r,hr⟩:∃r:Nat,r+y+l=x+1000000000:=⟨x+1000000000-l-y,by omega⟩
   have w3:IntKind.i64.wrap ((x:Int)-(y:Int)-(l:Int)+1000000000)=(r:Int):=wrapN r (by omega) (by omega)
   obtain⟨s1,s2⟩:=step r 1 (by omega) (Nat.le_refl _) (by omega)
   have a1:=akN (ds:=outs) (d:=r) (by omega)
   simp only[mM,g0,g1,g5,g6,g11,g12,cS,e1,c2,w1,w2,w3,wi,mX,sR,vQ,a1,VX,Nat.reduceEqDiff,Nat.reduceAdd]
   refine⟨(i+1,outs++[r],1),by simp only;omega,by simp;omega,by simp only;omega,by simp,s1,Nat.le_refl _,s2,?_⟩
   simp only[List.length_append,List.length_singleton]
   try (repeat' apply And.intro)<;>first | rfl | trivial
  ·obtain⟨r,hr⟩:∃r:Nat,r+y+l=x:=⟨x-l-y,by omega⟩
   obtain⟨s1,s2⟩:=step r 0 (by omega) (by omega) (by omega)
   have er:(x:Int)-(y:Int)-(l:Int)=(r:Int):=by omega
   have a1:=akN (ds:=outs) (d:=r) (by omega)
   have w3:IntKind.i64.wrap ((x:Int)-(y:Int)-(l:Int))=(r:Int):=wrapN r er (by omega)
   have qQ:¬(r:Int)<0:=by omega
   simp only[mM,g0,g1,g5,g6,g11,g12,cS,e1,c2,w1,w3,wi,qQ,sR,vQ,a1,VX,Nat.reduceEqDiff,Nat.reduceAdd]
   refine⟨(i+1,outs++[r],0),by simp only;omega,by simp;omega,by simp only;omega,by simp,s1,Nat.zero_le _,s2,?_⟩
   simp only[List.length_append,List.length_singleton]
   try (repeat' apply And.intro)<;>first | rfl | trivial
 ·have mT:i=(aC 1000000000 a).length:=by omega
  rw[mT,List.take_length,List.take_of_length_le (l:=aC 1000000000 b) hle,cM (by decide),cM (by decide)] at hv
  have dP:=oW lM
  rw[←hi,mT] at dP
  have uU:val 1000000000 outs=a-b:=by
   rcases Nat.lt_or_ge l 1 with h | h
   ·have:l=0:=by omega
    subst this
    rw[Nat.mul_zero] at hv
    omega
   ·have:l=1:=by omega
    subst this
    rw[Nat.mul_one] at hv
    omega
  simp only[mM,g0,g1,g5,g6,g11,g12,cS,VX,Nat.reduceEqDiff,Nat.reduceAdd]
  refine IS lM rfl (by omega) uU ?_
  simp only[VX,Nat.reduceEqDiff,Nat.reduceAdd]
  exact Tk _
theorem gZ (a b:Nat) (ha:(aC 1000000000 a).length≤17592186044416) (hb:(aC 1000000000 b).length≤17592186044416):TC 152 [cE a,cE b] (cE (a*b)):=by
 refine TC.walk ⟨true,false⟩ Jo rfl (Nat.le_of_ble_eq_true rfl) (by simp[aP,cL]) (nI _) ?_
 have va:=cM (b:=1000000000) (by decide) a
 have vb:=cM (b:=1000000000) (by decide) b
 have la:=fL (b:=1000000000) (by decide) a
 have lb:=fL (b:=1000000000) (by decide) b
 unfold cE
 generalize aC 1000000000 a=xs at *
 generalize aC 1000000000 b=ys at *
 have w0:IntKind.i64.wrap ((xs.length:Int)+(ys.length:Int))=((xs.length+ys.length:Nat):Int):=wrapN _ (by omega) (by omega)
 simp only[DR,BN,dY,w0,Q4 (xs.length+ys.length) (by omega),VX,Nat.reduceEqDiff,Nat.reduceAdd]
 generalize hN:xs.length+ys.length=N at *
 refine aU (fun(s:Nat×List Nat) ρ H=>s.1≤xs.length∧H=[.row 0 (s.2.map tV) 1 true]∧s.2.length=N∧(∀d∈s.2,d<1000000000)∧val 1000000000 (s.2.take (s.1+ys.length))=val 1000000000 (xs.take s.1)*b∧(∀j,s.1+ys.length≤j→j<N→s.2[j]? = some 0) ∧
  ρ 0=iG xs∧ρ 1=iG ys∧ρ 5 = .ref 0 0 0 N N∧ρ 17=VI xs.length∧ρ 18=VI s.1) (fun s=>xs.length-s.1) (0,List.replicate N 0) ⟨Nat.zero_le _,rfl,by simp,A0 (by decide) _,by simp[val,List.take_replicate,rQ],fun j _ h=>by simp[List.getElem?_replicate,h],rfl,rfl,rfl,rfl,rfl⟩ ?_
 rintro⟨i,outs⟩ ρ H ⟨hi,rfl,jK,lM,hv,hzr,g0,g1,g5,g17,g18⟩
 simp only at hi jK lM hv hzr g18
 by_cases cS:(i:Int)<(xs.length:Int)
 ·obtain⟨x,hx⟩:∃x,xs[i]? = some x:=⟨_,List.getElem?_eq_getElem (by omega)⟩
  have lx:=la x (List.mem_of_getElem? hx)
  have e1:∀os:List Nat,bQ 1 (iG xs) (VI i) [.row 0 (os.map tV) 1 true]=some (.cT (tV x) 0):=fun os=>aJ (f:=tV) (t := .op) (size:=1) (k := .i64) hx rfl
  simp only[tY,g0,g1,g5,g17,g18,cS,dY,VX,Nat.reduceEqDiff,Nat.reduceAdd]
  refine aU (fun(s:Nat×List Nat×Nat) ρ H=>s.1≤ys.length∧H=[.row 0 (s.2.1.map tV) 1 true]∧s.2.1.length=N∧(∀d∈s.2.1,d<1000000000)∧s.2.2<1000000000 ∧
   val 1000000000 (s.2.1.take (i+s.1))+1000000000^(i+s.1)*s.2.2=val 1000000000 (outs.take (i+s.1))+1000000000^i*(x*val 1000000000 (ys.take s.1))∧(∀j,i+s.1≤j→s.2.1[j]? = outs[j]?) ∧
   ρ 0=iG xs∧ρ 1=iG ys∧ρ 5 = .ref 0 0 0 N N∧ρ 6=VI i∧ρ 7=VI s.2.2∧ρ 17=VI xs.length∧ρ 18=VI i∧ρ 22=VI ys.length∧ρ 23=VI s.1) (fun s=>ys.length-s.1) (0,outs,0) ⟨Nat.zero_le _,rfl,jK,lM,by simp,by simp[val],fun _ _=>rfl,by (repeat' apply And.intro)<;>first | rfl | trivial⟩ ?_
  rintro⟨k,os,c⟩ PX H ⟨hk,rfl,Qe,QU,hc,N2,GJ,k0,k1,k5,k6,k7,I4,ZU,k22,k23⟩
  simp only at hk Qe QU hc N2 GJ k7 k23
  have wi:IntKind.i64.wrap ((i:Int)+1)=((i+1:Nat):Int):=wrapN (i+1) (by omega) (by omega)
  by_cases hkn:(k:Int)<(ys.length:Int)
  ·obtain⟨y,hy⟩:∃y,ys[k]? = some y:=⟨_,List.getElem?_eq_getElem (by omega)⟩
   have ly:=lb y (List.mem_of_getElem? hy)
   obtain⟨o,ho⟩:∃o,os[i+k]? = some o:=⟨_,List.getElem?_eq_getElem (by omega)⟩
   have lo:=QU o (List.mem_of_getElem? ho)
   have Z7:outs[i+k]? = some o:=by rw[←GJ (i+k) (Nat.le_refl _)];exact ho
   have f1:bQ 1 (iG ys) (VI k) [.row 0 (os.map tV) 1 true]=some (.cT (tV y) 0):=aJ (f:=tV) (t := .op) (size:=1) (k := .i64) hy rfl
   have w1:IntKind.i64.wrap ((i:Int)+(k:Int))=((i+k:Nat):Int):=wrapN _ (by omega) (by omega)
   have f2:bQ 1 (.ref 0 0 0 N N) (VI ((i+k:Nat):Int)) [.row 0 (os.map tV) 1 true]=some (.ptr 0 0 (i+k) 0):=adT (by omega)
   have f3:bX false 1 (.ptr 0 0 (i+k) 0) [.row 0 (os.map tV) 1 true]=some (VI (o:Int)):=NQ Lf ho
   have f4:∀s:Nat,bI 0 1 (.ptr 0 0 (i+k) 0) (VI (s:Int)) [.row 0 (os.map tV) 1 true]=some [.row 0 ((os.set (i+k) s).map tV) 1 true]:=fun s=>QO (by omega)
   have A8:x*y≤999999999*999999999:=Nat.mul_le_mul (by omega) (by omega)
   have w5:IntKind.i64.wrap ((x:Int)*(y:Int))=((x*y:Nat):Int):=wrapN _ (by simp) (by omega)
   have w6:IntKind.i64.wrap ((o:Int)+((x*y:Nat):Int))=((o+x*y:Nat):Int):=wrapN _ (by omega) (by omega)
   have w7:IntKind.i64.wrap (((o+x*y:Nat):Int)+(c:Int))=((o+x*y+c:Nat):Int):=wrapN _ (by omega) (by omega)
   have wk:IntKind.i64.wrap ((k:Int)+1)=((k+1:Nat):Int):=wrapN (k+1) (by omega) (by omega)
   have r1:=O7 (o+x*y+c)
   have q1:=PU (o+x*y+c) (by omega)
   simp only[tR,k0,k1,k5,k6,k7,I4,ZU,k22,k23,hkn,e1,f1,f2,f3,f4,w1,w5,w6,w7,wk,r1,q1,VX,Nat.reduceEqDiff,Nat.reduceAdd]
   have hq:(o+x*y+c) / 1000000000<1000000000:=Nat.div_lt_of_lt_mul (by omega)
   refine⟨(k+1,os.set (i+k) ((o+x*y+c) % 1000000000),(o+x*y+c) / 1000000000),by simp only;omega,by omega,rfl,by rw[List.length_set];exact Qe,lZ QU (Nat.mod_lt _ (by decide)),hq,?_,fun j hj => ?_,by (repeat' apply And.intro)<;>first | rfl | trivial⟩
   ·have h1:=Nat.mod_add_div (o+x*y+c) 1000000000
    rw[show o+x*y+c=c+(x*y+o) by omega] at h1 ⊢
    rw[←Nat.add_assoc,eT (by omega),bE Z7,bE hy,Nat.pow_succ]
    rw[Nat.pow_add] at N2 ⊢
    exact S7 N2 h1
   ·rw[List.getElem?_set_ne (by omega)]
    exact GJ j (by omega)
  ·have hke:k=ys.length:=by omega
   subst hke
   rw[List.take_length,vb,hv] at N2
   have w1:IntKind.i64.wrap ((i:Int)+(ys.length:Int))=((i+ys.length:Nat):Int):=wrapN _ (by omega) (by omega)
   have E7:os[i+ys.length]? = some 0:=by rw[GJ _ (Nat.le_refl _)];exact hzr _ (Nat.le_refl _) (by omega)
   have f2:bQ 1 (.ref 0 0 0 N N) (VI ((i+ys.length:Nat):Int)) [.row 0 (os.map tV) 1 true]=some (.ptr 0 0 (i+ys.length) 0):=adT (by omega)
   have f3:bX false 1 (.ptr 0 0 (i+ys.length) 0) [.row 0 (os.map tV) 1 true]=some (VI ((0:Nat):Int)):=NQ Lf E7
   have f4:∀s:Nat,bI 0 1 (.ptr 0 0 (i+ys.length) 0) (VI (s:Int)) [.row 0 (os.map tV) 1 true]=some [.row 0 ((os.set (i+ys.length) s).map tV) 1 true]:=fun s=>QO (by omega)
   have w2:IntKind.i64.wrap (((0:Nat):Int)+(c:Int))=(c:Int):=wrapN _ (by omega) (by omega)
   simp only[tR,k0,k1,k5,k6,k7,I4,ZU,k22,k23,hkn,dY,f2,f3,f4,w1,w2,wi,VX,Nat.reduceEqDiff,Nat.reduceAdd]
   refine⟨(i+1,os.set (i+ys.length) c),by simp only;omega,by omega,rfl,by rw[List.length_set];exact Qe,lZ QU hc,?_,fun j hj ZZ => ?_,by (repeat' apply And.intro)<;>first | rfl | trivial⟩
   ·rw[show i+1+ys.length=i+ys.length+1 by omega,eT (by omega),N2,bE hx,Nat.add_mul,Nat.mul_assoc]
   ·rw[List.getElem?_set_ne (by omega),GJ j (by omega)]
    exact hzr j (by omega) ZZ
 ·have mT:i=xs.length:=by omega
  subst mT
  rw[hN,List.take_length,va,List.take_of_length_le (by omega)] at hv
  simp only[tY,g0,g1,g5,g17,g18,cS,VX,Nat.reduceEqDiff,Nat.reduceAdd]
  refine IS (m:=a*b) lM jK.symm (by omega) hv ?_
  simp only[VX,Nat.reduceEqDiff,Nat.reduceAdd]
  exact Tk _
theorem CI (a:Nat) (ha:(aC 1000000000 a).length≤17592186044416):TC 201 [cE a] (if (aC 1000000000 a).length≤2 then .dR [VI a,VB true] else .dR [VI 0,VB false]):=by
 refine TC.walk ⟨true,false⟩ KQ rfl (Nat.le_of_ble_eq_true rfl) (by simp[aP,cL]) (by split<;>rfl) ?_
 by_cases h2:(aC 1000000000 a).length≤2
 ·rw[if_pos h2]
  have h3:¬(2:Int)<((aC 1000000000 a).length:Int):=by omega
  have c0:TC 186 [cE a,VI 0] (VI ((a % 1000000000:Nat):Int)):=by have:=D4 a 0;rwa [Nat.pow_zero,Nat.div_one] at this
  have c1:TC 186 [cE a,VI 1] (VI ((a / 1000000000 % 1000000000:Nat):Int)):=by have:=D4 a 1;rwa [Nat.pow_one] at this
  have bH:=gR (b:=1000000000) (by decide) a
  have hp:1000000000^(aC 1000000000 a).length≤1000000000^2:=Nat.pow_le_pow_right (by decide) h2
  have hm:a / 1000000000<1000000000:=Nat.div_lt_of_lt_mul (by omega)
  rw[Nat.mod_eq_of_lt hm] at c1
  have hmd:=Nat.mod_add_div a 1000000000
  have w1:IntKind.i64.wrap (1000000000*((a / 1000000000:Nat):Int))=((1000000000*(a / 1000000000):Nat):Int):=wrapN _ (by omega) (by omega)
  have w2:IntKind.i64.wrap (((a % 1000000000:Nat):Int)+((1000000000*(a / 1000000000):Nat):Int))=(a:Int):=wrapN _ (by omega) (by omega)
  simp only[AU,wO,cN,h3,c0,c1,w1,w2,VX,Nat.reduceEqDiff,Nat.reduceAdd]
  exact aL rfl
 ·rw[if_neg h2]
  have h3:(2:Int)<((aC 1000000000 a).length:Int):=by omega
  simp only[AU,wO,cN,h3,VX,Nat.reduceEqDiff,Nat.reduceAdd]
  exact aL rfl
theorem abS {outs:List Nat} {n cap x:Nat} (hn:n=outs.length) (hc:n<cap):dW 0 1 8 (.ref 0 0 0 n cap) [VI (x:Int)] [.row 0 ((outs++List.replicate (cap-n) 0).map tV) 1 true]=some (.ref 0 0 0 (n+1) cap,[.row 0 (((outs++[x])++List.replicate (cap-(n+1)) 0).map tV) 1 true]):=by
 subst hn
 simp only[dW,aQ,List.length_map,List.length_append,List.length_replicate,List.length_cons,List.length_nil,Nat.zero_add]
 rw[if_pos ⟨by decide,by decide⟩,if_pos ⟨trivial,Nat.le_refl _,by omega⟩,if_pos (by omega),if_neg (by omega),if_pos (by omega)]
 congr 3
 have e:List.replicate (cap-outs.length) 0=(0:Nat)::List.replicate (cap-(outs.length+1)) 0:=by
  rw[show cap-outs.length=(cap-(outs.length+1))+1 by omega,List.replicate_succ]
 simp only[cZ,List.set_cons_zero,e,List.map_append,List.map_cons,List.length_cons,List.length_nil,List.map_nil]
 congr 1
 rw[List.take_left' (by simp),←List.drop_drop,List.drop_left' (by simp)]
 simp
theorem yL (a d:Nat) (DZ:0<d) (hd:d<1000000000) (ha:(aC 1000000000 a).length<17592186044416):TC 203 [cE a,VI (d:Int)] (cE (a*d)):=by
 refine TC.walk ⟨true,false⟩ Gw rfl (Nat.le_of_ble_eq_true rfl) (by simp[aP,cL];rfl) (nI _) ?_
 have w0:IntKind.i64.wrap (((aC 1000000000 a).length:Int)+1)=(((aC 1000000000 a).length+1:Nat):Int):=wrapN _ (by omega) (by omega)
 have mk:Bs [.int .i64 0] 8 (VI 0) (VI (((aC 1000000000 a).length+1:Nat):Int)) []=some (.ref 0 0 0 0 ((aC 1000000000 a).length+1),[.row 0 ((([]:List Nat)++List.replicate ((aC 1000000000 a).length+1-0) 0).map tV) 1 true]):=by
  simp only[Bs]
  rw[if_pos ⟨by omega,by omega,by omega,by omega⟩]
  simp
  rfl
 simp only[BW,yF,cN,w0,mk,VX,Nat.reduceEqDiff,Nat.reduceAdd]
 refine aU (fun(s:Nat×List Nat×Nat) ρ H=>s.1=s.2.1.length∧s.1≤(aC 1000000000 a).length∧H=[.row 0 ((s.2.1++List.replicate ((aC 1000000000 a).length+1-s.1) 0).map tV) 1 true]∧s.2.2<d∧aC 1000000000 (a*d)=s.2.1++aC 1000000000 (a / 1000000000^s.1*d+s.2.2) ∧
  ρ 1=VI d∧ρ 5 = .ref 0 0 0 s.1 ((aC 1000000000 a).length+1)∧ρ 6=VI s.2.2∧ρ 14=cE a∧ρ 15=VI (aC 1000000000 a).length∧ρ 16=VI s.1) (fun s=>(aC 1000000000 a).length-s.1) (0,[],0) ⟨rfl,Nat.zero_le _,rfl,DZ,by simp,rfl,rfl,rfl,rfl,rfl,rfl⟩ ?_
 rintro⟨i,outs,c⟩ ρ H ⟨hi,KZ,rfl,hc,hv,g1,g5,g6,g14,g15,g16⟩
 simp only at hi KZ hc hv g5 g6 g16
 by_cases cS:(i:Int)<((aC 1000000000 a).length:Int)
 ·have hx:=Ml (b:=1000000000) (by decide) (n:=a) (i:=i) (by omega)
  have hA:=(EU (b:=1000000000) (by decide) (n:=a) (i:=i)).1 (by omega)
  have e1:∀H,bQ 1 (cE a) (VI i) H=some (.cT (tV (a / 1000000000^i % 1000000000)) 0):=fun H=>aJ (f:=tV) (t := .op) (size:=1) (k := .i64) hx rfl
  have lx:=Nat.mod_lt (a / 1000000000^i) (show 0<1000000000 by decide)
  have fK:a / 1000000000^i*d+c≠0:=by
   have:=Nat.mul_ne_zero hA (show d≠0 by omega)
   omega
  rw[YF (by decide) fK,←sL] at hv
  generalize a / 1000000000^i % 1000000000=x at *
  have hxd:x*d≤999999999*999999999:=Nat.mul_le_mul (by omega) (by omega)
  have w1:IntKind.i64.wrap ((x:Int)*(d:Int))=((x*d:Nat):Int):=wrapN _ (by simp) (by omega)
  have w2:IntKind.i64.wrap (((x*d:Nat):Int)+(c:Int))=((x*d+c:Nat):Int):=wrapN _ (by omega) (by omega)
  have wi:IntKind.i64.wrap ((i:Int)+1)=((i+1:Nat):Int):=wrapN (i+1) (by omega) (by omega)
  have r1:=O7 (x*d+c)
  have q1:=PU (x*d+c) (by omega)
  have a1:=abS (outs:=outs) (n:=i) (cap:=(aC 1000000000 a).length+1) (x:=(x*d+c) % 1000000000) hi (by omega)
  have hq:(x*d+c) / 1000000000<d:=by
   rw[Nat.div_lt_iff_lt_mul (by decide)]
   have h1:x*d≤999999999*d:=Nat.mul_le_mul_right _ (by omega)
   omega
  simp only[lP,g1,g5,g6,g14,g15,g16,cS,e1,w1,w2,wi,r1,q1,sR,vQ,a1,VX,Nat.reduceEqDiff,Nat.reduceAdd]
  refine⟨(i+1,outs++[(x*d+c) % 1000000000],(x*d+c) / 1000000000),by simp only;omega,by simp;omega,by simp only;omega,rfl,hq,by rw[hv,List.append_assoc];rfl,?_⟩
  try (repeat' apply And.intro)<;>first | rfl | trivial
 ·have mT:i=(aC 1000000000 a).length:=by omega
  have hz:a / 1000000000^i=0:=by
   have:=mt (EU (b:=1000000000) (by decide) (n:=a) (i:=i)).2
   omega
  rw[hz,Nat.zero_mul,Nat.zero_add] at hv
  by_cases hcp:(0:Int)<(c:Int)
  ·rw[DA (b:=1000000000) (by decide) (show c≠0 by omega) (show c<1000000000 by omega)] at hv
   have a1:=abS (outs:=outs) (n:=i) (cap:=(aC 1000000000 a).length+1) (x:=c) hi (by omega)
   simp only[lP,g1,g5,g6,g14,g15,g16,cS,hcp,sR,vQ,a1,VX,Nat.reduceEqDiff,Nat.reduceAdd]
   rw[cE,hv]
   rw[Xq aQ (by simp;omega) (by omega) (fI fun _=>rfl)]
   rw[List.map_append,List.take_left' (by simp;omega)]
  ·have hc0:c=0:=by omega
   rw[hc0,cH,List.append_nil] at hv
   simp only[lP,g1,g5,g6,g14,g15,g16,cS,hcp,VX,Nat.reduceEqDiff,Nat.reduceAdd]
   rw[cE,hv]
   rw[Xq aQ (by simp;omega) (by omega) (fI fun _=>rfl)]
   rw[List.map_append,List.take_left' (by simp;omega)]
theorem Lh (a b:Nat) (ha:a≤9223372036854775807) (hb:0<b):dG .quo (.int .i64 (a:Int)) (.int .i64 (b:Int))=some (.int .i64 ((a / b:Nat):Int)):=by
 have h1:¬((b:Int)=0):=by omega
 have h2:(a:Int).tdiv (b:Int)=((a / b:Nat):Int):=by rw[Int.tdiv_eq_ediv_of_nonneg (by omega)];simp
 have h3:a / b≤a:=Nat.div_le_self _ _
 simp only[dG,if_true,h1,if_false,h2]
 generalize a / b=q at *
 rw[wrap64 (by omega) (by omega)]
theorem Mv (a b:Nat) (hb:0<b):dG .rem (.int .i64 (a:Int)) (.int .i64 (b:Int))=some (.int .i64 ((a % b:Nat):Int)):=by
 have h1:¬((b:Int)=0):=by omega
 have h2:(a:Int).tmod (b:Int)=((a % b:Nat):Int):=by rw[Int.tmod_eq_emod_of_nonneg (by omega)];simp
 simp only[dG,if_true,h1,if_false,h2]
theorem aeS {r d x:Nat} (hr:r<d) (hd:d<1000000000) (hx:x<1000000000):r*1000000000+x≤9223372036854775807:=by omega
theorem apG {r d x:Nat} (DZ:0<d) (hr:r<d) (hx:x<1000000000):(r*1000000000+x) / d<1000000000:=by
 rw[Nat.div_lt_iff_lt_mul DZ]
 omega
theorem zL (a d:Nat) (DZ:0<d) (hdT:d<1000000000) (ha:(aC 1000000000 a).length≤17592186044416):TC 202 [cE a,VI (d:Int)] (.dR [cE (a / d),VI ((a % d:Nat):Int)]):=by
 refine TC.walk ⟨true,false⟩ Gu rfl (Nat.le_of_ble_eq_true rfl) (by simp[aP,cL];rfl) (by simp[hC,qD,nI,lF]) ?_
 have va:=cM (b:=1000000000) (by decide) a
 have la:=fL (b:=1000000000) (by decide) a
 unfold cE
 generalize aC 1000000000 a=xs at *
 have w0:IntKind.i64.wrap ((xs.length:Int)-1)=(xs.length:Int)-1:=wrap64 (by omega) (by omega)
 simp only[BQ,yG,dY,w0,Q4 xs.length (by omega),VX,Nat.reduceEqDiff,Nat.reduceAdd]
 refine aU (fun(s:Nat×List Nat×Nat) ρ H=>s.1≤xs.length∧H=[.row 0 (s.2.1.map tV) 1 true]∧s.2.1.length=xs.length∧(∀d∈s.2.1,d<1000000000)∧s.2.2<d∧val 1000000000 (s.2.1.drop s.1)*d+s.2.2=val 1000000000 (xs.drop s.1) ∧
  ρ 0=iG xs∧ρ 1=VI d∧ρ 6 = .ref 0 0 0 xs.length xs.length∧ρ 7=VI s.2.2∧ρ 8=VI ((s.1:Int)-1)) (fun s=>s.1) (xs.length,List.replicate xs.length 0,0) ⟨Nat.le_refl _,rfl,by simp,A0 (by decide) _,DZ,by simp[val,List.drop_replicate],rfl,rfl,rfl,rfl,rfl⟩ ?_
 rintro⟨j,outs,r⟩ ρ H ⟨hj,rfl,jK,lM,hr,hv,g0,g1,g6,g7,g8⟩
 simp only at hj jK lM hr hv g7 g8
 by_cases hz:(0:Int)≤(j:Int)-1
 ·obtain⟨i,rfl⟩:∃i,j=i+1:=⟨j-1,by omega⟩
  obtain⟨x,hx⟩:∃x,xs[i]? = some x:=⟨_,List.getElem?_eq_getElem (by omega)⟩
  have lx:=la x (List.mem_of_getElem? hx)
  have GI:((i+1:Nat):Int)-1=(i:Int):=by omega
  rw[GI] at g8 hz
  have e1:=aJ (f:=tV) (t := .op) (H:=[.row 0 (outs.map tV) 1 true]) (size:=1) (k := .i64) hx rfl
  have e3:bQ 1 (.ref 0 0 0 xs.length xs.length) (VI i) [.row 0 (outs.map tV) 1 true]=some (.ptr 0 0 i 0):=adT (by omega)
  have e4:∀s:Nat,bI 0 1 (.ptr 0 0 i 0) (VI (s:Int)) [.row 0 (outs.map tV) 1 true]=some [.row 0 ((outs.set i s).map tV) 1 true]:=fun s=>QO (by omega)
  have w2:IntKind.i64.wrap ((i:Int)-1)=(i:Int)-1:=wrap64 (by omega) (by omega)
  have w4:IntKind.i64.wrap ((r:Int)*1000000000)=((r*1000000000:Nat):Int):=wrapN _ (by omega) (by omega)
  have w5:IntKind.i64.wrap (((r*1000000000:Nat):Int)+(x:Int))=((r*1000000000+x:Nat):Int):=wrapN _ (by omega) (by omega)
  have Ff:r*1000000000+x≤9223372036854775807:=aeS hr hdT lx
  have q1:=Lh (r*1000000000+x) d Ff DZ
  have q2:=Mv (r*1000000000+x) d DZ
  have hq:(r*1000000000+x) / d<1000000000:=apG DZ hr lx
  simp only[qH,g0,g1,g6,g7,g8,hz,e1,e3,e4,w2,w4,w5,q1,q2,VX,Nat.reduceEqDiff,Nat.reduceAdd]
  refine⟨(i,outs.set i ((r*1000000000+x) / d),(r*1000000000+x) % d),by simp only;omega,by omega,rfl,by rw[List.length_set];exact jK,lZ lM hq,Nat.mod_lt _ DZ,?_,by (repeat' apply And.intro)<;>first | rfl | trivial⟩
  have h1:=Nat.mod_add_div (r*1000000000+x) d
  rw[set_drop (by omega),sX,tB hx,←hv]
  exact TR h1
 ·have Wh:j=0:=by omega
  subst Wh
  rw[List.drop_zero,List.drop_zero,va] at hv
  have h1:a / d=val 1000000000 outs:=by
   rw[←hv,Nat.mul_comm,Nat.mul_add_div DZ,Nat.div_eq_of_lt hr,Nat.add_zero]
  have h2:a % d=r:=by
   rw[←hv,Nat.mul_comm,Nat.mul_add_mod,Nat.mod_eq_of_lt hr]
  simp only[qH,g0,g1,g6,g7,g8,hz,VX,Nat.reduceEqDiff,Nat.reduceAdd]
  refine IS (m:=a / d) lM jK.symm (by omega) h1.symm ?_
  simp only[g7,VX,Nat.reduceEqDiff,Nat.reduceAdd]
  rw[h2]
  exact aL (by simp[aY,aP,Ah,cE,lF])
end Go.PM
namespace Go.PM
theorem QV {H:aA} {b b' g:Nat} {x:bT} (h:b≠b'):aF (H.set b x) b' g=aF H b' g:=by
 unfold aF
 rw[List.getElem?_set_ne h]
theorem nM {H:aA} {b g e:Nat} {es nF:List VV} {w w':Bool} (h:aF H b g=some (es,e,w)):aF (H.set b (.row g nF e w')) b g=some (nF,e,w'):=by
 have bH:b<H.length:=by
  unfold aF at h
  split at h
  ·rename_i hb
   exact(List.getElem?_eq_some_iff.1 hb).1
  ·cases h
 unfold aF
 rw[List.getElem?_set_self bH]
 simp
theorem mE {H:aA} {b:Nat} {x y:bT}:(H.set b x).set b y=H.set b y:=by rw[List.set_set]
theorem xP {H:aA} {b g e:Nat} {es:List VV} {w:Bool} (h:aF H b g=some (es,e,w)):H.set b (.row g es e w)=H:=by
 apply List.ext_getElem?
 intro i
 by_cases hi:b=i
 ·subst hi
  unfold aF at h
  split at h
  ·rename_i hb
   split at h
   ·rename_i hg
    cases h
    rw[List.getElem?_set_self (List.getElem?_eq_some_iff.1 hb).1,hb,hg]
   ·cases h
  ·cases h
 ·rw[List.getElem?_set_ne hi]
theorem adO {H:aA} {b g o i lo d:Nat} {pre iK post:List Nat} (hr:aF H b g=some ((pre++iK++post).map uV,1,true)) (ho:pre.length=o) (hi:i<iK.length) (dP:lo≤b) :
  bI lo 1 (.ptr b g (o+i) 0) (uV d) H=some (H.set b (.row g ((pre++iK.set i d++post).map uV) 1 true)):=by
 rw[fA (f:=uV) (e:=1) hr (by simp only[List.length_append];omega) dP rfl rfl,Xy ho hi]
theorem UD {H:aA} {lo b g o L c b2 g2 n2 c2 t:Nat} {pre iK post vs OL:List Nat} {w2:Bool} (hr:aF H b g=some ((pre++iK++post).map uV,1,true)) (hr2:aF H b2 g2=some (OL.map uV,1,w2)) (hb:b≠b2) (dP:lo≤b)
  (ho:pre.length=o) (hL:iK.length=L) (aB5:L≤70368744177664) (Rv:OL.take n2=vs) (hn2:n2≤OL.length) (hle:n2≤L) (Yg:∀d∈iK,d<4294967296) (HH:∀d∈vs,d<4294967296) (ht:t<4294967296) (rP:t*val 4294967296 vs≤val 4294967296 iK+val 4294967296 vs) :
  jC 200 [.ref b g o L c,.ref b2 g2 0 n2 c2,VK .u64 t] lo H fun r H'=>∃rW:List Nat,H'=H.set b (.row g ((pre++rW++post).map uV) 1 true)∧rW.length=L∧(∀d∈rW,d<4294967296) ∧
   ((r=VB false∧val 4294967296 rW+t*val 4294967296 vs=val 4294967296 iK)∨(r=VB true∧val 4294967296 iK<t*val 4294967296 vs∧val 4294967296 rW+t*val 4294967296 vs=val 4294967296 iK+val 4294967296 vs)):=by
 refine jC.walk ⟨true,false⟩ KO (Nat.le_of_ble_eq_true rfl) ?_
 have Fq:vs.length=n2:=by rw[←Rv,List.length_take];omega
 have uC:∀i,i<n2→OL[i]? = vs[i]? := fun i hi=>by rw[←Rv,List.getElem?_take_of_lt hi]
 have Qe:=oW Yg
 have N2:=oW HH
 rw[hL] at Qe
 rw[Fq] at N2
 have hVL:val 4294967296 vs≤4294967296^L:=Nat.le_trans (Nat.le_of_lt N2) (Nat.pow_le_pow_right (by decide) hle)
 have e0:∀ {K:aA} {es:List VV},aF K b g=some (es,1,true)→oS (.ref b g o L c) K=some (VI L):=fun h=>dX h
 have e00:∀ {K:aA},aF K b2 g2=some (OL.map uV,1,w2)→oS (.ref b2 g2 0 n2 c2) K=some (VI n2):=fun h=>dX h
 have rd:∀(s:List Nat),s.length=L→aF (H.set b (.row g ((pre++s++post).map uV) 1 true)) b g=some ((pre++s++post).map uV,1,true):=fun s _=>nM hr
 have rd2:∀(s:List Nat),aF (H.set b (.row g ((pre++s++post).map uV) 1 true)) b2 g2=some (OL.map uV,1,w2):=fun s=>by rw[QV hb];exact hr2
 have wi:∀i:Nat,i<L→IntKind.i64.wrap ((i:Int)+1)=((i+1:Nat):Int):=fun i hi=>wrapN (i+1) (by omega) (by omega)
 have back:∀(ρ:dL) (s:List Nat),s.length=L→(∀d∈s,d<4294967296)→(∀s2:List Nat,s2.length=L→(∀d∈s2,d<4294967296)→∀c,val 4294967296 s+val 4294967296 vs=val 4294967296 s2+4294967296^L*c→val 4294967296 s2+t*val 4294967296 vs=val 4294967296 iK+val 4294967296 vs)→val 4294967296 iK<t*val 4294967296 vs→ρ 0 = .ref b g o L c→ρ 1 = .ref b2 g2 0 n2 c2→ρ 7=VK .u64 0→ρ 58=VI L→ρ 59=VI 0 →
   VW ⟨true,false⟩ lo (.loop lT) (AZ 2 (nJ (VW ⟨true,false⟩ lo (.seq (.dI [⟨(some 6),(.mv (.const (.bool true))),none,false,[]⟩]) .ret) (BC [.tmp 6] fun r H'=>∃rW:List Nat,H'=H.set b (.row g ((pre++rW++post).map uV) 1 true)∧rW.length=L∧(∀d∈rW,d<4294967296)∧((r=VB false∧val 4294967296 rW+t*val 4294967296 vs=val 4294967296 iK)∨(r=VB true∧val 4294967296 iK<t*val 4294967296 vs∧val 4294967296 rW+t*val 4294967296 vs=val 4294967296 iK+val 4294967296 vs)))) (BC [.tmp 6] fun r H'=>∃rW:List Nat,H'=H.set b (.row g ((pre++rW++post).map uV) 1 true)∧rW.length=L∧(∀d∈rW,d<4294967296)∧((r=VB false∧val 4294967296 rW+t*val 4294967296 vs=val 4294967296 iK)∨(r=VB true∧val 4294967296 iK<t*val 4294967296 vs∧val 4294967296 rW+t*val 4294967296 vs=val 4294967296 iK+val 4294967296 vs))))) ρ (H.set b (.row g ((pre++s++post).map uV) 1 true)):=by
  intro ρ s hs QU LU aiD g0 g1 g7 g58 g59
  refine aU (fun(u:Nat×List Nat×Nat) ρ K=>u.1≤L∧K=H.set b (.row g ((pre++u.2.1++post).map uV) 1 true)∧u.2.1.length=L∧(∀d∈u.2.1,d<4294967296)∧u.2.2≤1∧val 4294967296 (s.take u.1)+val 4294967296 (vs.take u.1)=val 4294967296 (u.2.1.take u.1)+4294967296^u.1*u.2.2∧(∀j,u.1≤j→u.2.1[j]? = s[j]?) ∧
   ρ 0 = .ref b g o L c∧ρ 1 = .ref b2 g2 0 n2 c2∧ρ 7=VK .u64 u.2.2∧ρ 58=VI L∧ρ 59=VI u.1) (fun u=>L-u.1) (0,s,0) ⟨Nat.zero_le _,rfl,hs,QU,by simp,by simp[val],fun _ _=>rfl,g0,g1,g7,g58,g59⟩ ?_
  rintro⟨i,outs,cy⟩ PX K ⟨hi,rfl,jK,lM,hc,hv,GJ,k0,k1,k7,k58,k59⟩
  simp only at hi jK lM hc hv GJ k7 k59
  by_cases cS:(i:Int)<(L:Int)
  ·obtain⟨x,hx⟩:∃x,outs[i]? = some x:=⟨_,List.getElem?_eq_getElem (by omega)⟩
   have lx:=lM x (List.mem_of_getElem? hx)
   have QI:s[i]? = some x:=by rw[←GJ i (Nat.le_refl _)];exact hx
   have e1:bQ 1 (.ref b g o L c) (VI i) (H.set b (.row g ((pre++outs++post).map uV) 1 true))=some (.ptr b g (o+i) 0):=bD (rd outs jK) (by omega)
   have e2:bX false 1 (.ptr b g (o+i) 0) (H.set b (.row g ((pre++outs++post).map uV) 1 true))=some (uV x):=iT (rd outs jK) (by rw[Rg ho (by omega)];exact hx)
   have e3:∀d:Nat,bI lo 1 (.ptr b g (o+i) 0) (uV d) (H.set b (.row g ((pre++outs++post).map uV) 1 true))=some (H.set b (.row g ((pre++outs.set i d++post).map uV) 1 true)):=fun d=>by
    rw[adO (rd outs jK) ho (by omega) dP,mE]
   have e4:=e00 (rd2 outs)
   have w1:IntKind.u64.wrap (x:Int)=(x:Int):=eE _ (by omega)
   have w2:IntKind.u64.wrap ((cy:Int)+(x:Int))=((cy+x:Nat):Int):=by rw[←Int.natCast_add];exact eE _ (by omega)
   have wii:=wi i (by omega)
   have step:∀y,y<4294967296→(∀d,vs[i]? = some d→d=y)→(vs.length≤i→y=0) →
     (i+1≤L∧(outs.set i ((cy+x+y) % 4294967296)).length=L∧(∀d∈outs.set i ((cy+x+y) % 4294967296),d<4294967296)∧(cy+x+y) / 4294967296≤1∧val 4294967296 (s.take (i+1))+val 4294967296 (vs.take (i+1))=val 4294967296 ((outs.set i ((cy+x+y) % 4294967296)).take (i+1))+4294967296^(i+1)*((cy+x+y) / 4294967296))∧∀j,i+1≤j→(outs.set i ((cy+x+y) % 4294967296))[j]? = s[j]? := by
    intro y hy h1 h2
    refine⟨⟨by omega,by rw[List.length_set];exact jK,lZ lM (Nat.mod_lt _ (by decide)),by omega,?_⟩,fun j hj=>by rw[List.getElem?_set_ne (by omega)];exact GJ j (by omega)⟩
    have hy':val 4294967296 (vs.take (i+1))=val 4294967296 (vs.take i)+4294967296^i*y:=by
     cases U7:vs[i]? with
     | some d=>rw[bE U7,h1 d U7]
     |
      none =>
      have hle:=List.getElem?_eq_none_iff.1 U7
      rw[h2 hle,jQ hle,jQ (by omega),Nat.mul_zero,Nat.add_zero]
    rw[bE QI,hy',eT (by omega),Nat.pow_succ]
    exact Gl hv rfl (Nat.mod_add_div _ _)
   by_cases bH:(i:Int)<(n2:Int)
   ·obtain⟨y,hy⟩:∃y,vs[i]? = some y:=⟨_,List.getElem?_eq_getElem (by omega)⟩
    have ly:=HH y (List.mem_of_getElem? hy)
    have f1:bQ 1 (.ref b2 g2 0 n2 c2) (VI i) (H.set b (.row g ((pre++outs++post).map uV) 1 true))=some (.ptr b2 g2 i 0):=by rw[bD (rd2 outs) (by omega),Nat.zero_add]
    have f2:bX false 1 (.ptr b2 g2 i 0) (H.set b (.row g ((pre++outs++post).map uV) 1 true))=some (uV y):=iT (rd2 outs) (by rw[uC i (by omega)];exact hy)
    have w3:IntKind.u64.wrap (y:Int)=(y:Int):=eE _ (by omega)
    have w4:IntKind.u64.wrap (((cy+x:Nat):Int)+(y:Int))=((cy+x+y:Nat):Int):=by rw[←Int.natCast_add];exact eE _ (by omega)
    obtain⟨⟨s1,s2,s3,s4,s5⟩,s6⟩:=step y ly (fun d hd=>by rw[hy] at hd;injection hd with hd;exact hd.symm) (fun h=>by omega)
    simp only[lT,k0,k1,k7,k58,k59,cS,bH,e1,e2,e3,e4,f1,f2,w1,w2,w3,w4,wii,wrap32,oF,VX,Nat.reduceEqDiff,Nat.reduceAdd]
    exact⟨(i+1,outs.set i ((cy+x+y) % 4294967296),(cy+x+y) / 4294967296),by simp only;omega,s1,rfl,s2,s3,s4,s5,s6,by (repeat' apply And.intro)<;>first | rfl | trivial⟩
   ·obtain⟨⟨s1,s2,s3,s4,s5⟩,s6⟩:=step 0 (by decide) (fun d hd=>by have:=(List.getElem?_eq_some_iff.1 hd).1;omega) (fun _=>rfl)
    simp only[Nat.add_zero] at s2 s3 s4 s5 s6
    simp only[lT,k0,k1,k7,k58,k59,cS,bH,e1,e2,e3,e4,w1,w2,wii,wrap32,oF,VX,Nat.reduceEqDiff,Nat.reduceAdd]
    exact⟨(i+1,outs.set i ((cy+x) % 4294967296),(cy+x) / 4294967296),by simp only;omega,s1,rfl,s2,s3,s4,s5,s6,by (repeat' apply And.intro)<;>first | rfl | trivial⟩
  ·have mT:i=L:=by omega
   subst mT
   rw[List.take_of_length_le (by omega),List.take_of_length_le (by omega),List.take_of_length_le (by omega)] at hv
   simp only[lT,k0,k1,k7,k58,k59,cS,VX,Nat.reduceEqDiff,Nat.reduceAdd]
   exact⟨outs,rfl,jK,lM,.inr ⟨aiD,LU outs jK lM cy hv⟩⟩
 simp only[FM,C0,e0 hr,VX,Nat.reduceEqDiff,Nat.reduceAdd]
 refine aU (fun(u:Nat×List Nat×Nat×Nat) ρ K=>u.1≤L∧K=H.set b (.row g ((pre++u.2.1++post).map uV) 1 true)∧u.2.1.length=L∧(∀d∈u.2.1,d<4294967296)∧u.2.2.1<4294967296∧u.2.2.2≤1∧val 4294967296 (iK.take u.1)+4294967296^u.1*(u.2.2.1+u.2.2.2)=val 4294967296 (u.2.1.take u.1)+t*val 4294967296 (vs.take u.1)∧(∀j,u.1≤j→u.2.1[j]? = iK[j]?) ∧
  ρ 0 = .ref b g o L c∧ρ 1 = .ref b2 g2 0 n2 c2∧ρ 2=VK .u64 t∧ρ 7=VK .u64 u.2.2.1∧ρ 8=VI u.2.2.2∧ρ 13=VI L∧ρ 14=VI u.1) (fun u=>L-u.1) (0,iK,0,0) ⟨Nat.zero_le _,(xP hr).symm,hL,Yg,by simp,by simp,by simp[val],fun _ _=>rfl,by (repeat' apply And.intro)<;>first | rfl | trivial⟩ ?_
 rintro⟨i,outs,cy,l⟩ ρ K ⟨hi,rfl,jK,lM,hc,xR,hv,GJ,k0,k1,k2,k7,k8,B1,Di⟩
 simp only at hi jK lM hc xR hv GJ k7 k8 Di
 by_cases cS:(i:Int)<(L:Int)
 ·obtain⟨x,hx⟩:∃x,outs[i]? = some x:=⟨_,List.getElem?_eq_getElem (by omega)⟩
  have lx:=lM x (List.mem_of_getElem? hx)
  have QI:iK[i]? = some x:=by rw[←GJ i (Nat.le_refl _)];exact hx
  have e1:bQ 1 (.ref b g o L c) (VI i) (H.set b (.row g ((pre++outs++post).map uV) 1 true))=some (.ptr b g (o+i) 0):=bD (rd outs jK) (by omega)
  have e2:bX false 1 (.ptr b g (o+i) 0) (H.set b (.row g ((pre++outs++post).map uV) 1 true))=some (uV x):=iT (rd outs jK) (by rw[Rg ho (by omega)];exact hx)
  have e3:∀d:Nat,bI lo 1 (.ptr b g (o+i) 0) (uV d) (H.set b (.row g ((pre++outs++post).map uV) 1 true))=some (H.set b (.row g ((pre++outs.set i d++post).map uV) 1 true)):=fun d=>by
   rw[adO (rd outs jK) ho (by omega) dP,mE]
  have e4:=e00 (rd2 outs)
  have wii:=wi i (by omega)
  have w1:IntKind.i64.wrap (x:Int)=(x:Int):=wrapN x rfl (by omega)
  have step:∀y c1,y<4294967296→c1=cy+t*y→(∀d,vs[i]? = some d→d=y)→(vs.length≤i→y=0) →
    c1 / 4294967296<4294967296∧IntKind.i64.wrap ((x:Int)-((c1 % 4294967296:Nat):Int)-(l:Int))=(x:Int)-((c1 % 4294967296:Nat):Int)-(l:Int)∧IntKind.i64.wrap ((x:Int)-((c1 % 4294967296:Nat):Int))=(x:Int)-((c1 % 4294967296:Nat):Int) ∧
    ∃r l',l'≤1∧((x:Int)-((c1 % 4294967296:Nat):Int)-(l:Int)<0↔l'=1)∧IntKind.u32.wrap ((x:Int)-((c1 % 4294967296:Nat):Int)-(l:Int))=((r:Nat):Int) ∧
    (i+1≤L∧(outs.set i r).length=L∧(∀d∈outs.set i r,d<4294967296)∧c1 / 4294967296<4294967296∧l'≤1∧val 4294967296 (iK.take (i+1))+4294967296^(i+1)*(c1 / 4294967296+l')=val 4294967296 ((outs.set i r).take (i+1))+t*val 4294967296 (vs.take (i+1))∧∀j,i+1≤j→(outs.set i r)[j]? = iK[j]?):=by
   intro y c1 hy hc1 h1 h2
   have hty:t*y≤4294967295*4294967295:=Nat.mul_le_mul (by omega) (by omega)
   have hm:=Nat.mod_lt c1 (show 0<4294967296 by decide)
   have hdv:=Nat.mod_add_div c1 4294967296
   have hq:c1 / 4294967296<4294967296:=Nat.div_lt_of_lt_mul (by omega)
   refine⟨hq,wrap64 (by omega) (by omega),wrap64 (by omega) (by omega),?_⟩
   obtain⟨r,l',Co,Fy,hd,hlw,mX⟩:∃r l':Nat,l'≤1∧r<4294967296∧r+c1 % 4294967296+l=x+4294967296*l'∧IntKind.u32.wrap ((x:Int)-((c1 % 4294967296:Nat):Int)-(l:Int))=((r:Nat):Int)∧((x:Int)-((c1 % 4294967296:Nat):Int)-(l:Int)<0↔l'=1):=by
    by_cases hn:(x:Int)-((c1 % 4294967296:Nat):Int)-(l:Int)<0
    ·exact⟨x+4294967296-c1 % 4294967296-l,1,by omega,by omega,by omega,MU (by omega) hn (by omega),fun _=>rfl,fun _=>hn⟩
    ·exact⟨x-c1 % 4294967296-l,0,by omega,by omega,by omega,by rw[IntKind.wrap_u32];omega,fun h=>absurd h hn,fun h=>by omega⟩
   refine⟨r,l',Co,mX,hlw,by omega,by rw[List.length_set];exact jK,lZ lM Fy,hq,Co,?_,fun j hj=>by rw[List.getElem?_set_ne (by omega)];exact GJ j (by omega)⟩
   have hy':val 4294967296 (vs.take (i+1))=val 4294967296 (vs.take i)+4294967296^i*y:=by
    cases U7:vs[i]? with
    | some d=>rw[bE U7,h1 d U7]
    |
     none =>
     have hle:=List.getElem?_eq_none_iff.1 U7
     rw[h2 hle,jQ hle,jQ (by omega),Nat.mul_zero,Nat.add_zero]
   rw[bE QI,hy',eT (by omega),Nat.pow_succ]
   have:=ZP hv hc1 hdv.symm hd
   rw[this,Nat.mul_add,Nat.mul_left_comm t]
  by_cases bH:(i:Int)<(n2:Int)
  ·obtain⟨y,hy⟩:∃y,vs[i]? = some y:=⟨_,List.getElem?_eq_getElem (by omega)⟩
   have ly:=HH y (List.mem_of_getElem? hy)
   have f1:bQ 1 (.ref b2 g2 0 n2 c2) (VI i) (H.set b (.row g ((pre++outs++post).map uV) 1 true))=some (.ptr b2 g2 i 0):=by rw[bD (rd2 outs) (by omega),Nat.zero_add]
   have f2:bX false 1 (.ptr b2 g2 i 0) (H.set b (.row g ((pre++outs++post).map uV) 1 true))=some (uV y):=iT (rd2 outs) (by rw[uC i (by omega)];exact hy)
   have w3:IntKind.u64.wrap (y:Int)=(y:Int):=eE _ (by omega)
   have hty:t*y≤4294967295*4294967295:=Nat.mul_le_mul (by omega) (by omega)
   have w4:IntKind.u64.wrap ((t:Int)*(y:Int))=((t*y:Nat):Int):=by rw[←Int.natCast_mul];exact eE _ (by omega)
   have w5:IntKind.u64.wrap ((cy:Int)+((t*y:Nat):Int))=((cy+t*y:Nat):Int):=by rw[←Int.natCast_add];exact eE _ (by omega)
   have w6:IntKind.i64.wrap (((cy+t*y) % 4294967296:Nat):Int)=(((cy+t*y) % 4294967296:Nat):Int):=wrapN _ rfl (by omega)
   obtain⟨_,a1,a2,r,l',Co,mX,hw,s1,s2,s3,s4,s5,s6,s7⟩:=step y (cy+t*y) ly rfl (fun d hd=>by rw[hy] at hd;injection hd with hd;exact hd.symm) (fun h=>by omega)
   by_cases hn:(x:Int)-(((cy+t*y) % 4294967296:Nat):Int)-(l:Int)<0
   ·have:=mX.1 hn
    subst this
    simp only[fU,k0,k1,k2,k7,k8,B1,Di,cS,bH,e1,e2,e3,e4,f1,f2,w1,w3,w4,w5,w6,a1,a2,hn,hw,wii,wrap32,oF,VX,Nat.reduceEqDiff,Nat.reduceAdd]
    exact⟨(i+1,outs.set i r,(cy+t*y) / 4294967296,1),by simp only;omega,s1,rfl,s2,s3,s4,s5,s6,s7,by (repeat' apply And.intro)<;>first | rfl | trivial⟩
   ·have:l'=0:=by
     have:l'≠1:=fun h=>hn (mX.2 h)
     omega
    subst this
    simp only[fU,k0,k1,k2,k7,k8,B1,Di,cS,bH,e1,e2,e3,e4,f1,f2,w1,w3,w4,w5,w6,a1,a2,hn,hw,wii,wrap32,oF,VX,Nat.reduceEqDiff,Nat.reduceAdd]
    exact⟨(i+1,outs.set i r,(cy+t*y) / 4294967296,0),by simp only;omega,s1,rfl,s2,s3,s4,s5,s6,s7,by (repeat' apply And.intro)<;>first | rfl | trivial⟩
  ·have w6:IntKind.i64.wrap ((cy % 4294967296:Nat):Int)=((cy % 4294967296:Nat):Int):=wrapN _ rfl (by omega)
   obtain⟨_,a1,a2,r,l',Co,mX,hw,s1,s2,s3,s4,s5,s6,s7⟩:=step 0 cy (by decide) (by simp) (fun d hd=>by have:=(List.getElem?_eq_some_iff.1 hd).1;omega) (fun _=>rfl)
   by_cases hn:(x:Int)-((cy % 4294967296:Nat):Int)-(l:Int)<0
   ·have:=mX.1 hn
    subst this
    simp only[fU,k0,k1,k2,k7,k8,B1,Di,cS,bH,e1,e2,e3,e4,w1,w6,a1,a2,hn,hw,wii,wrap32,oF,VX,Nat.reduceEqDiff,Nat.reduceAdd]
    exact⟨(i+1,outs.set i r,cy / 4294967296,1),by simp only;omega,s1,rfl,s2,s3,s4,s5,s6,s7,by (repeat' apply And.intro)<;>first | rfl | trivial⟩
   ·have:l'=0:=by
     have:l'≠1:=fun h=>hn (mX.2 h)
     omega
    subst this
    simp only[fU,k0,k1,k2,k7,k8,B1,Di,cS,bH,e1,e2,e3,e4,w1,w6,a1,a2,hn,hw,wii,wrap32,oF,VX,Nat.reduceEqDiff,Nat.reduceAdd]
    exact⟨(i+1,outs.set i r,cy / 4294967296,0),by simp only;omega,s1,rfl,s2,s3,s4,s5,s6,s7,by (repeat' apply And.intro)<;>first | rfl | trivial⟩
 ·have mT:i=L:=by omega
  subst mT
  rw[List.take_of_length_le (by omega),List.take_of_length_le (by omega),List.take_of_length_le (by omega)] at hv
  have aoQ:=oW lM
  rw[jK] at aoQ
  by_cases hz:l=0∧cy=0
  ·obtain⟨rfl,rfl⟩:=hz
   simp only[fU,k0,k1,k2,k7,k8,B1,Di,cS,Int.natCast_zero,VX,Nat.reduceEqDiff,Nat.reduceAdd]
   exact⟨outs,rfl,jK,lM,.inl (by simpa using hv.symm)⟩
  ·have aAS:cy+l=1:=by
    rcases afD hv aoQ hVL rP with h | h<;>omega
   rw[aAS,Nat.mul_one] at hv
   have aiD:val 4294967296 iK<t*val 4294967296 vs:=by omega
   have fin:∀s2:List Nat,s2.length=i→(∀d∈s2,d<4294967296)→∀c,val 4294967296 outs+val 4294967296 vs=val 4294967296 s2+4294967296^i*c→val 4294967296 s2+t*val 4294967296 vs=val 4294967296 iK+val 4294967296 vs:=by
    intro s2 h2 h3 c h4
    have h5:=oW h3
    rw[h2] at h5
    exact afY hv h4 h5 hVL rP Qe (by omega)
   have hlen:=e0 (rd outs jK)
   by_cases AI:(l:Int)=0
   ·have hcy:¬(cy:Int)=0:=by omega
    simp only[fU,k0,k1,k2,k7,k8,B1,Di,cS,AI,hcy,hlen,VX,Nat.reduceEqDiff,Nat.reduceAdd]
    exact back _ outs jK lM fin aiD k0 k1 (by rfl) (by rfl) (by rfl)
   ·simp only[fU,k0,k1,k2,k7,k8,B1,Di,cS,AI,hlen,VX,Nat.reduceEqDiff,Nat.reduceAdd]
    exact back _ outs jK lM fin aiD k0 k1 (by rfl) (by rfl) (by rfl)
end Go.PM
namespace Go.PM
section
variable {H:aA} {b g o i lo d:Nat} {L R:List VV} {low:List Nat}
theorem abK (hr:aF H b g=some (L++low.map tV++R,1,true)) (ho:L.length=o) (hi:low[i]? = some d):bX false 1 (.ptr b g (o+i) 0) H=some (VI (d:Int)):=by
 have bH:=(List.getElem?_eq_some_iff.1 hi).1
 rw[Qp hr (x:=tV d) (by rw[Rg ho (by simpa using bH)];simp[hi])]
 rfl
theorem aeN (hr:aF H b g=some (L++low.map tV++R,1,true)) (ho:L.length=o) (hi:i<low.length) (dP:lo≤b):bI lo 1 (.ptr b g (o+i) 0) (VI (d:Int)) H=some (H.set b (.row g (L++(low.set i d).map tV++R) 1 true)):=by
 rw[bO hr (by simp only[List.length_append,List.length_map];omega) dP rfl rfl,Xy ho (by simpa using hi),List.map_set]
theorem U2 {n:Nat} {z:Int} (hr:aF H b g=some (L++low.map tV++VI z::R,1,true)) (ho:L.length=o) (hn:low.length=n):bX false 1 (.ptr b g (o+n) 0) H=some (VI z):=by
 rw[Qp hr (x:=VI z) (by rw[List.getElem?_append_right (by simp;omega)];simp[ho,hn])]
 rfl
theorem acE {n:Nat} {z z':Int} (hr:aF H b g=some (L++low.map tV++VI z::R,1,true)) (ho:L.length=o) (hn:low.length=n) (dP:lo≤b):bI lo 1 (.ptr b g (o+n) 0) (VI z') H=some (H.set b (.row g (L++low.map tV++VI z'::R) 1 true)):=by
 rw[bO hr (by simp only[List.length_append,List.length_map,List.length_cons];omega) dP rfl rfl,List.set_append_right _ _ (by simp;omega)]
 congr 5
 simp[ho,hn]
end
theorem QJ {P A N B c u x t r k m q T:Nat} (h:A+P*c=N+t*B) (h1:r+m+c=u+T*k) (h2:m+T*q=x*t):(A+P*u)+P*T*(q+k)=(N+P*r)+t*(B+P*x):=by
 have e1:P*(r+m+c)=P*(u+T*k):=by rw[h1]
 have e2:P*(m+T*q)=P*(x*t):=by rw[h2]
 grind
theorem aeK {x t:Nat} (hx:x<1000000000) (ht:t<1000000000):x*t≤999999998000000001∧x*t / 1000000000≤999999998:=by
 have h:x*t≤999999999*999999999:=Nat.mul_le_mul (by omega) (by omega)
 omega
theorem YJ {H:aA} {lo b g o n N t top:Nat} {L R:List VV} {low vs:List Nat} (hr:aF H b g=some (L++low.map tV++VI (top:Int)::R,1,true)) (dP:lo≤b) (ho:L.length=o) (hl:low.length=n) (Fq:vs.length=n) (hN:o+n<N) (Eh:N≤70368744177664)
  (hld:∀d∈low,d<1000000000) (HH:∀d∈vs,d<1000000000) (ht:t<1000000000) (acS:top<1000000000) :
  jC 204 [.ref b g 0 N N,iG vs,VI (o:Int),VI (t:Int)] lo H fun r H'=>∃(BR:List Nat) (c:Nat),H'=H.set b (.row g (L++BR.map tV++VI ((top:Int)-(c:Int))::R) 1 true)∧BR.length=n∧(∀d∈BR,d<1000000000)∧c≤1000000000 ∧
   r=VB (decide ((top:Int)-(c:Int)<0))∧val 1000000000 low+1000000000^n*c=val 1000000000 BR+t*val 1000000000 vs:=by
 refine jC.walk ⟨true,false⟩ GN (Nat.le_of_ble_eq_true rfl) ?_
 have rd:∀(s:List Nat) (z:Int),aF (H.set b (.row g (L++s.map tV++VI z::R) 1 true)) b g=some (L++s.map tV++VI z::R,1,true):=fun s z=>nM hr
 have ad:∀(K:aA) (es:List VV) (i:Nat),aF K b g=some (es,1,true)→i≤n→bQ 1 (.ref b g 0 N N) (VI ((o+i:Nat):Int)) K=some (.ptr b g (o+i) 0):=fun K es i h hi=>by rw[bD h (by omega),Nat.zero_add]
 simp only[C1,AB,dY,VX,Nat.reduceEqDiff,Nat.reduceAdd]
 refine aU (fun(u:Nat×List Nat×Nat) ρ K=>u.1≤n∧K=H.set b (.row g (L++u.2.1.map tV++VI (top:Int)::R) 1 true)∧u.2.1.length=n∧(∀d∈u.2.1,d<1000000000)∧u.2.2≤1000000000∧val 1000000000 (low.take u.1)+1000000000^u.1*u.2.2=val 1000000000 (u.2.1.take u.1)+t*val 1000000000 (vs.take u.1)∧(∀j,u.1≤j→u.2.1[j]? = low[j]?) ∧
  ρ 0 = .ref b g 0 N N∧ρ 1=iG vs∧ρ 2=VI o∧ρ 3=VI t∧ρ 9=VI u.2.2∧ρ 13=iG vs∧ρ 14=VI vs.length∧ρ 15=VI u.1) (fun u=>n-u.1) (0,low,0) ⟨Nat.zero_le _,(xP hr).symm,hl,hld,by simp,by simp[val],fun _ _=>rfl,by (repeat' apply And.intro)<;>first | rfl | trivial⟩ ?_
 rintro⟨i,outs,c⟩ ρ K ⟨hi,rfl,jK,lM,hc,hv,GJ,k0,k1,k2,k3,k9,B1,Di,Li⟩
 simp only at hi jK lM hc hv GJ k9 Li
 by_cases cS:(i:Int)<(vs.length:Int)
 ·obtain⟨u,hu⟩:∃u,outs[i]? = some u:=⟨_,List.getElem?_eq_getElem (by omega)⟩
  have lu:=lM u (List.mem_of_getElem? hu)
  have hu':low[i]? = some u:=by rw[←GJ i (Nat.le_refl _)];exact hu
  obtain⟨x,hx⟩:∃x,vs[i]? = some x:=⟨_,List.getElem?_eq_getElem (by omega)⟩
  have lx:=HH x (List.mem_of_getElem? hx)
  obtain⟨xt1,xt2⟩:=aeK lx ht
  have e1:bQ 1 (iG vs) (VI i) (H.set b (.row g (L++outs.map tV++VI (top:Int)::R) 1 true))=some (.cT (tV x) 0):=aJ (f:=tV) (t := .op) (size:=1) (k := .i64) hx rfl
  have w1:IntKind.i64.wrap ((o:Int)+(i:Int))=((o+i:Nat):Int):=wrapN _ (by omega) (by omega)
  have e2:=ad _ _ i (rd outs top) (by omega)
  have e3:=abK (rd outs top) ho hu
  have e4:∀d:Nat,bI lo 1 (.ptr b g (o+i) 0) (VI (d:Int)) (H.set b (.row g (L++outs.map tV++VI (top:Int)::R) 1 true))=some (H.set b (.row g (L++(outs.set i d).map tV++VI (top:Int)::R) 1 true)):=fun d=>by rw[aeN (rd outs top) ho (by omega) dP,mE]
  have w2:IntKind.i64.wrap ((x:Int)*(t:Int))=((x*t:Nat):Int):=wrapN _ (by simp) (by omega)
  have r1:=O7 (x*t)
  have q1:=PU (x*t) (by omega)
  have hm:=Nat.mod_lt (x*t) (show 0<1000000000 by decide)
  have hdv:=Nat.mod_add_div (x*t) 1000000000
  have wi:IntKind.i64.wrap ((i:Int)+1)=((i+1:Nat):Int):=wrapN (i+1) (by omega) (by omega)
  generalize hmq:x*t % 1000000000=m at *
  generalize hqq:x*t / 1000000000=q at *
  have w3:IntKind.i64.wrap ((u:Int)-(m:Int))=(u:Int)-(m:Int):=wrap64 (by omega) (by omega)
  have w4:IntKind.i64.wrap ((u:Int)-(m:Int)-(c:Int))=(u:Int)-(m:Int)-(c:Int):=wrap64 (by omega) (by omega)
  have step:∀r k:Nat,r<1000000000→r+m+c=u+1000000000*k→val 1000000000 (low.take (i+1))+1000000000^(i+1)*(q+k)=val 1000000000 ((outs.set i r).take (i+1))+t*val 1000000000 (vs.take (i+1))∧(∀d∈outs.set i r,d<1000000000)∧(∀j,i+1≤j→(outs.set i r)[j]? = low[j]?)∧(outs.set i r).length=n:=by
   intro r k hr hk
   refine⟨?_,lZ lM hr,fun j hj=>by rw[List.getElem?_set_ne (by omega)];exact GJ j (by omega),by rw[List.length_set];exact jK⟩
   rw[bE hu',bE hx,eT (by omega),Nat.pow_succ]
   exact QJ hv hk hdv
  by_cases h1:(u:Int)-(m:Int)-(c:Int)<0
  ·have w5:IntKind.i64.wrap ((u:Int)-(m:Int)-(c:Int)+1000000000)=(u:Int)-(m:Int)-(c:Int)+1000000000:=wrap64 (by omega) (by omega)
   have w6:IntKind.i64.wrap ((q:Int)+1)=((q+1:Nat):Int):=wrapN _ (by omega) (by omega)
   by_cases h2:(u:Int)-(m:Int)-(c:Int)+1000000000<0
   ·obtain⟨r,hr⟩:∃r:Nat,r+m+c=u+1000000000*2:=⟨u+1000000000*2-m-c,by omega⟩
    have w7:IntKind.i64.wrap ((u:Int)-(m:Int)-(c:Int)+1000000000+1000000000)=(r:Int):=wrapN r (by omega) (by omega)
    have w8:IntKind.i64.wrap (((q+1:Nat):Int)+1)=((q+2:Nat):Int):=wrapN _ (by omega) (by omega)
    obtain⟨s1,s2,s3,s4⟩:=step r 2 (by omega) hr
    simp only[kK,k0,k1,k2,k3,k9,B1,Di,Li,cS,e1,e2,e3,e4,w1,w2,w3,w4,w5,w6,w7,w8,wi,r1,q1,h1,h2,VX,Nat.reduceEqDiff,Nat.reduceAdd]
    refine⟨(i+1,outs.set i r,q+2),by simp only;omega,by omega,rfl,s4,s2,by simp only;omega,s1,s3,?_⟩
    try (repeat' apply And.intro)<;>first | rfl | trivial
   ·obtain⟨r,hr⟩:∃r:Nat,r+m+c=u+1000000000*1:=⟨u+1000000000*1-m-c,by omega⟩
    have w7:IntKind.i64.wrap ((u:Int)-(m:Int)-(c:Int)+1000000000)=(r:Int):=wrapN r (by omega) (by omega)
    have h3:¬(r:Int)<0:=by omega
    obtain⟨s1,s2,s3,s4⟩:=step r 1 (by omega) hr
    simp only[kK,k0,k1,k2,k3,k9,B1,Di,Li,cS,e1,e2,e3,e4,w1,w2,w3,w4,w6,w7,wi,r1,q1,h1,h3,VX,Nat.reduceEqDiff,Nat.reduceAdd]
    refine⟨(i+1,outs.set i r,q+1),by simp only;omega,by omega,rfl,s4,s2,by simp only;omega,s1,s3,?_⟩
    try (repeat' apply And.intro)<;>first | rfl | trivial
  ·obtain⟨r,hr⟩:∃r:Nat,r+m+c=u+1000000000*0:=⟨u-m-c,by omega⟩
   have w7:IntKind.i64.wrap ((u:Int)-(m:Int)-(c:Int))=(r:Int):=wrapN r (by omega) (by omega)
   have h3:¬(r:Int)<0:=by omega
   obtain⟨s1,s2,s3,s4⟩:=step r 0 (by omega) hr
   simp only[kK,k0,k1,k2,k3,k9,B1,Di,Li,cS,e1,e2,e3,e4,w1,w2,w3,w7,wi,r1,q1,h3,VX,Nat.reduceEqDiff,Nat.reduceAdd]
   refine⟨(i+1,outs.set i r,q),by simp only;omega,by omega,rfl,s4,s2,by simp only;omega,s1,s3,?_⟩
   try (repeat' apply And.intro)<;>first | rfl | trivial
 ·have mT:i=n:=by omega
  subst mT
  rw[List.take_of_length_le (by omega),List.take_of_length_le (by omega),List.take_of_length_le (by omega)] at hv
  have w1:IntKind.i64.wrap ((o:Int)+(vs.length:Int))=((o+i:Nat):Int):=wrapN _ (by omega) (by omega)
  have e2:=ad _ _ i (rd outs top) (by omega)
  have e2':=ad _ _ i (rd outs ((top:Int)-(c:Int))) (by omega)
  have e3:=U2 (rd outs top) ho jK
  have e3':=U2 (rd outs ((top:Int)-(c:Int))) ho jK
  have e4:bI lo 1 (.ptr b g (o+i) 0) (VI ((top:Int)-(c:Int))) (H.set b (.row g (L++outs.map tV++VI (top:Int)::R) 1 true))=some (H.set b (.row g (L++outs.map tV++VI ((top:Int)-(c:Int))::R) 1 true)):=by rw[acE (rd outs top) ho jK dP,mE]
  have w2:IntKind.i64.wrap ((top:Int)-(c:Int))=(top:Int)-(c:Int):=wrap64 (by omega) (by omega)
  simp only[kK,k0,k1,k2,k3,k9,B1,Di,Li,cS,dY,w1,w2,e2,e2',e3,e3',e4,VX,Nat.reduceEqDiff,Nat.reduceAdd]
  refine⟨outs,c,rfl,jK,lM,hc,?_,hv⟩
  try rfl
theorem ZO {H:aA} {lo b g o n N:Nat} {z:Int} {L R:List VV} {low vs:List Nat} (hr:aF H b g=some (L++low.map tV++VI z::R,1,true)) (dP:lo≤b) (ho:L.length=o) (hl:low.length=n) (Fq:vs.length=n) (hN:o+n<N) (Eh:N≤70368744177664)
  (hld:∀d∈low,d<1000000000) (HH:∀d∈vs,d<1000000000) (hz : -1000000000≤z) (Uu:z≤1000000000) :
  jC 205 [.ref b g 0 N N,iG vs,VI (o:Int)] lo H fun r H'=>∃(BR:List Nat) (c:Nat),H'=H.set b (.row g (L++BR.map tV++VI (z+(c:Int))::R) 1 true)∧BR.length=n∧(∀d∈BR,d<1000000000)∧c≤1 ∧
   val 1000000000 low+val 1000000000 vs=val 1000000000 BR+1000000000^n*c:=by
 refine jC.walk ⟨true,false⟩ Hh (Nat.le_of_ble_eq_true rfl) ?_
 have rd:∀(s:List Nat) (z:Int),aF (H.set b (.row g (L++s.map tV++VI z::R) 1 true)) b g=some (L++s.map tV++VI z::R,1,true):=fun s z=>nM hr
 have ad:∀(K:aA) (es:List VV) (i:Nat),aF K b g=some (es,1,true)→i≤n→bQ 1 (.ref b g 0 N N) (VI ((o+i:Nat):Int)) K=some (.ptr b g (o+i) 0):=fun K es i h hi=>by rw[bD h (by omega),Nat.zero_add]
 simp only[CN,Am,dY,VX,Nat.reduceEqDiff,Nat.reduceAdd]
 refine aU (fun(u:Nat×List Nat×Nat) ρ K=>u.1≤n∧K=H.set b (.row g (L++u.2.1.map tV++VI z::R) 1 true)∧u.2.1.length=n∧(∀d∈u.2.1,d<1000000000)∧u.2.2≤1∧val 1000000000 (low.take u.1)+val 1000000000 (vs.take u.1)=val 1000000000 (u.2.1.take u.1)+1000000000^u.1*u.2.2∧(∀j,u.1≤j→u.2.1[j]? = low[j]?) ∧
  ρ 0 = .ref b g 0 N N∧ρ 1=iG vs∧ρ 2=VI o∧ρ 6=VI u.2.2∧ρ 10=iG vs∧ρ 11=VI vs.length∧ρ 12=VI u.1) (fun u=>n-u.1) (0,low,0) ⟨Nat.zero_le _,(xP hr).symm,hl,hld,by simp,by simp[val],fun _ _=>rfl,by (repeat' apply And.intro)<;>first | rfl | trivial⟩ ?_
 rintro⟨i,outs,c⟩ ρ K ⟨hi,rfl,jK,lM,hc,hv,GJ,k0,k1,k2,k6,ZS,W0,Jt⟩
 simp only at hi jK lM hc hv GJ k6 Jt
 by_cases cS:(i:Int)<(vs.length:Int)
 ·obtain⟨u,hu⟩:∃u,outs[i]? = some u:=⟨_,List.getElem?_eq_getElem (by omega)⟩
  have lu:=lM u (List.mem_of_getElem? hu)
  have hu':low[i]? = some u:=by rw[←GJ i (Nat.le_refl _)];exact hu
  obtain⟨x,hx⟩:∃x,vs[i]? = some x:=⟨_,List.getElem?_eq_getElem (by omega)⟩
  have lx:=HH x (List.mem_of_getElem? hx)
  have e1:bQ 1 (iG vs) (VI i) (H.set b (.row g (L++outs.map tV++VI z::R) 1 true))=some (.cT (tV x) 0):=aJ (f:=tV) (t := .op) (size:=1) (k := .i64) hx rfl
  have w1:IntKind.i64.wrap ((o:Int)+(i:Int))=((o+i:Nat):Int):=wrapN _ (by omega) (by omega)
  have e2:=ad _ _ i (rd outs z) (by omega)
  have e3:=abK (rd outs z) ho hu
  have e4:∀d:Nat,bI lo 1 (.ptr b g (o+i) 0) (VI (d:Int)) (H.set b (.row g (L++outs.map tV++VI z::R) 1 true))=some (H.set b (.row g (L++(outs.set i d).map tV++VI z::R) 1 true)):=fun d=>by rw[aeN (rd outs z) ho (by omega) dP,mE]
  have w2:IntKind.i64.wrap ((u:Int)+(x:Int))=((u+x:Nat):Int):=wrapN _ (by omega) (by omega)
  have w3:IntKind.i64.wrap (((u+x:Nat):Int)+(c:Int))=((u+x+c:Nat):Int):=wrapN _ (by omega) (by omega)
  have r1:=O7 (u+x+c)
  have q1:=PU (u+x+c) (by omega)
  have wi:IntKind.i64.wrap ((i:Int)+1)=((i+1:Nat):Int):=wrapN (i+1) (by omega) (by omega)
  simp only[rR,k0,k1,k2,k6,ZS,W0,Jt,cS,e1,e2,e3,e4,w1,w2,w3,wi,r1,q1,VX,Nat.reduceEqDiff,Nat.reduceAdd]
  refine⟨(i+1,outs.set i ((u+x+c) % 1000000000),(u+x+c) / 1000000000),by simp only;omega,by omega,rfl,by rw[List.length_set];exact jK,lZ lM (Nat.mod_lt _ (by decide)),by simp only;omega,?_,fun j hj=>by rw[List.getElem?_set_ne (by omega)];exact GJ j (by omega),?_⟩
  ·simp only
   rw[bE hu',bE hx,eT (by omega),Nat.pow_succ]
   exact Gl hv (show c+u+x=u+x+c by omega) (Nat.mod_add_div _ _)
  ·try (repeat' apply And.intro)<;>first | rfl | trivial
 ·have mT:i=n:=by omega
  subst mT
  rw[List.take_of_length_le (by omega),List.take_of_length_le (by omega),List.take_of_length_le (by omega)] at hv
  have w1:IntKind.i64.wrap ((o:Int)+(vs.length:Int))=((o+i:Nat):Int):=wrapN _ (by omega) (by omega)
  have e2:=ad _ _ i (rd outs z) (by omega)
  have e3:=U2 (rd outs z) ho jK
  have e4:bI lo 1 (.ptr b g (o+i) 0) (VI (z+(c:Int))) (H.set b (.row g (L++outs.map tV++VI z::R) 1 true))=some (H.set b (.row g (L++outs.map tV++VI (z+(c:Int))::R) 1 true)):=by rw[acE (rd outs z) ho jK dP,mE]
  have w2:IntKind.i64.wrap (z+(c:Int))=z+(c:Int):=wrap64 (by omega) (by omega)
  simp only[rR,k0,k1,k2,k6,ZS,W0,Jt,cS,dY,w1,w2,e2,e3,e4,VX,Nat.reduceEqDiff,Nat.reduceAdd]
  exact⟨outs,c,rfl,jK,lM,hc,hv⟩
end Go.PM