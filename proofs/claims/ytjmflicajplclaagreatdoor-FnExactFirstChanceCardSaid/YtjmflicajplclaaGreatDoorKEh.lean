/- Texts of a claim, in one: part 8. -/
import Derived.Test.YtjmflicajplclaaGreatDoorKEg
open And renaming intro → aMU
open Int renaming natCast_add → aNs,natCast_mul → aNx
open List renaming append_assoc → aM0,drop_of_length_le → aM7,drop_zero → aMq,getElem?_eq_getElem → aLl,getElem?_eq_none → aLE,getElem?_eq_none_iff → aNu,getElem?_eq_some_iff → aLd,getElem?_set_ne → aLD,getElem?_set_self → aLC,getElem?_take_of_lt → aLB,length_append → aLp,length_drop → aNE,length_pos_iff → aNM,length_reverse → aNP,length_set → aNt,length_singleton → aNL,length_take → aMN,mem_of_getElem? → aL8,mem_of_mem_drop → aMc,mem_of_mem_take → aMb,replicate → aL4,reverse_append → aNQ,reverse_singleton → aNR,singleton_append → aNS,take_append_drop → aMn,take_length → aMr,take_of_length_le → aL7
open Nat renaming add_mul → aLJ,add_mul_div_left → aNG,add_mul_mod_self_left → aNH,add_zero → aNq,div_add_mod → aNK,div_div_eq_div_mul → aNF,div_eq_of_lt → aML,div_lt_iff_lt_mul → aNB,div_lt_of_lt_mul → aNy,gcd → aNN,gcd_comm → aNO,le_div_iff_mul_le → aNI,le_of_ble_eq_true → aM2,le_of_lt → aLV,le_refl → aLe,lt_of_mul_lt_mul_right → aNe,lt_or_ge → aLh,mod_add_div → aNz,mod_eq_of_lt → aMI,mod_lt → aLG,mul_assoc → aNA,mul_comm → aMG,mul_le_mul → aNw,mul_le_mul_left → aNd,mul_le_mul_right → aLF,mul_lt_mul_of_pos_right → aND,mul_zero → aNv,one_mul → aNJ,pow_add → aNf,pow_le_pow_right → aNh,pow_pos → aNC,pow_succ → aMF,zero_add → aMM,zero_le → aLI
set_option linter.unusedSimpArgs false
set_option linter.unusedVariables false
namespace Go.PM
theorem Oc {x:Int} {r:Nat} (h:x+4294967296=r) (hx:x<0) (hr:0≤x+4294967296):IntKind.u32.wrap x=(r:Int):=by rw[IntKind.wrap_u32];omega
theorem X9 (n:Nat) (hn:n≤70368744177664):BR [.int .u32 0] 4 (VI (n:Int)) (VI (n:Int)) []=some (.ref 0 0 0 n n,[.row 0 ((aL4 n 0).map uV) 1 true]):=nX (f:=uV) (x:=0) rfl (by omega) (by omega)
theorem Sm {outs:List Nat} {i d:Nat} (hi:i<outs.length):bM 0 1 (.ptr 0 0 i 0) (uV d) [.row 0 (outs.map uV) 1 true]=some [.row 0 ((outs.set i d).map uV) 1 true]:=by
 rw[eG (f:=uV) (e:=1) kS hi (aLe _) rfl rfl]
 rfl
theorem FX (a b:Nat) (IV:b≤a) (ha:(aD 4294967296 a).length≤17592186044416):TC 146 [bO a,bO b] (bO (a-b)):=by
 refine TC.walk ⟨true,false⟩ Li rfl (aM2 rfl) (by simp[aO,bT]) (tZ _) ?_
 have va:=cH (b:=4294967296) (by decide) a
 have vb:=cH (b:=4294967296) (by decide) b
 have la:=gF (b:=4294967296) (by decide) a
 have lb:=gF (b:=4294967296) (by decide) b
 have hle:=eW (b:=4294967296) (by decide) IV
 unfold bO
 generalize aD 4294967296 a=xs at *
 generalize aD 4294967296 b=ys at *
 simp only[Fj,C5,X9 xs.length (by omega),VX,Nat.reduceEqDiff,Nat.reduceAdd]
 refine aN (fun(s:Nat×List Nat×Nat) ρ H=>s.1≤xs.length∧H=[.row 0 (s.2.1.map uV) 1 true]∧s.2.1.length=xs.length∧(∀d∈s.2.1,d<4294967296)∧s.2.2≤1∧val 4294967296 (xs.take s.1)+4294967296^s.1*s.2.2=val 4294967296 (s.2.1.take s.1)+val 4294967296 (ys.take s.1) ∧
  ρ 0=Ds xs∧ρ 1=Ds ys∧ρ 5 = .ref 0 0 0 xs.length xs.length∧ρ 6=VI s.2.2∧ρ 13=VI xs.length∧ρ 14=VI s.1) (fun s=>xs.length-s.1) (0,aL4 xs.length 0,0) ⟨aLI _,rfl,by simp,Cx (by decide) _,by simp,by simp[val],rfl,rfl,rfl,rfl,rfl,rfl⟩ ?_
 rintro⟨i,outs,l⟩ ρ H ⟨hi,rfl,hJ,nF,hc,hv,g0,g1,g5,g6,g13,g14⟩
 simp only at hi hJ nF hc hv g6 g14
 by_cases bX:(i:Int)<(xs.length:Int)
 ·obtain⟨x,hx⟩:∃x,xs[i]? = some x:=⟨_,aLl (by omega)⟩
  have lx:=la x (aL8 hx)
  have e1:=aF (f:=uV) (t := .op) (H:=[.row 0 (outs.map uV) 1 true]) (size:=1) (k := .i64) hx rfl
  have w1:IntKind.i64.wrap (x:Int)=(x:Int):=wrapN x rfl (by omega)
  have w2:IntKind.i64.wrap ((x:Int)-(l:Int))=(x:Int)-(l:Int):=wrap64 (by omega) (by omega)
  have wi:IntKind.i64.wrap ((i:Int)+1)=((i+1:Nat):Int):=wrapN (i+1) (by omega) (by omega)
  have e3:bI 1 (.ref 0 0 0 xs.length xs.length) (VI i) [.row 0 (outs.map uV) 1 true]=some (.ptr 0 0 i 0):=by rw[bC kS (by omega),aMM]
  have e4:∀s:Nat,bM 0 1 (.ptr 0 0 i 0) (uV s) [.row 0 (outs.map uV) 1 true]=some [.row 0 ((outs.set i s).map uV) 1 true]:=fun s=>Sm (by omega)
  have step:∀y r l':Nat,y<4294967296→r<4294967296→l'≤1→(∀d,ys[i]? = some d→d=y)→(ys.length≤i→y=0)→r+y+l=x+4294967296*l' →
    i+1≤xs.length∧(outs.set i r).length=xs.length∧(∀d∈outs.set i r,d<4294967296)∧l'≤1∧val 4294967296 (xs.take (i+1))+4294967296^(i+1)*l'=val 4294967296 ((outs.set i r).take (i+1))+val 4294967296 (ys.take (i+1)):=by
   intro y r l' _ hr FA h1 h2 hd
   refine⟨by omega,by rw[aNt];exact hJ,oD nF hr,FA,?_⟩
   have hy:val 4294967296 (ys.take (i+1))=val 4294967296 (ys.take i)+4294967296^i*y:=by
    cases YV:ys[i]? with
    | some d=>rw[bF YV,h1 d YV]
    |
     none =>
     have hle:=aNu.1 YV
     rw[h2 hle,kY hle,kY (by omega),aNv,aNq]
   rw[bF hx,hy,fI (by omega),aMF]
   exact MN hv hd
  by_cases bH:(i:Int)<(ys.length:Int)
  ·obtain⟨y,hy⟩:∃y,ys[i]? = some y:=⟨_,aLl (by omega)⟩
   have ly:=lb y (aL8 hy)
   have e2:=aF (f:=uV) (t := .op) (H:=[.row 0 (outs.map uV) 1 true]) (size:=1) (k := .i64) hy rfl
   have w3:IntKind.i64.wrap (y:Int)=(y:Int):=wrapN y rfl (by omega)
   have w4:IntKind.i64.wrap ((x:Int)-(l:Int)-(y:Int))=(x:Int)-(l:Int)-(y:Int):=wrap64 (by omega) (by omega)
   by_cases mG:(x:Int)-(l:Int)-(y:Int)<0
   ·obtain⟨r,hr⟩:∃r:Nat,r+y+l=x+4294967296:=⟨x+4294967296-l-y,by omega⟩
    have w5:IntKind.u32.wrap ((x:Int)-(l:Int)-(y:Int))=(r:Int):=Oc (by omega) mG (by omega)
    obtain⟨s1,s2,s3,s4,s5⟩:=step y r 1 ly (by omega) (aLe _) (fun d hd=>by rw[hy] at hd;injection hd with hd;exact hd.symm) (fun h=>by omega) (by omega)
    simp only[kB,g0,g1,g5,g6,g13,g14,bX,bH,mG,e1,e2,e3,e4,w1,w2,w3,w4,w5,wi,VX,Nat.reduceEqDiff,Nat.reduceAdd]
    exact⟨(i+1,outs.set i r,1),by simp only;omega,s1,rfl,s2,s3,s4,s5,by (repeat' apply aMU)<;>first | rfl | trivial⟩
   ·obtain⟨r,hr⟩:∃r:Nat,r+y+l=x:=⟨x-l-y,by omega⟩
    have w5:IntKind.u32.wrap ((x:Int)-(l:Int)-(y:Int))=(r:Int):=by rw[IntKind.wrap_u32];omega
    obtain⟨s1,s2,s3,s4,s5⟩:=step y r 0 ly (by omega) (by omega) (fun d hd=>by rw[hy] at hd;injection hd with hd;exact hd.symm) (fun h=>by omega) (by omega)
    simp only[kB,g0,g1,g5,g6,g13,g14,bX,bH,mG,e1,e2,e3,e4,w1,w2,w3,w4,w5,wi,VX,Nat.reduceEqDiff,Nat.reduceAdd]
    exact⟨(i+1,outs.set i r,0),by simp only;omega,s1,rfl,s2,s3,s4,s5,by (repeat' apply aMU)<;>first | rfl | trivial⟩
  ·by_cases mG:(x:Int)-(l:Int)<0
   ·obtain⟨r,hr⟩:∃r:Nat,r+l=x+4294967296:=⟨x+4294967296-l,by omega⟩
    have w5:IntKind.u32.wrap ((x:Int)-(l:Int))=(r:Int):=Oc (by omega) mG (by omega)
    obtain⟨s1,s2,s3,s4,s5⟩:=step 0 r 1 (by decide) (by omega) (aLe _) (fun d hd=>by have:=(aLd.1 hd).1;omega) (fun _=>rfl) (by omega)
    simp only[kB,g0,g1,g5,g6,g13,g14,bX,bH,mG,e1,e3,e4,w1,w2,w5,wi,VX,Nat.reduceEqDiff,Nat.reduceAdd]
    exact⟨(i+1,outs.set i r,1),by simp only;omega,s1,rfl,s2,s3,s4,s5,by (repeat' apply aMU)<;>first | rfl | trivial⟩
   ·obtain⟨r,hr⟩:∃r:Nat,r+l=x:=⟨x-l,by omega⟩
    have w5:IntKind.u32.wrap ((x:Int)-(l:Int))=(r:Int):=by rw[IntKind.wrap_u32];omega
    obtain⟨s1,s2,s3,s4,s5⟩:=step 0 r 0 (by decide) (by omega) (by omega) (fun d hd=>by have:=(aLd.1 hd).1;omega) (fun _=>rfl) (by omega)
    simp only[kB,g0,g1,g5,g6,g13,g14,bX,bH,mG,e1,e3,e4,w1,w2,w5,wi,VX,Nat.reduceEqDiff,Nat.reduceAdd]
    exact⟨(i+1,outs.set i r,0),by simp only;omega,s1,rfl,s2,s3,s4,s5,by (repeat' apply aMU)<;>first | rfl | trivial⟩
 ·have mZ:i=xs.length:=by omega
  subst mZ
  rw[aMr,aL7 (l:=ys) hle,aL7 (l:=outs) (by omega),va,vb] at hv
  have eT:=rM nF
  rw[hJ] at eT
  have Cw:val 4294967296 outs=a-b:=by
   rcases aLh l 1 with h | h
   ·have:l=0:=by omega
    subst this
    rw[aNv] at hv
    omega
   ·have:l=1:=by omega
    subst this
    rw[Nat.mul_one] at hv
    omega
  simp only[kB,g0,g1,g5,g6,g13,g14,bX,VX,Nat.reduceEqDiff,Nat.reduceAdd]
  refine vK (m:=a-b) kS (by omega) (aLe _) (by omega) (fun d hd=>nF d (aMb hd)) (by rw[aL7 (by omega)];exact Cw) fun k hk he => ?_
  simp only[VX,Nat.reduceEqDiff,Nat.reduceAdd]
  exact TI kS (by omega) hk he
theorem UD {P Q A B Y x c r q o y W:Nat} (Qh:A+P*Q*c=B+P*(x*Y)) (h1:r+W*q=c+(x*y+o)):A+P*Q*r+P*Q*W*q=B+P*Q*o+P*(x*(Y+Q*y)):=by
 have h2:P*Q*(r+W*q)=P*Q*(c+(x*y+o)):=by rw[h1]
 grind
theorem jO (a b:Nat) (ha:(aD 4294967296 a).length≤17592186044416) (hb:(aD 4294967296 b).length≤17592186044416):TC 143 [bO a,bO b] (bO (a*b)):=by
 refine TC.walk ⟨true,false⟩ Lm rfl (aM2 rfl) (by simp[aO,bT]) (tZ _) ?_
 have va:=cH (b:=4294967296) (by decide) a
 have vb:=cH (b:=4294967296) (by decide) b
 have la:=gF (b:=4294967296) (by decide) a
 have lb:=gF (b:=4294967296) (by decide) b
 unfold bO
 generalize aD 4294967296 a=xs at *
 generalize aD 4294967296 b=ys at *
 have w0:IntKind.i64.wrap ((xs.length:Int)+(ys.length:Int))=((xs.length+ys.length:Nat):Int):=wrapN _ (by omega) (by omega)
 simp only[E9,Dt,w0,X9 (xs.length+ys.length) (by omega),VX,Nat.reduceEqDiff,Nat.reduceAdd]
 generalize hN:xs.length+ys.length=N at *
 refine aN (fun(s:Nat×List Nat) ρ H=>s.1≤xs.length∧H=[.row 0 (s.2.map uV) 1 true]∧s.2.length=N∧(∀d∈s.2,d<4294967296)∧val 4294967296 (s.2.take (s.1+ys.length))=val 4294967296 (xs.take s.1)*b ∧
  ρ 0=Ds xs∧ρ 1=Ds ys∧ρ 5 = .ref 0 0 0 N N∧ρ 17=Ds xs∧ρ 18=VI xs.length∧ρ 19=VI s.1) (fun s=>xs.length-s.1) (0,aL4 N 0) ⟨aLI _,rfl,by simp,Cx (by decide) _,by simp[val,List.take_replicate,vI],rfl,rfl,rfl,rfl,rfl,rfl⟩ ?_
 rintro⟨i,outs⟩ ρ H ⟨hi,rfl,hJ,nF,hv,g0,g1,g5,g17,g18,g19⟩
 simp only at hi hJ nF hv g19
 by_cases bX:(i:Int)<(xs.length:Int)
 ·obtain⟨x,hx⟩:∃x,xs[i]? = some x:=⟨_,aLl (by omega)⟩
  have lx:=la x (aL8 hx)
  have e1:=aF (f:=uV) (t := .op) (H:=[.row 0 (outs.map uV) 1 true]) (size:=1) (k := .i64) hx rfl
  simp only[wP,g0,g1,g5,g17,g18,g19,bX,e1,VX,Nat.reduceEqDiff,Nat.reduceAdd]
  refine aN (fun(s:Nat×List Nat×Nat) ρ H=>s.1≤ys.length∧H=[.row 0 (s.2.1.map uV) 1 true]∧s.2.1.length=N∧(∀d∈s.2.1,d<4294967296)∧s.2.2<4294967296 ∧
   val 4294967296 (s.2.1.take (i+s.1))+4294967296^(i+s.1)*s.2.2=val 4294967296 (outs.take (i+s.1))+4294967296^i*(x*val 4294967296 (ys.take s.1))∧(∀j,i+s.1≤j→s.2.1[j]? = outs[j]?) ∧
   ρ 0=Ds xs∧ρ 1=Ds ys∧ρ 5 = .ref 0 0 0 N N∧ρ 6=VI i∧ρ 7=uV x∧ρ 8=VK .u64 s.2.2∧ρ 17=Ds xs∧ρ 18=VI xs.length∧ρ 19=VI i∧ρ 24=Ds ys∧ρ 25=VI ys.length∧ρ 26=VI s.1) (fun s=>ys.length-s.1) (0,outs,0) ⟨aLI _,rfl,hJ,nF,by simp,by simp[val],fun _ _=>rfl,by (repeat' apply aMU)<;>first | rfl | trivial⟩ ?_
  rintro⟨k,os,c⟩ tU H ⟨hk,rfl,Sl,TM,hc,Qh,IU,k0,k1,k5,k6,k7,k8,Iu,Xg,k19,k24,k25,k26⟩
  simp only at hk Sl TM hc Qh IU k8 k26
  have wi:IntKind.i64.wrap ((i:Int)+1)=((i+1:Nat):Int):=wrapN (i+1) (by omega) (by omega)
  by_cases Hl:(k:Int)<(ys.length:Int)
  ·obtain⟨y,hy⟩:∃y,ys[k]? = some y:=⟨_,aLl (by omega)⟩
   have ly:=lb y (aL8 hy)
   obtain⟨o,ho⟩:∃o,os[i+k]? = some o:=⟨_,aLl (by omega)⟩
   have lo:=TM o (aL8 ho)
   have ho':outs[i+k]? = some o:=by rw[←IU (i+k) (aLe _)];exact ho
   have f1:=aF (f:=uV) (t := .op) (H:=[.row 0 (os.map uV) 1 true]) (size:=1) (k := .i64) hy rfl
   have w1:IntKind.i64.wrap ((i:Int)+(k:Int))=((i+k:Nat):Int):=wrapN _ (by omega) (by omega)
   have f2:bI 1 (.ref 0 0 0 N N) (VI ((i+k:Nat):Int)) [.row 0 (os.map uV) 1 true]=some (.ptr 0 0 (i+k) 0):=by rw[bC kS (by omega),aMM]
   have f3:bG false 1 (.ptr 0 0 (i+k) 0) [.row 0 (os.map uV) 1 true]=some (uV o):=jS kS ho
   have f4:∀s:Nat,bM 0 1 (.ptr 0 0 (i+k) 0) (uV s) [.row 0 (os.map uV) 1 true]=some [.row 0 ((os.set (i+k) s).map uV) 1 true]:=fun s=>Sm (by omega)
   have CT:x*y≤4294967295*4294967295:=aNw (by omega) (by omega)
   have w2:IntKind.u64.wrap (x:Int)=(x:Int):=eV _ (by omega)
   have w3:IntKind.u64.wrap (y:Int)=(y:Int):=eV _ (by omega)
   have w4:IntKind.u64.wrap (o:Int)=(o:Int):=eV _ (by omega)
   have w5:IntKind.u64.wrap ((x:Int)*(y:Int))=((x*y:Nat):Int):=by rw[←aNx];exact eV _ (by omega)
   have w6:IntKind.u64.wrap (((x*y:Nat):Int)+(o:Int))=((x*y+o:Nat):Int):=by rw[←aNs];exact eV _ (by omega)
   have w7:IntKind.u64.wrap ((c:Int)+((x*y+o:Nat):Int))=((c+(x*y+o):Nat):Int):=by rw[←aNs];exact eV _ (by omega)
   have wk:IntKind.i64.wrap ((k:Int)+1)=((k+1:Nat):Int):=wrapN (k+1) (by omega) (by omega)
   simp only[wV,k0,k1,k5,k6,k7,k8,Iu,Xg,k19,k24,k25,k26,Hl,f1,f2,f3,f4,w1,w2,w3,w4,w5,w6,w7,wk,wrap32,rA,VX,Nat.reduceEqDiff,Nat.reduceAdd]
   have hq:(c+(x*y+o)) / 4294967296<4294967296:=aNy (by omega)
   refine⟨(k+1,os.set (i+k) ((c+(x*y+o)) % 4294967296),(c+(x*y+o)) / 4294967296),by simp only;omega,by omega,rfl,by rw[aNt];exact Sl,oD TM (aLG _ (by decide)),hq,?_,fun j hj => ?_,by (repeat' apply aMU)<;>first | rfl | trivial⟩
   ·have h1:=aNz (c+(x*y+o)) 4294967296
    rw[←Nat.add_assoc,fI (by omega),bF ho',bF hy,aMF]
    rw[aNf] at Qh ⊢
    exact UD Qh h1
   ·rw[aLD (by omega)]
    exact IU j (by omega)
  ·have T7:k=ys.length:=by omega
   subst T7
   rw[aMr,vb,hv] at Qh
   have w1:IntKind.i64.wrap ((i:Int)+(ys.length:Int))=((i+ys.length:Nat):Int):=wrapN _ (by omega) (by omega)
   have f2:bI 1 (.ref 0 0 0 N N) (VI ((i+ys.length:Nat):Int)) [.row 0 (os.map uV) 1 true]=some (.ptr 0 0 (i+ys.length) 0):=by rw[bC kS (by omega),aMM]
   have f4:∀s:Nat,bM 0 1 (.ptr 0 0 (i+ys.length) 0) (uV s) [.row 0 (os.map uV) 1 true]=some [.row 0 ((os.set (i+ys.length) s).map uV) 1 true]:=fun s=>Sm (by omega)
   simp only[wV,k0,k1,k5,k6,k7,k8,Iu,Xg,k19,k24,k25,k26,Hl,f2,f4,w1,wi,wrap32,VX,Nat.reduceEqDiff,Nat.reduceAdd]
   refine⟨(i+1,os.set (i+ys.length) (c % 4294967296)),by simp only;omega,by omega,rfl,by rw[aNt];exact Sl,oD TM (aLG _ (by decide)),?_,by (repeat' apply aMU)<;>first | rfl | trivial⟩
   rw[show i+1+ys.length=i+ys.length+1 by omega,fI (by omega),aMI hc,Qh,bF hx,aLJ,aNA]
 ·have mZ:i=xs.length:=by omega
  subst mZ
  rw[hN,aMr,va,aL7 (by omega)] at hv
  simp only[wP,g0,g1,g5,g17,g18,g19,bX,VX,Nat.reduceEqDiff,Nat.reduceAdd]
  refine vK (m:=a*b) kS (by omega) (aLe _) (by omega) (fun d hd=>nF d (aMb hd)) (by rw[aL7 (by omega)];exact hv) fun k hk he => ?_
  simp only[VX,Nat.reduceEqDiff,Nat.reduceAdd]
  exact TI kS (by omega) hk he
end Go.PM
namespace Go.PM
theorem set_drop {xs:List Nat} {i d:Nat} (h:i<xs.length):(xs.set i d).drop i=d::xs.drop (i+1):=by
 rw[List.drop_eq_getElem_cons (by rw[aNt];exact h),List.getElem_set_self,Qi h]
theorem Zx (n k:Nat) (hn:n≤70368744177664) {H:aA}:BR [.int .u32 0] 4 (VI (n:Int)) (VI (n:Int)) H=some (.ref H.length 0 0 n n,H++[.row 0 ((aL4 n 0).map uV) 1 true]):=nX (f:=uV) (x:=0) rfl (by omega) (by omega)
theorem Wl {A q t r x d W:Nat} (h1:t+d*q=r*W+x):(q+W*A)*d+t=x+W*(A*d+r):=by grind
theorem XK {A B P S W c m x q:Nat} (hv:A+P*c=B*S) (h1:m*S+W*q=x*S):A+P*(c+m*S)+P*W*q=(B+P*x)*S:=by
 have h2:P*(m*S+W*q)=P*(x*S):=by rw[h1]
 grind
theorem As (a d:Nat) (FO:0<d) (hdW:d<4294967296) (ha:(aD 4294967296 a).length≤17592186044416):TC 197 [bO a,uV d] (.eH [bO (a / d),uV (a % d)]):=by
 refine TC.walk ⟨true,false⟩ EV rfl (aM2 rfl) (by simp[aO,bT,aY,qM]) (by simp[gV,rE,tZ,qM]) ?_
 have va:=cH (b:=4294967296) (by decide) a
 have la:=gF (b:=4294967296) (by decide) a
 unfold bO
 generalize aD 4294967296 a=xs at *
 have w0:IntKind.i64.wrap ((xs.length:Int)-1)=(xs.length:Int)-1:=wrap64 (by omega) (by omega)
 have wd:IntKind.u64.wrap (d:Int)=(d:Int):=eV _ (by omega)
 simp only[Av,xN,w0,X9 xs.length (by omega),VX,Nat.reduceEqDiff,Nat.reduceAdd]
 refine aN (fun(s:Nat×List Nat×Nat) ρ H=>s.1≤xs.length∧H=[.row 0 (s.2.1.map uV) 1 true]∧s.2.1.length=xs.length∧(∀d∈s.2.1,d<4294967296)∧s.2.2<d∧val 4294967296 (s.2.1.drop s.1)*d+s.2.2=val 4294967296 (xs.drop s.1) ∧
  ρ 0=Ds xs∧ρ 1=uV d∧ρ 6 = .ref 0 0 0 xs.length xs.length∧ρ 7=VK .u64 s.2.2∧ρ 8=VI ((s.1:Int)-1)) (fun s=>s.1) (xs.length,aL4 xs.length 0,0) ⟨aLe _,rfl,by simp,Cx (by decide) _,FO,by simp[val,List.drop_replicate],rfl,rfl,rfl,rfl,rfl⟩ ?_
 rintro⟨j,outs,r⟩ ρ H ⟨hj,rfl,hJ,nF,hr,hv,g0,g1,g6,g7,g8⟩
 simp only at hj hJ nF hr hv g7 g8
 by_cases hz:(0:Int)≤(j:Int)-1
 ·obtain⟨i,rfl⟩:∃i,j=i+1:=⟨j-1,by omega⟩
  obtain⟨x,hx⟩:∃x,xs[i]? = some x:=⟨_,aLl (by omega)⟩
  have lx:=la x (aL8 hx)
  have Ea:((i+1:Nat):Int)-1=(i:Int):=by omega
  rw[Ea] at g8 hz
  have e1:=aF (f:=uV) (t := .op) (H:=[.row 0 (outs.map uV) 1 true]) (size:=1) (k := .i64) hx rfl
  have e3:bI 1 (.ref 0 0 0 xs.length xs.length) (VI i) [.row 0 (outs.map uV) 1 true]=some (.ptr 0 0 i 0):=by rw[bC kS (by omega),aMM]
  have e4:∀s:Nat,bM 0 1 (.ptr 0 0 i 0) (uV s) [.row 0 (outs.map uV) 1 true]=some [.row 0 ((outs.set i s).map uV) 1 true]:=fun s=>Sm (by omega)
  have w2:IntKind.i64.wrap ((i:Int)-1)=(i:Int)-1:=wrap64 (by omega) (by omega)
  have w3:IntKind.u64.wrap (x:Int)=(x:Int):=eV _ (by omega)
  have w4:IntKind.u64.wrap (((r*4294967296:Nat):Int)+(x:Int))=((r*4294967296+x:Nat):Int):=by rw[←aNs];exact eV _ (by omega)
  have w5:=Gs r .u64 (by omega)
  have q1:=Z4 (r*4294967296+x) d (by omega) FO
  have q2:=Tp (r*4294967296+x) d FO
  have hq:(r*4294967296+x) / d<4294967296:=by
   rw[aNB FO]
   have:(r+1)*4294967296≤d*4294967296:=aLF _ hr
   rw[aMG 4294967296 d]
   omega
  simp only[pI,g0,g1,g6,g7,g8,hz,e1,e3,e4,w2,w3,w4,w5,wd,q1,q2,wrap32,aMI hq,VX,Nat.reduceEqDiff,Nat.reduceAdd]
  refine⟨(i,outs.set i ((r*4294967296+x) / d),(r*4294967296+x) % d),by simp only;omega,by omega,rfl,by rw[aNt];exact hJ,oD nF hq,aLG _ FO,?_,by (repeat' apply aMU)<;>first | rfl | trivial⟩
  have h1:=aNz (r*4294967296+x) d
  rw[set_drop (by omega),wY,wQ hx,←hv]
  exact Wl h1
 ·have YS:j=0:=by omega
  subst YS
  rw[aMq,aMq,va] at hv
  have h1:a / d=val 4294967296 outs:=by
   rw[←hv,aMG,Nat.mul_add_div FO,aML hr,aNq]
  have h2:a % d=r:=by
   rw[←hv,aMG,Nat.mul_add_mod,aMI hr]
  simp only[pI,g0,g1,g6,g7,g8,hz,VX,Nat.reduceEqDiff,Nat.reduceAdd]
  refine vK (m:=a / d) kS (by omega) (aLe _) (by omega) (fun d hd=>nF d (aMb hd)) (by rw[aL7 (by omega)];exact h1.symm) fun k hk he => ?_
  simp only[wrap32,aMI (show r<4294967296 by omega),g7,VX,Nat.reduceEqDiff,Nat.reduceAdd]
  rw[h2]
  exact bN (d:=6) (Nz (d:=5) kS (by omega) hk he) (aM rfl)
theorem J9 {n g e:Nat} {es:List VV} {w:Bool}:aJ (aL4 n eR.dead++[.row g es e w]) n g=some (es,e,w):=by rw[NM];exact aQ
theorem aEt {n:Nat} (xs:List Nat):Aw n (xs.map uV)=true:=by
 rw[zM]
 intro x hx
 obtain⟨y,_,rfl⟩:=List.mem_map.1 hx
 rfl
theorem A4 (a s:Nat) (hs:s≤31) (ha:(aD 4294967296 a).length≤17592186044416):FC 199 [bO a,VI s] fun n r L=>∃outs:List Nat,r = .ref n 0 0 ((aD 4294967296 a).length+1) ((aD 4294967296 a).length+1)∧L=[.row 0 (outs.map uV) 1 true]∧outs.length=(aD 4294967296 a).length+1∧(∀d∈outs,d<4294967296)∧val 4294967296 outs=a*2^s∧(∀d,outs[(aD 4294967296 a).length]? = some d→d<2^s):=by
 refine FC.walk ⟨true,false⟩ F5 (aM2 rfl) fun n => ?_
 have va:=cH (b:=4294967296) (by decide) a
 have la:=gF (b:=4294967296) (by decide) a
 unfold bO
 generalize aD 4294967296 a=xs at *
 have hS:0<2^s:=aNC (by decide)
 have hSW:2^s*2^(32-s)=4294967296:=by rw[←aNf,show s+(32-s)=32 by omega]
 have w0:IntKind.i64.wrap ((xs.length:Int)+1)=((xs.length+1:Nat):Int):=wrapN _ (by omega) (by omega)
 simp only[BV,zN,w0,Zx (xs.length+1) n (by omega),List.length_replicate,VX,Nat.reduceEqDiff,Nat.reduceAdd]
 refine aN (fun(t:Nat×List Nat×Nat) ρ H=>t.1≤xs.length∧H=aL4 n .dead++[.row 0 (t.2.1.map uV) 1 true]∧t.2.1.length=xs.length+1∧(∀d∈t.2.1,d<4294967296)∧t.2.1[t.1]? = some t.2.2∧t.2.2<2^s∧val 4294967296 (t.2.1.take t.1)+4294967296^t.1*t.2.2=val 4294967296 (xs.take t.1)*2^s ∧
  ρ 1=VI s∧ρ 5 = .ref n 0 0 (xs.length+1) (xs.length+1)∧ρ 13=Ds xs∧ρ 14=VI xs.length∧ρ 15=VI t.1) (fun t=>xs.length-t.1) (0,aL4 (xs.length+1) 0,0) ⟨aLI _,rfl,by simp,Cx (by decide) _,by simp,hS,by simp[val],rfl,rfl,rfl,rfl,rfl⟩ ?_
 rintro⟨i,outs,c⟩ ρ H ⟨hi,rfl,hJ,nF,hoc,hc,hv,g1,g5,g13,g14,g15⟩
 simp only at hi hJ nF hoc hc hv g15
 by_cases bX:(i:Int)<(xs.length:Int)
 ·obtain⟨x,hx⟩:∃x,xs[i]? = some x:=⟨_,aLl (by omega)⟩
  have lx:=la x (aL8 hx)
  have e1:=aF (f:=uV) (t := .op) (H:=aL4 n .dead++[.row 0 (outs.map uV) 1 true]) (size:=1) (k := .i64) hx rfl
  have wx:IntKind.u64.wrap (x:Int)=(x:Int):=eV _ (by omega)
  have wi:IntKind.i64.wrap ((i:Int)+1)=((i+1:Nat):Int):=wrapN (i+1) (by omega) (by omega)
  have w5:=ayR x s lx hs
  obtain⟨m,hm⟩:∃m,(x*2^s) % 4294967296=m*2^s:=by
   refine⟨x % 2^(32-s),?_⟩
   rw[←hSW,aMG x,Nat.mul_mod_mul_left,aMG]
  have hhi:(x*2^s) / 4294967296<2^s:=by
   rw[aNB (by decide),aMG (2^s)]
   exact aND lx hS
  have bH:(x*2^s) % 4294967296<4294967296:=aLG _ (by decide)
  have hmm:m<2^(32-s):=by
   have:m*2^s<2^(32-s)*2^s:=by rw[←hm,aMG (2^(32-s)) (2^s),hSW];exact bH
   exact aNe this
  have amJ:m*2^s+c<4294967296:=by
   have:(m+1)*2^s≤2^(32-s)*2^s:=aLF _ hmm
   rw[aMG (2^(32-s)),hSW,aLJ] at this
   omega
  have or1:=azD c m s hc amJ
  have e3:bI 1 (.ref n 0 0 (xs.length+1) (xs.length+1)) (VI i) (aL4 n .dead++[.row 0 (outs.map uV) 1 true])=some (.ptr n 0 i 0):=by rw[bC J9 (by omega),aMM]
  have e4:bG false 1 (.ptr n 0 i 0) (aL4 n .dead++[.row 0 (outs.map uV) 1 true])=some (uV c):=jS J9 hoc
  have e5:∀(os:List Nat) (j t:Nat),j<os.length→bM n 1 (.ptr n 0 j 0) (uV t) (aL4 n .dead++[.row 0 (os.map uV) 1 true])=some (aL4 n .dead++[.row 0 ((os.set j t).map uV) 1 true]):=fun os j t hj=>by
   rw[eG (f:=uV) (e:=1) J9 hj (aLe _) rfl rfl,anE]
   rfl
  have e6:bI 1 (.ref n 0 0 (xs.length+1) (xs.length+1)) (VI ((i+1:Nat):Int)) (aL4 n .dead++[.row 0 ((outs.set i (c+m*2^s)).map uV) 1 true])=some (.ptr n 0 (i+1) 0):=by rw[bC J9 (by omega),aMM]
  have e7:=e5 outs i (c+m*2^s) (by omega)
  have e8:=e5 (outs.set i (c+m*2^s)) (i+1) ((x*2^s) / 4294967296) (by rw[aNt];omega)
  have hq:(x*2^s) / 4294967296 % 4294967296=(x*2^s) / 4294967296:=aMI (by
   have:2^s≤2^31:=aNh (by decide) hs
   omega)
  simp only[qL,g1,g5,g13,g14,g15,bX,e1,e3,e4,e6,e7,e8,wx,wi,w5,wrap32,rA,hm,or1,hq,VX,Nat.reduceEqDiff,Nat.reduceAdd]
  refine⟨(i+1,(outs.set i (c+m*2^s)).set (i+1) ((x*2^s) / 4294967296),(x*2^s) / 4294967296),by simp only;omega,by omega,rfl,by rw[aNt,aNt];exact hJ,
   oD (oD nF (by omega)) (by
    have:2^s≤2^31:=aNh (by decide) hs
    omega),by rw[aLC (by rw[aNt];omega)],hhi,?_,by (repeat' apply aMU)<;>first | rfl | trivial⟩
  rw[List.take_set_of_le (aLe _),fI (by omega),bF hx,aMF]
  have h1:=aNz (x*2^s) 4294967296
  rw[hm] at h1
  exact XK hv h1
 ·have mZ:i=xs.length:=by omega
  subst mZ
  rw[aMr,va] at hv
  have Cw:val 4294967296 outs=a*2^s:=by
   have h1:=bF (b:=4294967296) hoc
   rw[aL7 (by omega)] at h1
   rw[h1]
   exact hv
  simp only[qL,g1,g5,g13,g14,g15,bX,VX,Nat.reduceEqDiff,Nat.reduceAdd]
  exact⟨_,rfl,by simp[jL],by simp[mP,aEt outs],outs,rfl,hJ,nF,Cw,fun d hd=>by rw[hoc] at hd;injection hd with hd;omega⟩
end Go.PM
namespace Go.PM
theorem TF {H:aA} {b b' g:Nat} {x:eR} (h:b≠b'):aJ (H.set b x) b' g=aJ H b' g:=by
 unfold aJ
 rw[aLD h]
theorem qH {H:aA} {b g e:Nat} {es oY:List VV} {w w':Bool} (h:aJ H b g=some (es,e,w)):aJ (H.set b (.row g oY e w')) b g=some (oY,e,w'):=by
 have bH:b<H.length:=by
  unfold aJ at h
  split at h
  ·rename_i hb
   exact(aLd.1 hb).1
  ·cases h
 unfold aJ
 rw[aLC bH]
 simp
theorem oI {H:aA} {b:Nat} {x y:eR}:(H.set b x).set b y=H.set b y:=by rw[List.set_set]
theorem AA {H:aA} {b g e:Nat} {es:List VV} {w:Bool} (h:aJ H b g=some (es,e,w)):H.set b (.row g es e w)=H:=by
 apply List.ext_getElem?
 intro i
 by_cases hi:b=i
 ·subst hi
  unfold aJ at h
  split at h
  ·rename_i hb
   split at h
   ·rename_i hg
    cases h
    rw[aLC (aLd.1 hb).1,hb,hg]
   ·cases h
  ·cases h
 ·rw[aLD hi]
theorem ajR {H:aA} {b g o i lo d:Nat} {pre jI post:List Nat} (hr:aJ H b g=some ((pre++jI++post).map uV,1,true)) (ho:pre.length=o) (hi:i<jI.length) (eT:lo≤b) :
  bM lo 1 (.ptr b g (o+i) 0) (uV d) H=some (H.set b (.row g ((pre++jI.set i d++post).map uV) 1 true)):=by
 rw[eG (f:=uV) (e:=1) hr (by simp only[aLp];omega) eT rfl rfl,abR ho hi]
theorem YY {H:aA} {lo b g o L c b2 g2 n2 c2 t:Nat} {pre jI post vs RC:List Nat} {w2:Bool} (hr:aJ H b g=some ((pre++jI++post).map uV,1,true)) (hr2:aJ H b2 g2=some (RC.map uV,1,w2)) (hb:b≠b2) (eT:lo≤b)
  (ho:pre.length=o) (hL:jI.length=L) (aGM:L≤70368744177664) (TT:RC.take n2=vs) (hn2:n2≤RC.length) (hle:n2≤L) (acS:∀d∈jI,d<4294967296) (Kl:∀d∈vs,d<4294967296) (ht:t<4294967296) (Bn:t*val 4294967296 vs≤val 4294967296 jI+val 4294967296 vs) :
  mB 200 [.ref b g o L c,.ref b2 g2 0 n2 c2,VK .u64 t] lo H fun r H'=>∃vG:List Nat,H'=H.set b (.row g ((pre++vG++post).map uV) 1 true)∧vG.length=L∧(∀d∈vG,d<4294967296) ∧
   ((r=VB false∧val 4294967296 vG+t*val 4294967296 vs=val 4294967296 jI)∨(r=VB true∧val 4294967296 jI<t*val 4294967296 vs∧val 4294967296 vG+t*val 4294967296 vs=val 4294967296 jI+val 4294967296 vs)):=by
 refine mB.walk ⟨true,false⟩ M6 (aM2 rfl) ?_
 have HG:vs.length=n2:=by rw[←TT,aMN];omega
 have vM:∀i,i<n2→RC[i]? = vs[i]? := fun i hi=>by rw[←TT,aLB hi]
 have Sl:=rM acS
 have Qh:=rM Kl
 rw[hL] at Sl
 rw[HG] at Qh
 have hVL:val 4294967296 vs≤4294967296^L:=Nat.le_trans (aLV Qh) (aNh (by decide) hle)
 have e0:∀ {K:aA} {es:List VV},aJ K b g=some (es,1,true)→pV (.ref b g o L c) K=some (VI L):=fun h=>eI h
 have e00:∀ {K:aA},aJ K b2 g2=some (RC.map uV,1,w2)→pV (.ref b2 g2 0 n2 c2) K=some (VI n2):=fun h=>eI h
 have rd:∀(s:List Nat),s.length=L→aJ (H.set b (.row g ((pre++s++post).map uV) 1 true)) b g=some ((pre++s++post).map uV,1,true):=fun s _=>qH hr
 have rd2:∀(s:List Nat),aJ (H.set b (.row g ((pre++s++post).map uV) 1 true)) b2 g2=some (RC.map uV,1,w2):=fun s=>by rw[TF hb];exact hr2
 have wi:∀i:Nat,i<L→IntKind.i64.wrap ((i:Int)+1)=((i+1:Nat):Int):=fun i hi=>wrapN (i+1) (by omega) (by omega)
 have back:∀(ρ:cV) (s:List Nat),s.length=L→(∀d∈s,d<4294967296)→(∀s2:List Nat,s2.length=L→(∀d∈s2,d<4294967296)→∀c,val 4294967296 s+val 4294967296 vs=val 4294967296 s2+4294967296^L*c→val 4294967296 s2+t*val 4294967296 vs=val 4294967296 jI+val 4294967296 vs)→val 4294967296 jI<t*val 4294967296 vs→ρ 0 = .ref b g o L c→ρ 1 = .ref b2 g2 0 n2 c2→ρ 7=VK .u64 0→ρ 58=VI L→ρ 59=VI 0 →
   VW ⟨true,false⟩ lo (.loop oC) (tL 2 (pW (VW ⟨true,false⟩ lo (.seq (.cT [⟨(some 6),(.mv (.const (.bool true))),none,false,[]⟩]) .ret) (CV [.tmp 6] fun r H'=>∃vG:List Nat,H'=H.set b (.row g ((pre++vG++post).map uV) 1 true)∧vG.length=L∧(∀d∈vG,d<4294967296)∧((r=VB false∧val 4294967296 vG+t*val 4294967296 vs=val 4294967296 jI)∨(r=VB true∧val 4294967296 jI<t*val 4294967296 vs∧val 4294967296 vG+t*val 4294967296 vs=val 4294967296 jI+val 4294967296 vs)))) (CV [.tmp 6] fun r H'=>∃vG:List Nat,H'=H.set b (.row g ((pre++vG++post).map uV) 1 true)∧vG.length=L∧(∀d∈vG,d<4294967296)∧((r=VB false∧val 4294967296 vG+t*val 4294967296 vs=val 4294967296 jI)∨(r=VB true∧val 4294967296 jI<t*val 4294967296 vs∧val 4294967296 vG+t*val 4294967296 vs=val 4294967296 jI+val 4294967296 vs))))) ρ (H.set b (.row g ((pre++s++post).map uV) 1 true)):=by
  intro ρ s hs TM PX aqZ g0 g1 g7 g58 g59
  refine aN (fun(u:Nat×List Nat×Nat) ρ K=>u.1≤L∧K=H.set b (.row g ((pre++u.2.1++post).map uV) 1 true)∧u.2.1.length=L∧(∀d∈u.2.1,d<4294967296)∧u.2.2≤1∧val 4294967296 (s.take u.1)+val 4294967296 (vs.take u.1)=val 4294967296 (u.2.1.take u.1)+4294967296^u.1*u.2.2∧(∀j,u.1≤j→u.2.1[j]? = s[j]?) ∧
   ρ 0 = .ref b g o L c∧ρ 1 = .ref b2 g2 0 n2 c2∧ρ 7=VK .u64 u.2.2∧ρ 58=VI L∧ρ 59=VI u.1) (fun u=>L-u.1) (0,s,0) ⟨aLI _,rfl,hs,TM,by simp,by simp[val],fun _ _=>rfl,g0,g1,g7,g58,g59⟩ ?_
  rintro⟨i,outs,cy⟩ tU K ⟨hi,rfl,hJ,nF,hc,hv,IU,k0,k1,k7,k58,k59⟩
  simp only at hi hJ nF hc hv IU k7 k59
  by_cases bX:(i:Int)<(L:Int)
  ·obtain⟨x,hx⟩:∃x,outs[i]? = some x:=⟨_,aLl (by omega)⟩
   have lx:=nF x (aL8 hx)
   have FH:s[i]? = some x:=by rw[←IU i (aLe _)];exact hx
   have e1:bI 1 (.ref b g o L c) (VI i) (H.set b (.row g ((pre++outs++post).map uV) 1 true))=some (.ptr b g (o+i) 0):=bC (rd outs hJ) (by omega)
   have e2:bG false 1 (.ptr b g (o+i) 0) (H.set b (.row g ((pre++outs++post).map uV) 1 true))=some (uV x):=jS (rd outs hJ) (by rw[SU ho (by omega)];exact hx)
   have e3:∀d:Nat,bM lo 1 (.ptr b g (o+i) 0) (uV d) (H.set b (.row g ((pre++outs++post).map uV) 1 true))=some (H.set b (.row g ((pre++outs.set i d++post).map uV) 1 true)):=fun d=>by
    rw[ajR (rd outs hJ) ho (by omega) eT,oI]
   have e4:=e00 (rd2 outs)
   have w1:IntKind.u64.wrap (x:Int)=(x:Int):=eV _ (by omega)
   have w2:IntKind.u64.wrap ((cy:Int)+(x:Int))=((cy+x:Nat):Int):=by rw[←aNs];exact eV _ (by omega)
   have wii:=wi i (by omega)
   have step:∀y,y<4294967296→(∀d,vs[i]? = some d→d=y)→(vs.length≤i→y=0) →
     (i+1≤L∧(outs.set i ((cy+x+y) % 4294967296)).length=L∧(∀d∈outs.set i ((cy+x+y) % 4294967296),d<4294967296)∧(cy+x+y) / 4294967296≤1∧val 4294967296 (s.take (i+1))+val 4294967296 (vs.take (i+1))=val 4294967296 ((outs.set i ((cy+x+y) % 4294967296)).take (i+1))+4294967296^(i+1)*((cy+x+y) / 4294967296))∧∀j,i+1≤j→(outs.set i ((cy+x+y) % 4294967296))[j]? = s[j]? := by
    intro y hy h1 h2
    refine⟨⟨by omega,by rw[aNt];exact hJ,oD nF (aLG _ (by decide)),by omega,?_⟩,fun j hj=>by rw[aLD (by omega)];exact IU j (by omega)⟩
    have hy':val 4294967296 (vs.take (i+1))=val 4294967296 (vs.take i)+4294967296^i*y:=by
     cases YV:vs[i]? with
     | some d=>rw[bF YV,h1 d YV]
     |
      none =>
      have hle:=aNu.1 YV
      rw[h2 hle,kY hle,kY (by omega),aNv,aNq]
    rw[bF FH,hy',fI (by omega),aMF]
    exact IQ hv rfl (aNz _ _)
   by_cases bH:(i:Int)<(n2:Int)
   ·obtain⟨y,hy⟩:∃y,vs[i]? = some y:=⟨_,aLl (by omega)⟩
    have ly:=Kl y (aL8 hy)
    have f1:bI 1 (.ref b2 g2 0 n2 c2) (VI i) (H.set b (.row g ((pre++outs++post).map uV) 1 true))=some (.ptr b2 g2 i 0):=by rw[bC (rd2 outs) (by omega),aMM]
    have f2:bG false 1 (.ptr b2 g2 i 0) (H.set b (.row g ((pre++outs++post).map uV) 1 true))=some (uV y):=jS (rd2 outs) (by rw[vM i (by omega)];exact hy)
    have w3:IntKind.u64.wrap (y:Int)=(y:Int):=eV _ (by omega)
    have w4:IntKind.u64.wrap (((cy+x:Nat):Int)+(y:Int))=((cy+x+y:Nat):Int):=by rw[←aNs];exact eV _ (by omega)
    obtain⟨⟨s1,s2,s3,s4,s5⟩,s6⟩:=step y ly (fun d hd=>by rw[hy] at hd;injection hd with hd;exact hd.symm) (fun h=>by omega)
    simp only[oC,k0,k1,k7,k58,k59,bX,bH,e1,e2,e3,e4,f1,f2,w1,w2,w3,w4,wii,wrap32,rA,VX,Nat.reduceEqDiff,Nat.reduceAdd]
    exact⟨(i+1,outs.set i ((cy+x+y) % 4294967296),(cy+x+y) / 4294967296),by simp only;omega,s1,rfl,s2,s3,s4,s5,s6,by (repeat' apply aMU)<;>first | rfl | trivial⟩
   ·obtain⟨⟨s1,s2,s3,s4,s5⟩,s6⟩:=step 0 (by decide) (fun d hd=>by have:=(aLd.1 hd).1;omega) (fun _=>rfl)
    simp only[aNq] at s2 s3 s4 s5 s6
    simp only[oC,k0,k1,k7,k58,k59,bX,bH,e1,e2,e3,e4,w1,w2,wii,wrap32,rA,VX,Nat.reduceEqDiff,Nat.reduceAdd]
    exact⟨(i+1,outs.set i ((cy+x) % 4294967296),(cy+x) / 4294967296),by simp only;omega,s1,rfl,s2,s3,s4,s5,s6,by (repeat' apply aMU)<;>first | rfl | trivial⟩
  ·have mZ:i=L:=by omega
   subst mZ
   rw[aL7 (by omega),aL7 (by omega),aL7 (by omega)] at hv
   simp only[oC,k0,k1,k7,k58,k59,bX,VX,Nat.reduceEqDiff,Nat.reduceAdd]
   exact⟨outs,rfl,hJ,nF,.inr ⟨aqZ,PX outs hJ nF cy hv⟩⟩
 simp only[HM,EJ,e0 hr,VX,Nat.reduceEqDiff,Nat.reduceAdd]
 refine aN (fun(u:Nat×List Nat×Nat×Nat) ρ K=>u.1≤L∧K=H.set b (.row g ((pre++u.2.1++post).map uV) 1 true)∧u.2.1.length=L∧(∀d∈u.2.1,d<4294967296)∧u.2.2.1<4294967296∧u.2.2.2≤1∧val 4294967296 (jI.take u.1)+4294967296^u.1*(u.2.2.1+u.2.2.2)=val 4294967296 (u.2.1.take u.1)+t*val 4294967296 (vs.take u.1)∧(∀j,u.1≤j→u.2.1[j]? = jI[j]?) ∧
  ρ 0 = .ref b g o L c∧ρ 1 = .ref b2 g2 0 n2 c2∧ρ 2=VK .u64 t∧ρ 7=VK .u64 u.2.2.1∧ρ 8=VI u.2.2.2∧ρ 13=VI L∧ρ 14=VI u.1) (fun u=>L-u.1) (0,jI,0,0) ⟨aLI _,(AA hr).symm,hL,acS,by simp,by simp,by simp[val],fun _ _=>rfl,by (repeat' apply aMU)<;>first | rfl | trivial⟩ ?_
 rintro⟨i,outs,cy,l⟩ ρ K ⟨hi,rfl,hJ,nF,hc,Gy,hv,IU,k0,k1,k2,k7,k8,B6,CZ⟩
 simp only at hi hJ nF hc Gy hv IU k7 k8 CZ
 by_cases bX:(i:Int)<(L:Int)
 ·obtain⟨x,hx⟩:∃x,outs[i]? = some x:=⟨_,aLl (by omega)⟩
  have lx:=nF x (aL8 hx)
  have FH:jI[i]? = some x:=by rw[←IU i (aLe _)];exact hx
  have e1:bI 1 (.ref b g o L c) (VI i) (H.set b (.row g ((pre++outs++post).map uV) 1 true))=some (.ptr b g (o+i) 0):=bC (rd outs hJ) (by omega)
  have e2:bG false 1 (.ptr b g (o+i) 0) (H.set b (.row g ((pre++outs++post).map uV) 1 true))=some (uV x):=jS (rd outs hJ) (by rw[SU ho (by omega)];exact hx)
  have e3:∀d:Nat,bM lo 1 (.ptr b g (o+i) 0) (uV d) (H.set b (.row g ((pre++outs++post).map uV) 1 true))=some (H.set b (.row g ((pre++outs.set i d++post).map uV) 1 true)):=fun d=>by
   rw[ajR (rd outs hJ) ho (by omega) eT,oI]
  have e4:=e00 (rd2 outs)
  have wii:=wi i (by omega)
  have w1:IntKind.i64.wrap (x:Int)=(x:Int):=wrapN x rfl (by omega)
  have step:∀y c1,y<4294967296→c1=cy+t*y→(∀d,vs[i]? = some d→d=y)→(vs.length≤i→y=0) →
    c1 / 4294967296<4294967296∧IntKind.i64.wrap ((x:Int)-((c1 % 4294967296:Nat):Int)-(l:Int))=(x:Int)-((c1 % 4294967296:Nat):Int)-(l:Int)∧IntKind.i64.wrap ((x:Int)-((c1 % 4294967296:Nat):Int))=(x:Int)-((c1 % 4294967296:Nat):Int) ∧
    ∃r l',l'≤1∧((x:Int)-((c1 % 4294967296:Nat):Int)-(l:Int)<0↔l'=1)∧IntKind.u32.wrap ((x:Int)-((c1 % 4294967296:Nat):Int)-(l:Int))=((r:Nat):Int) ∧
    (i+1≤L∧(outs.set i r).length=L∧(∀d∈outs.set i r,d<4294967296)∧c1 / 4294967296<4294967296∧l'≤1∧val 4294967296 (jI.take (i+1))+4294967296^(i+1)*(c1 / 4294967296+l')=val 4294967296 ((outs.set i r).take (i+1))+t*val 4294967296 (vs.take (i+1))∧∀j,i+1≤j→(outs.set i r)[j]? = jI[j]?):=by
   intro y c1 hy hc1 h1 h2
   have hty:t*y≤4294967295*4294967295:=aNw (by omega) (by omega)
   have hm:=aLG c1 (show 0<4294967296 by decide)
   have hdv:=aNz c1 4294967296
   have hq:c1 / 4294967296<4294967296:=aNy (by omega)
   refine⟨hq,wrap64 (by omega) (by omega),wrap64 (by omega) (by omega),?_⟩
   obtain⟨r,l',FA,JB,hd,hlw,mG⟩:∃r l':Nat,l'≤1∧r<4294967296∧r+c1 % 4294967296+l=x+4294967296*l'∧IntKind.u32.wrap ((x:Int)-((c1 % 4294967296:Nat):Int)-(l:Int))=((r:Nat):Int)∧((x:Int)-((c1 % 4294967296:Nat):Int)-(l:Int)<0↔l'=1):=by
    by_cases hn:(x:Int)-((c1 % 4294967296:Nat):Int)-(l:Int)<0
    ·exact⟨x+4294967296-c1 % 4294967296-l,1,by omega,by omega,by omega,Oc (by omega) hn (by omega),fun _=>rfl,fun _=>hn⟩
    ·exact⟨x-c1 % 4294967296-l,0,by omega,by omega,by omega,by rw[IntKind.wrap_u32];omega,fun h=>absurd h hn,fun h=>by omega⟩
   refine⟨r,l',FA,mG,hlw,by omega,by rw[aNt];exact hJ,oD nF JB,hq,FA,?_,fun j hj=>by rw[aLD (by omega)];exact IU j (by omega)⟩
   have hy':val 4294967296 (vs.take (i+1))=val 4294967296 (vs.take i)+4294967296^i*y:=by
    cases YV:vs[i]? with
    | some d=>rw[bF YV,h1 d YV]
    |
     none =>
     have hle:=aNu.1 YV
     rw[h2 hle,kY hle,kY (by omega),aNv,aNq]
   rw[bF FH,hy',fI (by omega),aMF]
   have:=afL hv hc1 hdv.symm hd
   rw[this,Nat.mul_add,Nat.mul_left_comm t]
  by_cases bH:(i:Int)<(n2:Int)
  ·obtain⟨y,hy⟩:∃y,vs[i]? = some y:=⟨_,aLl (by omega)⟩
   have ly:=Kl y (aL8 hy)
   have f1:bI 1 (.ref b2 g2 0 n2 c2) (VI i) (H.set b (.row g ((pre++outs++post).map uV) 1 true))=some (.ptr b2 g2 i 0):=by rw[bC (rd2 outs) (by omega),aMM]
   have f2:bG false 1 (.ptr b2 g2 i 0) (H.set b (.row g ((pre++outs++post).map uV) 1 true))=some (uV y):=jS (rd2 outs) (by rw[vM i (by omega)];exact hy)
   have w3:IntKind.u64.wrap (y:Int)=(y:Int):=eV _ (by omega)
   have hty:t*y≤4294967295*4294967295:=aNw (by omega) (by omega)
   have w4:IntKind.u64.wrap ((t:Int)*(y:Int))=((t*y:Nat):Int):=by rw[←aNx];exact eV _ (by omega)
   have w5:IntKind.u64.wrap ((cy:Int)+((t*y:Nat):Int))=((cy+t*y:Nat):Int):=by rw[←aNs];exact eV _ (by omega)
   have w6:IntKind.i64.wrap (((cy+t*y) % 4294967296:Nat):Int)=(((cy+t*y) % 4294967296:Nat):Int):=wrapN _ rfl (by omega)
   obtain⟨_,a1,a2,r,l',FA,mG,hw,s1,s2,s3,s4,s5,s6,s7⟩:=step y (cy+t*y) ly rfl (fun d hd=>by rw[hy] at hd;injection hd with hd;exact hd.symm) (fun h=>by omega)
   by_cases hn:(x:Int)-(((cy+t*y) % 4294967296:Nat):Int)-(l:Int)<0
   ·have:=mG.1 hn
    subst this
    simp only[gS,k0,k1,k2,k7,k8,B6,CZ,bX,bH,e1,e2,e3,e4,f1,f2,w1,w3,w4,w5,w6,a1,a2,hn,hw,wii,wrap32,rA,VX,Nat.reduceEqDiff,Nat.reduceAdd]
    exact⟨(i+1,outs.set i r,(cy+t*y) / 4294967296,1),by simp only;omega,s1,rfl,s2,s3,s4,s5,s6,s7,by (repeat' apply aMU)<;>first | rfl | trivial⟩
   ·have:l'=0:=by
     have:l'≠1:=fun h=>hn (mG.2 h)
     omega
    subst this
    simp only[gS,k0,k1,k2,k7,k8,B6,CZ,bX,bH,e1,e2,e3,e4,f1,f2,w1,w3,w4,w5,w6,a1,a2,hn,hw,wii,wrap32,rA,VX,Nat.reduceEqDiff,Nat.reduceAdd]
    exact⟨(i+1,outs.set i r,(cy+t*y) / 4294967296,0),by simp only;omega,s1,rfl,s2,s3,s4,s5,s6,s7,by (repeat' apply aMU)<;>first | rfl | trivial⟩
  ·have w6:IntKind.i64.wrap ((cy % 4294967296:Nat):Int)=((cy % 4294967296:Nat):Int):=wrapN _ rfl (by omega)
   obtain⟨_,a1,a2,r,l',FA,mG,hw,s1,s2,s3,s4,s5,s6,s7⟩:=step 0 cy (by decide) (by simp) (fun d hd=>by have:=(aLd.1 hd).1;omega) (fun _=>rfl)
   by_cases hn:(x:Int)-((cy % 4294967296:Nat):Int)-(l:Int)<0
   ·have:=mG.1 hn
    subst this
    simp only[gS,k0,k1,k2,k7,k8,B6,CZ,bX,bH,e1,e2,e3,e4,w1,w6,a1,a2,hn,hw,wii,wrap32,rA,VX,Nat.reduceEqDiff,Nat.reduceAdd]
    exact⟨(i+1,outs.set i r,cy / 4294967296,1),by simp only;omega,s1,rfl,s2,s3,s4,s5,s6,s7,by (repeat' apply aMU)<;>first | rfl | trivial⟩
   ·have:l'=0:=by
     have:l'≠1:=fun h=>hn (mG.2 h)
     omega
    subst this
    simp only[gS,k0,k1,k2,k7,k8,B6,CZ,bX,bH,e1,e2,e3,e4,w1,w6,a1,a2,hn,hw,wii,wrap32,rA,VX,Nat.reduceEqDiff,Nat.reduceAdd]
    exact⟨(i+1,outs.set i r,cy / 4294967296,0),by simp only;omega,s1,rfl,s2,s3,s4,s5,s6,s7,by (repeat' apply aMU)<;>first | rfl | trivial⟩
 ·have mZ:i=L:=by omega
  subst mZ
  rw[aL7 (by omega),aL7 (by omega),aL7 (by omega)] at hv
  have aAh:=rM nF
  rw[hJ] at aAh
  by_cases hz:l=0∧cy=0
  ·obtain⟨rfl,rfl⟩:=hz
   simp only[gS,k0,k1,k2,k7,k8,B6,CZ,bX,Int.natCast_zero,VX,Nat.reduceEqDiff,Nat.reduceAdd]
   exact⟨outs,rfl,hJ,nF,.inl (by simpa using hv.symm)⟩
  ·have afW:cy+l=1:=by
    rcases alE hv aAh hVL Bn with h | h<;>omega
   rw[afW,Nat.mul_one] at hv
   have aqZ:val 4294967296 jI<t*val 4294967296 vs:=by omega
   have fin:∀s2:List Nat,s2.length=i→(∀d∈s2,d<4294967296)→∀c,val 4294967296 outs+val 4294967296 vs=val 4294967296 s2+4294967296^i*c→val 4294967296 s2+t*val 4294967296 vs=val 4294967296 jI+val 4294967296 vs:=by
    intro s2 h2 h3 c h4
    have h5:=rM h3
    rw[h2] at h5
    exact aiK hv h4 h5 hVL Bn Sl (by omega)
   have hlen:=e0 (rd outs hJ)
   by_cases Ci:(l:Int)=0
   ·have hcy:¬(cy:Int)=0:=by omega
    simp only[gS,k0,k1,k2,k7,k8,B6,CZ,bX,Ci,hcy,hlen,VX,Nat.reduceEqDiff,Nat.reduceAdd]
    exact back _ outs hJ nF fin aqZ k0 k1 (by rfl) (by rfl) (by rfl)
   ·simp only[gS,k0,k1,k2,k7,k8,B6,CZ,bX,Ci,hlen,VX,Nat.reduceEqDiff,Nat.reduceAdd]
    exact back _ outs hJ nF fin aqZ k0 k1 (by rfl) (by rfl) (by rfl)
end Go.PM
namespace Go.PM
theorem AB {d:Nat} {H:aA}:fz (d+1) H (.tree [] .nil)=some (bO 0):=by
 rw[Gj]
 unfold fz
 have:aY (.tree [] .nil)=false:=by simp[aY]
 simp only[this,Bool.false_eq_true,if_false]
 rfl
theorem amD {d:Nat} {H:aA} {m:Nat} {t:TK} (ht:t = .cl 1∨t = .op):fz (d+2) H (.tree ((aD 4294967296 m).map uV) t)=some (bO m):=by
 rcases ht with rfl | rfl
 ·unfold fz
  have:aY (.tree ((aD 4294967296 m).map uV) (.cl 1))=false:=by simp[aY]
  simp only[this,Bool.false_eq_true,if_false]
  rw[mapM_pure (fO fun _=>rfl)]
  rfl
 ·exact aM (bT m)
abbrev H3 (us ws os:List Nat):aA:=[.row 0 (us.map uV) 1 true,.row 0 (ws.map uV) 1 true,.row 0 (os.map uV) 1 true]
theorem EW {us ws os:List Nat}:aJ (H3 us ws os) 0 0=some (us.map uV,1,true):=rfl
theorem aBR {us ws os:List Nat}:aJ (H3 us ws os) 1 0=some (ws.map uV,1,true):=rfl
theorem asD {us ws os:List Nat}:aJ (H3 us ws os) 2 0=some (os.map uV,1,true):=rfl
theorem aeS {us:List Nat} {i n N V:Nat} (hN:us.length=N) (bX:i+n<N) (hd:∀d∈us,d<4294967296) (hV:V<4294967296^n) (EE:val 4294967296 (us.drop (i+1))<V) :
  us=us.take i++(us.drop i).take (n+1)++us.drop (i+(n+1))∧(us.take i).length=i∧((us.drop i).take (n+1)).length=n+1∧val 4294967296 ((us.drop i).take (n+1))<4294967296*V∧val 4294967296 (us.drop i)=val 4294967296 ((us.drop i).take (n+1))∧val 4294967296 (us.drop (i+(n+1)))=0∧∀j,j<n+1→((us.drop i).take (n+1))[j]? = us[i+j]? := by
 obtain⟨x,hx⟩:∃x,us[i]? = some x:=⟨_,aLl (by omega)⟩
 have lx:=hd x (aL8 hx)
 have h1:=wQ (b:=4294967296) hx
 have h2:val 4294967296 (us.drop i)<4294967296*V:=by
  have:4294967296*(val 4294967296 (us.drop (i+1))+1)≤4294967296*V:=aNd _ EE
  omega
 have h3:=sN (b:=4294967296) (us.drop i) (n+1)
 have h4:((us.drop i).take (n+1)).length=n+1:=by rw[aMN,aNE];omega
 rw[h4,List.drop_drop] at h3
 have h5:val 4294967296 (us.drop (i+(n+1)))=0:=by
  rcases Nat.eq_zero_or_pos (val 4294967296 (us.drop (i+(n+1)))) with h | h
  ·exact h
  ·have h6:4294967296^(n+1)*1≤4294967296^(n+1)*val 4294967296 (us.drop (i+(n+1))):=aNd _ h
   have h7:4294967296*V≤4294967296^(n+1):=by rw[aMF,aMG];exact aLF _ (by omega)
   omega
 rw[h5,aNv,aNq] at h3
 refine⟨?_,by rw[aMN];omega,h4,by omega,h3,h5,fun j hj => ?_⟩
 ·rw[aM0,←List.drop_drop,aMn,aMn]
 ·rw[aLB hj,List.getElem?_drop]
theorem Wb {x D p w:Nat} (hp:0<p) (hw:p*w=4294967296):(x+4294967296*D) / p=((D % 4294967296*4294967296+x) / p) % 4294967296+4294967296*(D / p)∨¬x<4294967296:=by
 rcases aLh x 4294967296 with hx | hx
 ·left
  have h1:(x+4294967296*D) / p / 4294967296=D / p:=by
   rw[aNF,aMG p,←aNF,aNG _ _ (by decide),aML hx,aMM]
  have h2:(x+4294967296*D) / p % 4294967296=(D % 4294967296*4294967296+x) / p % 4294967296:=by
   have e:x+4294967296*D=(D % 4294967296*4294967296+x)+p*(4294967296*(w*(D / 4294967296))):=by
    have h3:=aNz D 4294967296
    have h4:p*(4294967296*(w*(D / 4294967296)))=(p*w)*(4294967296*(D / 4294967296)):=by grind
    rw[h4,hw]
    omega
   rw[e,aNG _ _ hp,aNH]
  have:=aNz ((x+4294967296*D) / p) 4294967296
  rw[h1,h2] at this
  exact this.symm
 ·right
  omega
theorem XU {x:Nat} (h0:x≠0) (hx:x<4294967296):∃s,s≤31∧TC 198 [uV x] (VI (s:Nat))∧x*2^s<4294967296:=by
 obtain⟨h1,h2,h3⟩:=Lib.bitLenAux_bounds 64 x (by omega) h0
 have h4:Lib.bitLenAux 64 x-1<32:=by
  have:2^(Lib.bitLenAux 64 x-1)<2^32:=by omega
  exact(Nat.pow_lt_pow_iff_right (by decide)).1 this
 refine⟨32-Lib.bitLenAux 64 x,by omega,?_,?_⟩
 ·have:=afT x hx
  have e:(((32-Lib.bitLenAux 64 x:Nat)):Int)=32-(Lib.bitLen x:Int):=by unfold Lib.bitLen;omega
  rw[e]
  exact this
 ·have:2^Lib.bitLenAux 64 x*2^(32-Lib.bitLenAux 64 x)=4294967296:=by rw[←aNf,show Lib.bitLenAux 64 x+(32-Lib.bitLenAux 64 x)=32 by omega]
  rw[←this]
  exact aND h3 (aNC (by decide))
theorem aeT {us ws os:List Nat} {k N s w0:Nat} {ρ:cV} {Q:VQ} (hs:s≤31) (hw:2^s*w0=4294967296) (hN:us.length=N) (hk:k≤N) (E5:N≤70368744177664) (hd:∀d∈us,d<4294967296) (g8:ρ 8=VI s) (g9:ρ 9 = .ref 0 0 0 k N) (aFI:ρ 147=VI k) (aDM:ρ 148=VI 0)
  (hQ:∀(aP:cV) (HX:List Nat),aP 9 = .ref 0 0 0 k N→aP 13=ρ 13→HX.length=N→(∀d∈HX,d<4294967296)→val 4294967296 (HX.take k)=val 4294967296 (us.take k) / 2^s→Q (.exit 4) aP (H3 HX ws os)) :
  VW ⟨true,false⟩ 0 (.loop mW) Q ρ (H3 us ws os):=by
 have hp:0<2^s:=aNC (by decide)
 refine aN (fun(t:Nat×List Nat) aP H=>t.1≤k∧H=H3 t.2 ws os∧t.2.length=N∧(∀d∈t.2,d<4294967296)∧(∀j,t.1≤j→t.2[j]? = us[j]?)∧val 4294967296 (t.2.take t.1)+4294967296^t.1*(val 4294967296 ((us.take k).drop t.1) / 2^s)=val 4294967296 (us.take k) / 2^s ∧
  aP 8=VI s∧aP 9 = .ref 0 0 0 k N∧aP 13=ρ 13∧aP 147=VI k∧aP 148=VI t.1) (fun t=>k-t.1) (0,us) ⟨aLI _,rfl,hN,hd,fun _ _=>rfl,by simp[val],g8,g9,rfl,aFI,aDM⟩ ?_
 rintro⟨i,vs⟩ tU H ⟨hi,rfl,HG,Kl,IU,hv,k8,k9,B6,azW,apY⟩
 simp only at hi HG Kl IU hv apY
 by_cases bX:(i:Int)<(k:Int)
 ·obtain⟨x,hx⟩:∃x,us[i]? = some x:=⟨_,aLl (by omega)⟩
  have hx2:vs[i]? = some x:=by rw[IU i (aLe _)];exact hx
  have lx:=hd x (aL8 hx)
  have hx3:(us.take k)[i]? = some x:=by rw[aLB (by omega)];exact hx
  have h1:=wQ (b:=4294967296) hx3
  generalize hD:val 4294967296 ((us.take k).drop (i+1))=D at *
  have hlen:pV (.ref 0 0 0 k N) (H3 vs ws os)=some (VI k):=eI EW
  have e1:bI 1 (.ref 0 0 0 k N) (VI i) (H3 vs ws os)=some (.ptr 0 0 i 0):=by rw[bC EW (by omega),aMM]
  have e2:bG false 1 (.ptr 0 0 i 0) (H3 vs ws os)=some (uV x):=jS EW hx2
  have e3:∀d:Nat,bM 0 1 (.ptr 0 0 i 0) (uV d) (H3 vs ws os)=some (H3 (vs.set i d) ws os):=fun d=>by
   rw[eG (f:=uV) (e:=1) EW (by omega) (aLe _) rfl rfl]
   rfl
  have wi:IntKind.i64.wrap ((i:Int)+1)=((i+1:Nat):Int):=wrapN (i+1) (by omega) (by omega)
  have wx:IntKind.u64.wrap (x:Int)=(x:Int):=eV _ (by omega)
  have hm:=aLG D (show 0<4294967296 by decide)
  have w5:=Gs (D % 4294967296) .u64 hm
  have w6:IntKind.u64.wrap (((D % 4294967296*4294967296:Nat):Int)+(x:Int))=((D % 4294967296*4294967296+x:Nat):Int):=by rw[←aNs];exact eV _ (by omega)
  have w7:=alC (D % 4294967296*4294967296+x) s hs
  have sd:(x+4294967296*D) / 2^s=((D % 4294967296*4294967296+x) / 2^s) % 4294967296+4294967296*(D / 2^s):=by
   rcases Wb (x:=x) (D:=D) hp hw with h | h
   ·exact h
   ·exact absurd lx h
  have next:∃s':Nat×List Nat,k-s'.1<k-i∧s'.1≤k∧H3 (vs.set i (((D % 4294967296*4294967296+x) / 2^s) % 4294967296)) ws os=H3 s'.2 ws os∧s'.2.length=N∧(∀d∈s'.2,d<4294967296)∧(∀j,s'.1≤j→s'.2[j]? = us[j]?)∧val 4294967296 (s'.2.take s'.1)+4294967296^s'.1*(val 4294967296 ((us.take k).drop s'.1) / 2^s)=val 4294967296 (us.take k) / 2^s∧s'.1=i+1:=by
   refine⟨(i+1,vs.set i (((D % 4294967296*4294967296+x) / 2^s) % 4294967296)),by simp only;omega,by simp only;omega,rfl,by simp only[aNt];exact HG,oD Kl (aLG _ (by decide)),fun j hj => ?_,?_,rfl⟩
   ·simp only at hj ⊢
    rw[aLD (by omega)]
    exact IU j (by omega)
   ·simp only
    rw[fI (by omega),hD,←hv,h1,sd,aMF]
    generalize (D % 4294967296*4294967296+x) / 2^s % 4294967296=q
    generalize D / 2^s=E
    rw[Nat.mul_add,aNA,Nat.add_assoc]
  obtain⟨s',n1,n2,n3,n4,n5,n6,n7,n8⟩:=next
  by_cases aCV:((i+1:Nat):Int)<(k:Int)
  ·obtain⟨h,hh⟩:∃h,us[i+1]? = some h:=⟨_,aLl (by omega)⟩
   have hh2:vs[i+1]? = some h:=by rw[IU (i+1) (by omega)];exact hh
   have hhD:D % 4294967296=h:=by
    have hh3:(us.take k)[i+1]? = some h:=by rw[aLB (by omega)];exact hh
    have:=wQ (b:=4294967296) hh3
    rw[hD] at this
    have lh:=hd h (aL8 hh)
    omega
   have f1:bI 1 (.ref 0 0 0 k N) (VI ((i+1:Nat):Int)) (H3 vs ws os)=some (.ptr 0 0 (i+1) 0):=by rw[bC EW (by omega),aMM]
   have f2:bG false 1 (.ptr 0 0 (i+1) 0) (H3 vs ws os)=some (uV h):=jS EW hh2
   have wh:IntKind.u64.wrap (h:Int)=(h:Int):=eV _ (by omega)
   rw[hhD] at w5 w6 w7 n3
   simp only[mW,k8,k9,azW,apY,bX,aCV,hlen,e1,e2,e3,f1,f2,wi,wx,wh,w5,w6,w7,wrap32,VX,Nat.reduceEqDiff,Nat.reduceAdd]
   exact⟨s',n1,n2,n3,n4,n5,n6,n7,B6,by rw[n8]⟩
  ·have hD0:D=0:=by
    rw[←hD,aM7 (by rw[aMN];omega)]
    rfl
   subst hD0
   have w5':dO .shl (.int .u64 0) (.int .u64 32)=some (.int .u64 0):=Gs 0 .u64 (by decide)
   have w6':IntKind.u64.wrap ((0:Int)+(x:Int))=(x:Int):=by rw[Int.zero_add];exact wx
   have w7':=alC x s hs
   simp only[Nat.zero_mod,Nat.zero_mul,aMM] at n3
   simp only[mW,k8,k9,azW,apY,bX,aCV,hlen,e1,e2,e3,wi,wx,w5',w6',w7',wrap32,VX,Nat.reduceEqDiff,Nat.reduceAdd]
   exact⟨s',n1,n2,n3,n4,n5,n6,n7,B6,by rw[n8]⟩
 ·have mZ:i=k:=by omega
  subst mZ
  rw[aM7 (by rw[aMN];omega)] at hv
  simp only[val,Nat.zero_div,aNv,aNq] at hv
  simp only[mW,k8,k9,azW,apY,bX,VX,Nat.reduceEqDiff,Nat.reduceAdd]
  exact hQ _ vs k9 B6 HG Kl hv
end Go.PM
namespace Go.PM
theorem YR {jI vs us ws os:List Nat} {n u2 u1 u0 v1 v0 N k g left:Nat} (G:Ar 4294967296 jI vs n u2 u1 u0 v1 v0) {ρ:cV} {Q:VQ} (hN:us.length=N) (Gk:2≤k) (hkN:k<N) (E5:N≤70368744177664) (hu0:us[k-2]? = some u0)
  (g9:ρ 9 = .ref 0 0 0 N N) (g11:ρ 11=VK .u64 v1) (g12:ρ 12=VK .u64 v0) (g15:ρ 15=VI k) (g17:ρ 17=VK .u64 g) (g18:ρ 18=VK .u64 left) (hh:u2*4294967296+u1=g*v1+left) (hq:val 4294967296 jI / val 4294967296 vs≤g) (hl:left<4294967296) (hgb:g<18446744073709551616)
  (hQ:∀(aP:cV) (g':Nat),val 4294967296 jI / val 4294967296 vs≤g'→g'≤val 4294967296 jI / val 4294967296 vs+1→g'<4294967296→aP 17=VK .u64 g'→aP 8=ρ 8→aP 9=ρ 9→aP 10=ρ 10→aP 11=ρ 11→aP 12=ρ 12→aP 13=ρ 13→aP 14=ρ 14→aP 15=ρ 15→Q (.exit 2) aP (H3 us ws os)) :
  VW ⟨true,false⟩ 0 (.loop iH) Q ρ (H3 us ws os):=by
 have lv1:=G.Zf
 have lv0:=G.ahW
 have lu0:=G.avI
 have qlt:=G.aqG
 have lQ:=G.pos
 refine aN (fun(t:Nat×Nat) aP H=>H=H3 us ws os∧u2*4294967296+u1=t.1*v1+t.2∧val 4294967296 jI / val 4294967296 vs≤t.1∧t.2<4294967296∧t.1<18446744073709551616 ∧
  aP 9 = .ref 0 0 0 N N∧aP 11=VK .u64 v1∧aP 12=VK .u64 v0∧aP 15=VI k∧aP 17=VK .u64 t.1∧aP 18=VK .u64 t.2∧aP 8=ρ 8∧aP 10=ρ 10∧aP 13=ρ 13∧aP 14=ρ 14) (fun t=>4294967296-t.2) (g,left) ⟨rfl,hh,hq,hl,hgb,g9,g11,g12,g15,g17,g18,rfl,rfl,rfl,rfl⟩ ?_
 rintro⟨g,left⟩ tU H ⟨rfl,hh,hq,hl,hgb,k9,ZX,K9,Nr,Iu,Xg,k8,k10,B6,CZ⟩
 simp only at hh hq hl hgb Iu Xg
 have e1:bI 1 (.ref 0 0 0 N N) (VI ((k-2:Nat):Int)) (H3 us ws os)=some (.ptr 0 0 (k-2) 0):=by rw[bC EW (by omega),aMM]
 have e2:bG false 1 (.ptr 0 0 (k-2) 0) (H3 us ws os)=some (uV u0):=jS EW hu0
 have wk:IntKind.i64.wrap ((k:Int)-2)=((k-2:Nat):Int):=wrapN _ (by omega) (by omega)
 have wu:IntKind.u64.wrap (u0:Int)=(u0:Int):=eV _ (by omega)
 have ws:=Gs left .u64 hl
 have wa:IntKind.u64.wrap (((left*4294967296:Nat):Int)+(u0:Int))=((left*4294967296+u0:Nat):Int):=by rw[←aNs];exact eV _ (by omega)
 have wl:IntKind.u64.wrap ((left:Int)+(v1:Int))=((left+v1:Nat):Int):=by rw[←aNs];exact eV _ (by omega)
 have same:tU 9=ρ 9∧tU 11=ρ 11∧tU 12=ρ 12∧tU 15=ρ 15:=⟨by rw[k9,g9],by rw[ZX,g11],by rw[K9,g12],by rw[Nr,g15]⟩
 obtain⟨s9,s11,s12,s15⟩:=same
 have down:val 4294967296 jI / val 4294967296 vs<g→∃g',g=g'+1∧IntKind.u64.wrap ((g:Int)-1)=(g':Int)∧u2*4294967296+u1=g'*v1+(left+v1)∧val 4294967296 jI / val 4294967296 vs≤g':=by
  intro h
  have Xm:1≤g:=Nat.lt_of_le_of_lt (aLI _) h
  obtain⟨g',rfl⟩:∃g',g=g'+1:=⟨g-1,by omega⟩
  refine⟨g',rfl,?_,?_,by omega⟩
  ·rw[show ((g'+1:Nat):Int)-1=(g':Int) by omega]
   exact eV _ (by omega)
  ·rw[hh,aLJ]
   omega
 by_cases hA:(4294967296:Int)≤(g:Int)
 ·obtain⟨g',hg',wg,Xx,Pn⟩:=down (by omega)
  by_cases hB:(4294967296:Int)≤((left+v1:Nat):Int)
  ·obtain⟨c1,c2⟩:=G.broken Xx (by omega)
   simp only[iH,k9,ZX,K9,Nr,Iu,Xg,hA,hB,wg,wl,VX,Nat.reduceEqDiff,Nat.reduceAdd]
   exact hQ _ g' Pn (G.aeZ Xx (by omega) c2) c1 rfl k8 s9 k10 s11 s12 B6 CZ s15
  ·simp only[iH,k9,ZX,K9,Nr,Iu,Xg,hA,hB,wg,wl,VX,Nat.reduceEqDiff,Nat.reduceAdd]
   exact⟨(g',left+v1),by simp only;omega,Xx,Pn,by simp only;omega,by simp only;omega,by rfl,by rfl,k8,k10,B6,CZ⟩
 ·have hgv:g*v0≤4294967295*4294967295:=aNw (by omega) (by omega)
  have wm:IntKind.u64.wrap ((g:Int)*(v0:Int))=((g*v0:Nat):Int):=by rw[←aNx];exact eV _ (by omega)
  by_cases hT:((left*4294967296+u0:Nat):Int)<((g*v0:Nat):Int)
  ·obtain⟨g',hg',wg,Xx,Pn⟩:=down (G.too hh (by omega))
   by_cases hB:(4294967296:Int)≤((left+v1:Nat):Int)
   ·obtain⟨c1,c2⟩:=G.broken Xx (by omega)
    simp only[iH,k9,ZX,K9,Nr,Iu,Xg,hA,hB,hT,e1,e2,wk,wu,ws,wa,wm,wg,wl,VX,Nat.reduceEqDiff,Nat.reduceAdd]
    exact hQ _ g' Pn (G.aeZ Xx (by omega) c2) c1 rfl k8 s9 k10 s11 s12 B6 CZ s15
   ·simp only[iH,k9,ZX,K9,Nr,Iu,Xg,hA,hB,hT,e1,e2,wk,wu,ws,wa,wm,wg,wl,VX,Nat.reduceEqDiff,Nat.reduceAdd]
    exact⟨(g',left+v1),by simp only;omega,Xx,Pn,by simp only;omega,by simp only;omega,by rfl,by rfl,k8,k10,B6,CZ⟩
  ·simp only[iH,k9,ZX,K9,Nr,Iu,Xg,hA,hT,e1,e2,wk,wu,ws,wa,wm,VX,Nat.reduceEqDiff,Nat.reduceAdd]
   exact hQ _ g hq (G.aeZ hh (by omega) (by omega)) (by omega) Iu k8 s9 k10 s11 s12 B6 CZ s15
theorem N6 {X S S' R V q Q P w:Nat} (hs:S=q*V+S') (h:X+P*S+P*w*V*Q=R):X+P*S'+P*V*(q+w*Q)=R:=by
 subst hs
 grind
theorem ahG {Hg ws os0 vs:List Nat} {N m n v1 v0 A s:Nat} {ρ:cV} {Q:VQ} (hN:Hg.length=N) (hm:m+(n+2)=N) (E5:N≤70368744177664) (Mh:∀d∈Hg,d<4294967296) (hws:ws.take (n+2)=vs) (hwl:ws.length=n+3) (HG:vs.length=n+2) (Kl:∀d∈vs,d<4294967296) (f1:vs[n+1]? = some v1) (f0:vs[n]? = some v0) (lQ:1≤v1)
  (hA:val 4294967296 Hg=A) (EE:val 4294967296 (Hg.drop m)<val 4294967296 vs) (hJ:os0.length=m) (nF:∀d∈os0,d<4294967296)
  (g8:ρ 8=VI s) (g9:ρ 9 = .ref 0 0 0 N N) (g10:ρ 10 = .ref 1 0 0 (n+2) (n+3)) (g11:ρ 11=VK .u64 v1) (g12:ρ 12=VK .u64 v0) (g13:ρ 13 = .ref 2 0 0 m m) (g14:ρ 14=VI ((m:Int)-1))
  (hQ:∀(aP:cV) (us os:List Nat),aP 8=VI s→aP 9 = .ref 0 0 0 N N→aP 13 = .ref 2 0 0 m m→us.length=N→(∀d∈us,d<4294967296)→os.length=m→(∀d∈os,d<4294967296)→val 4294967296 us+val 4294967296 vs*val 4294967296 os=A→val 4294967296 us<val 4294967296 vs→Q (.exit 0) aP (H3 us ws os)) :
  VW ⟨true,false⟩ 0 (.loop qZ) Q ρ (H3 Hg ws os0):=by
 have hVb:=rM Kl
 rw[HG] at hVb
 refine aN (fun(t:Nat×List Nat×List Nat) aP H=>t.1≤m∧H=H3 t.2.1 ws t.2.2∧t.2.1.length=N∧(∀d∈t.2.1,d<4294967296)∧t.2.2.length=m∧(∀d∈t.2.2,d<4294967296)∧val 4294967296 (t.2.1.drop t.1)<val 4294967296 vs∧val 4294967296 t.2.1+4294967296^t.1*val 4294967296 vs*val 4294967296 (t.2.2.drop t.1)=A ∧
  aP 8=VI s∧aP 9 = .ref 0 0 0 N N∧aP 10 = .ref 1 0 0 (n+2) (n+3)∧aP 11=VK .u64 v1∧aP 12=VK .u64 v0∧aP 13 = .ref 2 0 0 m m∧aP 14=VI ((t.1:Int)-1)) (fun t=>t.1) (m,Hg,os0) ⟨aLe _,rfl,hN,Mh,hJ,nF,EE,by rw[aM7 (by simp only;omega)];simpa[val] using hA,g8,g9,g10,g11,g12,g13,g14⟩ ?_
 rintro⟨j,us,os⟩ tU H ⟨hj,rfl,TX,Mh,hJ,nF,bH,hv,k8,k9,k10,ZX,K9,B6,CZ⟩
 simp only at hj TX Mh hJ nF bH hv CZ
 by_cases hz:(0:Int)≤(j:Int)-1
 ·obtain⟨i,rfl⟩:∃i,j=i+1:=⟨j-1,by omega⟩
  have Ea:((i+1:Nat):Int)-1=(i:Int):=by omega
  rw[Ea] at CZ hz
  obtain⟨YG,CW,Sl,hsW,aiG,aoR,vM⟩:=aeS (n:=n+2) TX (by omega) Mh hVb bH
  generalize acS:(us.drop i).take (n+2+1)=jI at *
  have TM:∀d∈jI,d<4294967296:=fun d hd=>by rw[←acS] at hd;exact Mh d (aMc (aMb hd))
  obtain⟨u2,hu2⟩:∃u2,us[i+(n+2)]? = some u2:=⟨_,aLl (by omega)⟩
  obtain⟨u1,hu1⟩:∃u1,us[i+(n+1)]? = some u1:=⟨_,aLl (by omega)⟩
  obtain⟨u0,hu0⟩:∃u0,us[i+n]? = some u0:=⟨_,aLl (by omega)⟩
  have G:Ar 4294967296 jI vs n u2 u1 u0 v1 v0:=⟨by decide,TM,Kl,Sl,HG,by rw[vM _ (by omega)];exact hu2,by rw[vM _ (by omega)];exact hu1,by rw[vM _ (by omega)];exact hu0,f1,f0,lQ,hsW⟩
  have lu2:=G.avU
  have lu1:=G.aiY
  have lv1:=G.Zf
  have qlt:=G.aqG
  have LD:=G.LD
  have azP:pV (.ref 1 0 0 (n+2) (n+3)) (H3 us ws os)=some (VI ((n+2:Nat):Int)):=eI aBR
  have w1:IntKind.i64.wrap ((i:Int)+((n+2:Nat):Int))=((i+(n+2):Nat):Int):=by rw[←aNs];exact wrapN _ rfl (by omega)
  have w2:IntKind.i64.wrap (((i+(n+2):Nat):Int)-1)=((i+(n+1):Nat):Int):=wrapN _ (by omega) (by omega)
  have e2:bI 1 (.ref 0 0 0 N N) (VI ((i+(n+2):Nat):Int)) (H3 us ws os)=some (.ptr 0 0 (i+(n+2)) 0):=by rw[bC EW (by omega),aMM]
  have e1:bI 1 (.ref 0 0 0 N N) (VI ((i+(n+1):Nat):Int)) (H3 us ws os)=some (.ptr 0 0 (i+(n+1)) 0):=by rw[bC EW (by omega),aMM]
  have l2:bG false 1 (.ptr 0 0 (i+(n+2)) 0) (H3 us ws os)=some (uV u2):=jS EW hu2
  have l1:bG false 1 (.ptr 0 0 (i+(n+1)) 0) (H3 us ws os)=some (uV u1):=jS EW hu1
  have wu2:IntKind.u64.wrap (u2:Int)=(u2:Int):=eV _ (by omega)
  have wu1:IntKind.u64.wrap (u1:Int)=(u1:Int):=eV _ (by omega)
  have ws2:=Gs u2 .u64 lu2
  have wa:IntKind.u64.wrap (((u2*4294967296:Nat):Int)+(u1:Int))=((u2*4294967296+u1:Nat):Int):=by rw[←aNs];exact eV _ (by omega)
  have q1:=Z4 (u2*4294967296+u1) v1 (by omega) lQ
  have q2:=Tp (u2*4294967296+u1) v1 lQ
  simp only[qZ,k8,k9,k10,ZX,K9,B6,CZ,hz,azP,w1,w2,e1,e2,l1,l2,wu1,wu2,ws2,wa,q1,q2,VX,Nat.reduceEqDiff,Nat.reduceAdd]
  have hh:=aNz (u2*4294967296+u1) v1
  have hml:=aLG (u2*4294967296+u1) lQ
  have hdl:(u2*4294967296+u1) / v1≤u2*4294967296+u1:=Nat.div_le_self _ _
  have TW:val 4294967296 jI / val 4294967296 vs≤(u2*4294967296+u1) / v1:=by
   have t1:=(Fv (n:=n+1) (xs:=jI) TM (by omega) (by rw[vM _ (by omega)];exact hu2) (by rw[vM _ (by omega)];exact hu1)).2
   have t2:=(Ce (n:=n+1) Kl HG f1).1
   rw[aNI lQ]
   have t3:val 4294967296 jI / val 4294967296 vs*(v1*4294967296^(n+1))≤val 4294967296 jI / val 4294967296 vs*val 4294967296 vs:=aNd _ t2
   have t4:=Nat.div_mul_le_self (val 4294967296 jI) (val 4294967296 vs)
   have t5:val 4294967296 jI / val 4294967296 vs*v1*4294967296^(n+1)<(u2*4294967296+u1+1)*4294967296^(n+1):=by rw[aNA];omega
   have:=aNe t5
   omega
  refine YR (k:=i+(n+2)) G TX (by omega) (by omega) E5 (by rw[show i+(n+2)-2=i+n by omega];exact hu0) k9 ZX K9 (by rfl) (by rfl) (by rfl) (by rw[aMG ((u2*4294967296+u1) / v1)];omega) TW (by omega) (by omega) ?_
  intro wJ g' hq Pn hgW r17 r8 r9 r10 r11 r12 r13 r14 r15
  have WV:wJ 15=VI ((i+(n+2):Nat):Int):=r15
  have r8':wJ 8=VI s:=r8.trans k8
  have r9':wJ 9 = .ref 0 0 0 N N:=r9.trans k9
  have ayM:wJ 10 = .ref 1 0 0 (n+2) (n+3):=r10.trans k10
  have azR:wJ 11=VK .u64 v1:=r11.trans ZX
  have Wc:wJ 12=VK .u64 v0:=r12.trans K9
  have Vf:wJ 13 = .ref 2 0 0 m m:=r13.trans B6
  have Ua:wJ 14=VI i:=r14.trans CZ
  have w3:IntKind.i64.wrap (((i+(n+2):Nat):Int)+1)=((i+(n+3):Nat):Int):=wrapN _ (by omega) (by omega)
  have anH:G4 1 (.ref 0 0 0 N N) (some (VI i)) (some (VI ((i+(n+3):Nat):Int))) none (H3 us ws os)=some (.ref 0 0 i (n+3) (N-i)):=by
   rw[Og EW (by omega) (by omega),aMM,Nat.add_sub_cancel_left]
  simp only[r8',r9',ayM,azR,Wc,Vf,Ua,WV,r17,w3,anH,VX,Nat.reduceEqDiff,Nat.reduceAdd]
  have Bn:g'*val 4294967296 vs≤val 4294967296 jI+val 4294967296 vs:=by
   have:=aLF (val 4294967296 vs) Pn
   rw[aLJ,aNJ] at this
   have:=Nat.div_mul_le_self (val 4294967296 jI) (val 4294967296 vs)
   omega
  refine iN rfl ((YY (pre:=us.take i) (jI:=jI) (post:=us.drop (i+(n+2+1))) (L:=n+3) (o:=i) (by rw[←YG];exact EW) (aBR (us:=us) (ws:=ws) (os:=os)) (by decide) (aLI _) CW Sl (by omega) hws (by omega) (by omega) TM Kl hgW Bn).mono ?_)
  rintro r H' ⟨vG,rfl,FA,hd',hr⟩
  generalize arA:us.take i++vG++us.drop (i+(n+2+1))=HX at *
  have KW:(H3 us ws os).set 0 (.row 0 (HX.map uV) 1 true)=H3 HX ws os:=rfl
  rw[KW]
  have azV:HX.length=N:=by rw[←arA,aLp,aLp,CW,FA,aNE];omega
  have arN:∀d∈HX,d<4294967296:=fun d hd=>by
   rw[←arA,List.mem_append,List.mem_append] at hd
   rcases hd with(hd | hd) | hd
   ·exact Mh d (aMb hd)
   ·exact hd' d hd
   ·exact Mh d (aMc hd)
  have YH:HX.drop i=vG++us.drop (i+(n+2+1)):=by rw[←arA,aM0,List.drop_append,aM7 (by omega),CW];simp
  have Yp:HX.take i=us.take i:=by rw[←arA,aM0,List.take_append_of_le_length (by omega),aL7 (by omega)]
  have VJ:val 4294967296 (HX.drop i)=val 4294967296 vG:=by rw[YH,A5,aoR,aNv,aNq]
  have digit:∀q:Nat,q=val 4294967296 jI / val 4294967296 vs→val 4294967296 vG=val 4294967296 jI % val 4294967296 vs →
    val 4294967296 (HX.drop i)<val 4294967296 vs∧val 4294967296 HX+4294967296^i*val 4294967296 vs*val 4294967296 ((os.set i q).drop i)=A:=by
   rintro q Xh hse
   have aqB:=aLG (val 4294967296 jI) LD
   refine⟨by rw[VJ,hse];exact aqB,?_⟩
   have h1:=aNK (val 4294967296 jI) (val 4294967296 vs)
   rw[←Xh,←hse,aMG] at h1
   have h2:=sN (b:=4294967296) us i
   have h3:=sN (b:=4294967296) HX i
   rw[Yp,CW,VJ] at h3
   rw[CW,aiG] at h2
   rw[set_drop (by omega),wY,h3]
   rw[h2,aMF] at hv
   exact N6 h1.symm hv
  have e3:∀d:Nat,bI 1 (.ref 2 0 0 m m) (VI i) (H3 HX ws os)=some (.ptr 2 0 i 0)∧bM 0 1 (.ptr 2 0 i 0) (uV d) (H3 HX ws os)=some (H3 HX ws (os.set i d)):=fun d=>by
   refine⟨by rw[bC asD (by omega),aMM],?_⟩
   rw[eG (f:=uV) (e:=1) asD (by omega) (aLI _) rfl rfl]
   rfl
  have wi:IntKind.i64.wrap ((i:Int)-1)=(i:Int)-1:=wrap64 (by omega) (by omega)
  rcases hr with⟨rfl,hr⟩ | ⟨rfl,Ns,hr2⟩
  ·have G0:g'*val 4294967296 vs≤val 4294967296 jI:=by omega
   have Xh:g'=val 4294967296 jI / val 4294967296 vs:=by
    have:=(aNI LD).2 G0
    omega
   have hse:val 4294967296 vG=val 4294967296 jI % val 4294967296 vs:=by
    have h1:=aNK (val 4294967296 jI) (val 4294967296 vs)
    rw[←Xh,aMG] at h1
    omega
   obtain⟨d1,d2⟩:=digit g' Xh hse
   simp only[r8',r9',ayM,azR,Wc,Vf,Ua,WV,r17,(e3 g').1,(e3 g').2,wi,wrap32,aMI hgW,VX,Nat.reduceEqDiff,Nat.reduceAdd]
   exact⟨(i,HX,os.set i g'),by simp only;omega,by omega,rfl,azV,arN,by rw[aNt];exact hJ,oD nF hgW,d1,d2,by (repeat' apply aMU)<;>first | rfl | trivial⟩
  ·have amO:val 4294967296 jI / val 4294967296 vs<g':=(aNB LD).2 Ns
   have Xm:1≤g':=Nat.lt_of_le_of_lt (aLI _) amO
   obtain⟨q,rfl⟩:∃q,g'=q+1:=⟨g'-1,by omega⟩
   have Xh:q=val 4294967296 jI / val 4294967296 vs:=by omega
   have hse:val 4294967296 vG=val 4294967296 jI % val 4294967296 vs:=by
    have h1:=aNK (val 4294967296 jI) (val 4294967296 vs)
    rw[←Xh,aMG] at h1
    rw[aLJ,aNJ] at hr2
    omega
   have wq:IntKind.u64.wrap (((q+1:Nat):Int)-1)=(q:Int):=by rw[show ((q+1:Nat):Int)-1=(q:Int) by omega];exact eV _ (by omega)
   obtain⟨d1,d2⟩:=digit q Xh hse
   simp only[r8',r9',ayM,azR,Wc,Vf,Ua,WV,r17,wq,(e3 q).1,(e3 q).2,wi,wrap32,aMI (show q<4294967296 by omega),VX,Nat.reduceEqDiff,Nat.reduceAdd]
   exact⟨(i,HX,os.set i q),by simp only;omega,by omega,rfl,azV,arN,by rw[aNt];exact hJ,oD nF (by omega),d1,d2,by (repeat' apply aMU)<;>first | rfl | trivial⟩
 ·have YS:j=0:=by omega
  subst YS
  rw[aMq] at bH
  rw[Nat.pow_zero,aNJ,aMq] at hv
  simp only[qZ,k8,k9,k10,ZX,K9,B6,CZ,hz,VX,Nat.reduceEqDiff,Nat.reduceAdd]
  exact hQ _ us os k8 k9 B6 TX Mh hJ nF hv bH
end Go.PM
namespace Go.PM
theorem O7 {a n:Nat} (hn:(aD 4294967296 a).length=n+1):∃d,(aD 4294967296 a)[n]? = some d∧d≠0∧d<4294967296:=by
 obtain⟨d,hd⟩:∃d,(aD 4294967296 a)[n]? = some d:=⟨_,aLl (by omega)⟩
 refine⟨d,hd,fun h0 => ?_,gF (by decide) a d (aL8 hd)⟩
 have:=Sa (b:=4294967296) (by decide) a
 rw[List.getLast?_eq_getElem?,hn,Nat.add_sub_cancel,hd,h0] at this
 exact this rfl
theorem T4 {a d:Nat} (h:aD 4294967296 a=[d]):a=d∧0<d∧d<4294967296:=by
 have h1:=cH (b:=4294967296) (by decide) a
 rw[h,val_one] at h1
 obtain⟨e,h2,h3,h4⟩:=O7 (a:=a) (n:=0) (by rw[h];rfl)
 rw[h] at h2
 cases h2
 exact⟨h1.symm,by omega,h4⟩
theorem BC (a b:Nat) (hb:b≠0) (ha:(aD 4294967296 a).length≤17592186044416) (yW:(aD 4294967296 b).length≤17592186044416):TC 183 [bO a,bO b] (.eH [bO (a / b),bO (a % b)]):=by
 refine TC.walk ⟨true,false⟩ KO rfl (aM2 rfl) (by simp[aO,bT]) (by simp[gV,rE,tZ]) ?_
 have c1:=lI a b ha yW
 by_cases IV:gA a b<0
 ·have bH:a<b:=by
   unfold gA at IV
   split at IV
   ·assumption
   ·split at IV<;>omega
  simp only[vU,sI,c1,IV,VX,Nat.reduceEqDiff,Nat.reduceAdd]
  rw[aML bH,aMI bH]
  exact bN (d:=6) AB (aM (bT a))
 have G0:b≤a:=by
  unfold gA at IV
  split at IV
  ·omega
  ·omega
 have hbn:(aD 4294967296 b).length≠0:=fun h=>hb ((nQ (b:=4294967296) (by decide)).1 (List.length_eq_zero_iff.1 h))
 by_cases h1:(((aD 4294967296 b).length:Nat):Int)=1
 ·obtain⟨d,hd⟩:∃d,aD 4294967296 b=[d]:=by
   match hx:aD 4294967296 b with
   | []=>rw[hx] at hbn;exact absurd rfl hbn
   | [d]=>exact⟨d,rfl⟩
   | _::_::_=>rw[hx] at h1;simp at h1;omega
  obtain⟨rfl,FO,hdW⟩:=T4 hd
  have c2:=As a b FO hdW ha
  have e0:pV (bO b) []=some (VI 1):=by rw[bO,Ds,eK,hd];rfl
  have e1:bI 1 (bO b) (VI 0) []=some (.cS (uV b) 0):=by
   rw[bO,hd]
   exact aF (f:=uV) (t := .op) (H:=[]) (size:=1) (k := .i64) (xs:=[b]) (i:=0) rfl rfl
  have e2:=lO (H:=[]) (z:=[.int .u32 0]) (v:=uV (a % b)) rfl rfl rfl
  have e3:=akO (size:=1) (v:=Value.int .u32 ((b:Nat):Int))
  simp only[vU,sI,c1,IV,e0,e1,c2,e2,VX,Nat.reduceEqDiff,Nat.reduceAdd]
  refine P4 (ds:=[a % b]) (t := .cl 1) (fun d hd => ?_) (by show 1≤70368744177664;decide) (val_one _) fun t' ht => ?_
  ·rw[List.mem_singleton] at hd
   subst hd
   exact Nat.lt_of_lt_of_le (aLG _ FO) (aLV hdW)
  ·simp only[VX,Nat.reduceEqDiff,Nat.reduceAdd]
   exact bN (d:=6) (aM (bT _)) (amD (d:=5) ht)
 obtain⟨n,hn⟩:∃n,(aD 4294967296 b).length=n+2:=⟨(aD 4294967296 b).length-2,by omega⟩
 obtain⟨t,ht,ht0,htW⟩:=O7 (a:=b) (n:=n+1) hn
 obtain⟨s,hs,cl,akB⟩:=XU ht0 htW
 have hS:0<2^s:=aNC (by decide)
 have hSW:2^s*2^(32-s)=4294967296:=by rw[←aNf,show s+(32-s)=32 by omega]
 have hla:=eW (b:=4294967296) (by decide) G0
 have e0:pV (bO b) []=some (VI ((n+2:Nat):Int)):=by rw[bO,Ds,eK,hn]
 have w0:IntKind.i64.wrap (((n+2:Nat):Int)-1)=((n+1:Nat):Int):=wrapN _ (by omega) (by omega)
 have h1':¬(((n+2:Nat):Int)=1):=by omega
 have e1:bI 1 (bO b) (VI ((n+1:Nat):Int)) []=some (.cS (uV t) 0):=aF (f:=uV) (t := .op) (H:=[]) (size:=1) (k := .i64) ht rfl
 simp only[vU,sI,c1,IV,e0,h1',w0,e1,cl,VX,Nat.reduceEqDiff,Nat.reduceAdd]
 have fa:[bO a,VI (s:Int)].mapM (fz depth ([]:aA))=some [bO a,VI (s:Int)]:=fz2 (aK (bT a)) (aK rfl)
 refine FC.call (A4 a s hs ha) rfl fa ?_
 rintro r L ⟨Lk,rfl,rfl,hAl,hAd,hAv,hAt⟩
 simp only[VX,Nat.reduceEqDiff,Nat.reduceAdd]
 have fb:∀H:aA,[bO b,VI (s:Int)].mapM (fz depth H)=some [bO b,VI (s:Int)]:=fun H=>fz2 (aK (bT b)) (aK rfl)
 refine FC.call (A4 b s hs yW) rfl (fb _) ?_
 rintro r L ⟨G3,rfl,rfl,hBl,hBd,hBv,hBt⟩
 rw[hn] at hBl
 simp only[hn,aNL,VX,Nat.reduceEqDiff,Nat.reduceAdd]
 have axS:b*2^s<4294967296^(n+2):=by
  have h2:=(Ce (n:=n+1) (gF (b:=4294967296) (by decide) b) hn ht).2
  rw[cH (by decide)] at h2
  have h3:b*2^s<(t+1)*4294967296^(n+1)*2^s:=aND h2 hS
  have h4:(t+1)*4294967296^(n+1)*2^s=(t+1)*2^s*4294967296^(n+1):=by grind
  have h5:(t+1)*2^s≤4294967296:=by
   have h6:t*2^s<2^(32-s)*2^s:=by rw[aMG (2^(32-s)),hSW];exact akB
   have h7:=aNe h6
   have h8:(t+1)*2^s≤2^(32-s)*2^s:=aLF _ h7
   rwa [aMG (2^(32-s)),hSW] at h8
  have h9:(t+1)*2^s*4294967296^(n+1)≤4294967296*4294967296^(n+1):=aLF _ h5
  have h10:4294967296*4294967296^(n+1)=4294967296^(n+2):=by rw[aMF 4294967296 (n+1)];exact aMG _ _
  omega
 have hVl:(aD 4294967296 (b*2^s)).length=n+2:=by
  have h2:=oK (b:=4294967296) (by decide) axS
  have h3:b≤b*2^s:=Nat.le_mul_of_pos_right b hS
  have h4:=eW (b:=4294967296) (by decide) h3
  omega
 refine vK (rows:=G3) (m:=b*2^s) (by rfl) (by omega) (by omega) (by omega) (fun d hd=>hBd d (aMb hd)) (by rw[aL7 (by omega)];exact hBv) fun k hk he => ?_
 have Gk:k=n+2:=by
  have:=congrArg List.length he
  rw[hVl,aMN] at this
  omega
 subst Gk
 generalize TT:aD 4294967296 (b*2^s)=vs at *
 have Kl:∀d∈vs,d<4294967296:=by rw[←TT];exact gF (by decide) _
 have Qh:val 4294967296 vs=b*2^s:=by rw[←TT];exact cH (by decide) _
 obtain⟨v1,f1⟩:∃v1,vs[n+1]? = some v1:=⟨_,aLl (by omega)⟩
 obtain⟨v0,f0⟩:∃v0,vs[n]? = some v0:=⟨_,aLl (by omega)⟩
 have hv1:1≤v1:=by
  obtain⟨d,hd,FO,_⟩:=O7 (a:=b*2^s) (n:=n+1) (by rw[TT];exact hVl)
  rw[TT,f1] at hd
  cases hd
  omega
 have b1:G3[n+1]? = some v1:=by rw[←f1,←he,aLB (by omega)]
 have b0:G3[n]? = some v0:=by rw[←f0,←he,aLB (by omega)]
 have lv1:=Kl v1 (aL8 f1)
 have lv0:=Kl v0 (aL8 f0)
 have x1:bI 1 (.ref 1 0 0 (n+2) (n+2+1)) (VI ((n+1:Nat):Int)) [.row 0 (Lk.map uV) 1 true,.row 0 (G3.map uV) 1 true]=some (.ptr 1 0 (n+1) 0):=by rw[bC (by rfl) (by omega),aMM]
 have x0:bI 1 (.ref 1 0 0 (n+2) (n+2+1)) (VI ((n:Nat):Int)) [.row 0 (Lk.map uV) 1 true,.row 0 (G3.map uV) 1 true]=some (.ptr 1 0 n 0):=by rw[bC (by rfl) (by omega),aMM]
 have y1:bG false 1 (.ptr 1 0 (n+1) 0) [.row 0 (Lk.map uV) 1 true,.row 0 (G3.map uV) 1 true]=some (uV v1):=jS (rows:=G3) (g:=0) (w:=true) (by rfl) b1
 have y0:bG false 1 (.ptr 1 0 n 0) [.row 0 (Lk.map uV) 1 true,.row 0 (G3.map uV) 1 true]=some (uV v0):=jS (rows:=G3) (g:=0) (w:=true) (by rfl) b0
 have z0:pV (.ref 1 0 0 (n+2) (n+2+1)) [.row 0 (Lk.map uV) 1 true,.row 0 (G3.map uV) 1 true]=some (VI ((n+2:Nat):Int)):=eI (r:=(G3.map uV,1,true)) (by rfl)
 have z1:pV (.ref 0 0 0 ((aD 4294967296 a).length+1) ((aD 4294967296 a).length+1)) [.row 0 (Lk.map uV) 1 true,.row 0 (G3.map uV) 1 true]=some (VI (((aD 4294967296 a).length+1:Nat):Int)):=eI (r:=(Lk.map uV,1,true)) (by rfl)
 have w2:IntKind.i64.wrap (((n+2:Nat):Int)-2)=((n:Nat):Int):=wrapN _ (by omega) (by omega)
 have wv1:IntKind.u64.wrap (v1:Int)=(v1:Int):=eV _ (by omega)
 have wv0:IntKind.u64.wrap (v0:Int)=(v0:Int):=eV _ (by omega)
 obtain⟨m,hm⟩:∃m,m+(n+2)=(aD 4294967296 a).length+1:=⟨(aD 4294967296 a).length+1-(n+2),by omega⟩
 have wm:IntKind.i64.wrap ((((aD 4294967296 a).length+1:Nat):Int)-((n+2:Nat):Int))=(m:Int):=wrapN _ (by omega) (by omega)
 have wm1:IntKind.i64.wrap ((m:Int)-1)=(m:Int)-1:=wrap64 (by omega) (by omega)
 have mk:=Zx m 0 (by omega) (H:=[.row 0 (Lk.map uV) 1 true,.row 0 (G3.map uV) 1 true])
 have z2:pV (.ref 2 0 0 m m) (H3 Lk G3 (aL4 m 0))=some (VI m):=eI (r:=((aL4 m 0).map uV,1,true)) (by rfl)
 simp only[w0,x1,x0,y1,y0,z0,z1,w2,wv1,wv0,wm,mk,z2,wm1,List.length_cons,List.length_nil,VX,Nat.reduceEqDiff,Nat.reduceAdd]
 have EE:val 4294967296 (Lk.drop m)<val 4294967296 vs:=by
  obtain⟨d,hd⟩:∃d,Lk[(aD 4294967296 a).length]? = some d:=⟨_,aLl (by omega)⟩
  have h2:=(Ce (b:=4294967296) (xs:=Lk.drop m) (n:=n+1) (t:=d) (fun x hx=>hAd x (aMc hx)) (by rw[aNE];omega) (by rw[List.getElem?_drop,show m+(n+1)=(aD 4294967296 a).length by omega];exact hd)).2
  have h3:=hAt d hd
  have h4:=(Ce (n:=n+1) (gF (b:=4294967296) (by decide) b) hn ht).1
  rw[cH (by decide)] at h4
  have h5:(d+1)*4294967296^(n+1)≤2^s*4294967296^(n+1):=aLF _ h3
  have h6:1*4294967296^(n+1)≤t*4294967296^(n+1):=aLF _ (by omega)
  have h7:1*4294967296^(n+1)*2^s≤b*2^s:=aLF _ (by omega)
  rw[Qh]
  rw[aNJ,aMG] at h7
  omega
 refine ahG (Hg:=Lk) (ws:=G3) (os0:=aL4 m 0) (vs:=vs) (N:=(aD 4294967296 a).length+1) (m:=m) (n:=n) (A:=a*2^s) (s:=s) hAl hm (by omega) hAd he hBl hVl Kl f1 f0 hv1 hAv EE (by simp) (Cx (by decide) _) (by rfl) (by rfl) (by rfl) (by rfl) (by rfl) (by rfl) (by rfl) ?_
 intro AN us os r8 r9 r13 TX Mh hJ nF hv bH
 rw[Qh] at hv bH
 have hq:val 4294967296 os=a / b:=by
  rw[←Nat.mul_div_mul_right a b hS,←hv,aNG _ _ (by omega),aML bH,aMM]
 have hr:val 4294967296 us=a % b*2^s:=by
  rw[←Nat.mul_mod_mul_right,←hv,aNH,aMI bH]
 simp only[r9,VX,Nat.reduceEqDiff,Nat.reduceAdd]
 refine vK (rows:=us) (m:=a % b*2^s) EW (by omega) (aLe _) (by omega) (fun d hd=>Mh d (aMb hd)) (by rw[aL7 (by omega)];exact hr) fun k hk he2 => ?_
 have z3:pV (.ref 0 0 0 k ((aD 4294967296 a).length+1)) (H3 us G3 os)=some (VI k):=eI EW
 simp only[z3,VX,Nat.reduceEqDiff,Nat.reduceAdd]
 refine aeT (us:=us) (k:=k) (N:=(aD 4294967296 a).length+1) (s:=s) (w0:=2^(32-s)) hs hSW TX hk (by omega) Mh r8 (by rfl) (by rfl) (by rfl) ?_
 intro tU HX q9 q13 azV arN hv'
 have aEF:tU 13 = .ref 2 0 0 m m:=q13.trans r13
 have Gb:val 4294967296 (HX.take k)=a % b:=by
  rw[hv',he2,cH (by decide),Nat.mul_div_cancel _ hS]
 simp only[q9,aEF,VX,Nat.reduceEqDiff,Nat.reduceAdd]
 refine vK (rows:=os) (m:=a / b) asD (by omega) (aLe _) (by omega) (fun d hd=>nF d (aMb hd)) (by rw[aL7 (by omega)];exact hq) fun k2 Gk he3 => ?_
 simp only[q9,VX,Nat.reduceEqDiff,Nat.reduceAdd]
 refine vK (rows:=HX) (m:=a % b) EW (by omega) hk (by omega) (fun d hd=>arN d (aMb hd)) Gb fun k3 hk3 he4 => ?_
 simp only[VX,Nat.reduceEqDiff,Nat.reduceAdd]
 exact bN (d:=6) (Nz (d:=5) asD (by omega) Gk he3) (Nz (d:=5) EW (by omega) (by omega) he4)
end Go.PM
namespace Go.PM
theorem dR (n:Nat) {H:aA}:pV (bO n) H=some (VI (aD 4294967296 n).length):=eK
theorem AI {n:Nat}:(0:Int)<((aD 4294967296 n).length:Int)↔n≠0:=by
 constructor
 ·intro h h0
  subst h0
  rw[cC] at h
  simp at h
 ·intro h
  have:=(nQ (b:=4294967296) (by decide) (n:=n))
  have h2:aD 4294967296 n≠[]:=fun hx=>h (this.1 hx)
  have:=aNM.2 h2
  omega
theorem Vu {n:Nat} (h:(aD 4294967296 n).length≤2):n<18446744073709551616:=by
 have h1:=iP (b:=4294967296) (by decide) n
 have h2:4294967296^(aD 4294967296 n).length≤4294967296^2:=aNh (by decide) h
 omega
theorem FT (a b:Nat) (ha:(aD 4294967296 a).length≤17592186044416) (hb:(aD 4294967296 b).length≤17592186044416):TC 175 [bO a,bO b] (bO (aNN a b)):=by
 refine TC.walk ⟨true,false⟩ K7 rfl (aM2 rfl) (by simp[aO,bT]) (tZ _) ?_
 simp only[FP,Du,VX,Nat.reduceEqDiff,Nat.reduceAdd]
 refine aN (fun(t:Nat×Nat) ρ H=>H=[]∧aNN t.1 t.2=aNN a b∧(aD 4294967296 t.1).length≤17592186044416∧(aD 4294967296 t.2).length≤17592186044416∧ρ 0=bO t.1∧ρ 1=bO t.2) (fun t=>t.2) (a,b) ⟨rfl,rfl,ha,hb,rfl,rfl⟩ ?_
 rintro⟨x,y⟩ ρ H ⟨rfl,hg,hx,hy,g0,g1⟩
 simp only at hg hx hy g0 g1
 have c1:=C9 x hx
 have c2:=C9 y hy
 by_cases hy0:y=0
 ·subst hy0
  have hl:¬(0:Int)<((aD 4294967296 0).length:Int):=by rw[AI];omega
  rw[Nat.gcd_zero_right] at hg
  simp only[jV,g0,g1,dR,hl,VX,Nat.reduceEqDiff,Nat.reduceAdd]
  rw[hg]
  exact aK (bT _)
 have hl:(0:Int)<((aD 4294967296 y).length:Int):=AI.2 hy0
 by_cases h1:(aD 4294967296 x).length≤2∧(aD 4294967296 y).length≤2
 ·rw[if_pos h1.1] at c1
  rw[if_pos h1.2] at c2
  simp only[jV,g0,g1,dR,hl,c1,c2,VX,Nat.reduceEqDiff,Nat.reduceAdd]
  refine aN (fun(t:Nat×Nat) ρ H=>H=[]∧aNN t.1 t.2=aNN a b∧t.1<18446744073709551616∧t.2<18446744073709551616∧ρ 5=VK .u64 t.1∧ρ 7=VK .u64 t.2) (fun t=>t.2) (x,y) ⟨rfl,hg,Vu h1.1,Vu h1.2,rfl,rfl⟩ ?_
  rintro⟨u,v⟩ tU H ⟨rfl,hg2,hu,hv,k5,k7⟩
  simp only at hg2 hu hv k5 k7
  by_cases hv0:v=0
  ·subst hv0
   rw[Nat.gcd_zero_right] at hg2
   have hz:¬(0:Int)<((0:Nat):Int):=by omega
   have c3:=pJ u hu
   simp only[vX,k5,k7,hz,c3,VX,Nat.reduceEqDiff,Nat.reduceAdd]
   rw[hg2]
   exact aK (bT _)
  ·have hz:(0:Int)<(v:Int):=by omega
   have r1:=Tp u v (by omega)
   simp only[vX,k5,k7,hz,r1,VX,Nat.reduceEqDiff,Nat.reduceAdd]
   refine⟨(v,u % v),?_,?_,hv,?_,rfl,rfl⟩
   ·exact aLG _ (by omega)
   ·simp only
    rw[←hg2,aNO u v,Nat.gcd_rec v u,aNO]
   ·simp only
    have:=aLG u (show 0<v by omega)
    omega
 ·have c3:=BC x y hy0 hx hy
  have next:∃s':Nat×Nat,s'.2<y∧aNN s'.1 s'.2=aNN a b∧(aD 4294967296 s'.1).length≤17592186044416∧(aD 4294967296 s'.2).length≤17592186044416∧bO y=bO s'.1∧bO (x % y)=bO s'.2:=by
   have hm:=aLG x (show 0<y by omega)
   refine⟨(y,x % y),hm,?_,hy,?_,rfl,rfl⟩
   ·simp only
    rw[←hg,aNO x y,Nat.gcd_rec y x,aNO]
   ·simp only
    have:=eW (b:=4294967296) (by decide) (aLV hm)
    omega
  by_cases h2:(aD 4294967296 x).length≤2
  ·have h3:¬(aD 4294967296 y).length≤2:=fun h=>h1 ⟨h2,h⟩
   rw[if_pos h2] at c1
   rw[if_neg h3] at c2
   simp only[jV,g0,g1,dR,hl,c1,c2,c3,VX,Nat.reduceEqDiff,Nat.reduceAdd]
   exact next
  ·rw[if_neg h2] at c1
   by_cases h3:(aD 4294967296 y).length≤2
   ·rw[if_pos h3] at c2
    simp only[jV,g0,g1,dR,hl,c1,c2,c3,VX,Nat.reduceEqDiff,Nat.reduceAdd]
    exact next
   ·rw[if_neg h3] at c2
    simp only[jV,g0,g1,dR,hl,c1,c2,c3,VX,Nat.reduceEqDiff,Nat.reduceAdd]
    exact next
end Go.PM
namespace Go.PM
open Go.Lib
theorem zC (a b:List UInt8) (h:a.length+b.length≤9223372036854775807):dO .add (.string ⟨a.toArray⟩) (.string ⟨b.toArray⟩)=some (.string ⟨(a++b).toArray⟩):=by
 have h1:(⟨a.toArray⟩:ByteArray).size=a.length:=by simp[ByteArray.size]
 have h2:(⟨b.toArray⟩:ByteArray).size=b.length:=by simp[ByteArray.size]
 have h3:¬(((⟨a.toArray⟩:ByteArray).size+(⟨b.toArray⟩:ByteArray).size:Nat):Int)>IntKind.i64.max:=by
  rw[h1,h2]
  show ¬_>(9223372036854775807:Int)
  omega
 simp only[dO,h3,if_false]
 congr 2
theorem bQ (a:List UInt8):Dw (.string ⟨a.toArray⟩)=some (.int .i64 (a.length:Int)):=by simp[Dw,ByteArray.size]
theorem atM:∀a:List UInt8,(aB (bE a)).length=1:=fun _=>rfl
theorem afM {xs:List (List UInt8)} {H:aA} {lo b g n:Nat} (hr:aJ H b g=some (xs.map bE,1,true)) (hn:xs.length=n) (eT:lo≤b) (E5:n≤9223372036854775806) :
  mB 216 [.ref b g 0 n n] lo H fun r H'=>r = .eH []∧H'=H.set b (.row g (xs.reverse.map bE) 1 true):=by
 refine mB.walk ⟨true,false⟩ vN (aM2 rfl) ?_
 have e0:pV (.ref b g 0 n n) H=some (VI n):=eI hr
 have w0:IntKind.i64.wrap ((n:Int)-1)=(n:Int)-1:=wrap64 (by omega) (by omega)
 simp only[nE,mC,e0,w0,VX,Nat.reduceEqDiff,Nat.reduceAdd]
 refine aN (fun(t:Nat×List (List UInt8)) ρ K=>t.1≤n∧K=H.set b (.row g (t.2.map bE) 1 true)∧t.2.length=n∧(∀k,k<n→t.2[k]? = if k<t.1∨n≤k+t.1 then xs[n-1-k]? else xs[k]?)∧ρ 0 = .ref b g 0 n n∧ρ 2=VI t.1∧ρ 3=VI ((n:Int)-1-(t.1:Int))) (fun t=>n-t.1) (0,xs) ⟨aLI _,(AA hr).symm,hn,fun k hk=>by rw[if_neg (by simp only;omega)],rfl,rfl,by show VI ((n:Int)-1)=VI ((n:Int)-1-((0:Nat):Int));rw[Int.natCast_zero,Int.sub_zero]⟩ ?_
 rintro⟨i,ys⟩ ρ K ⟨hi,rfl,hl,hy,g0,g2,g3⟩
 simp only at hi hl hy g2 g3
 have hr2:aJ (H.set b (.row g (ys.map bE) 1 true)) b g=some (ys.map bE,1,true):=qH hr
 by_cases bX:(i:Int)<(n:Int)-1-(i:Int)
 ·have hj:(n:Int)-1-(i:Int)=((n-1-i:Nat):Int):=by omega
  obtain⟨x,hx⟩:∃x,ys[i]? = some x:=⟨_,aLl (by omega)⟩
  obtain⟨y,hyy⟩:∃y,ys[n-1-i]? = some y:=⟨_,aLl (by omega)⟩
  rw[hj] at g3 bX
  have a1:∀(zs:List (List UInt8)) (k:Nat),zs.length=n→k<n→bI 1 (.ref b g 0 n n) (VI (k:Int)) (H.set b (.row g (zs.map bE) 1 true))=some (.ptr b g k 0):=fun zs k h1 h2=>by rw[bC (qH hr) h2,aMM]
  have l1:bG false 1 (.ptr b g (n-1-i) 0) (H.set b (.row g (ys.map bE) 1 true))=some (bE y):=qI hr2 hyy
  have l2:bG false 1 (.ptr b g i 0) (H.set b (.row g (ys.map bE) 1 true))=some (bE x):=qI hr2 hx
  have s1:bM lo 1 (.ptr b g i 0) (bE y) (H.set b (.row g (ys.map bE) 1 true))=some (H.set b (.row g ((ys.set i y).map bE) 1 true)):=by rw[eG (f:=bE) (e:=1) hr2 (by omega) eT rfl rfl,oI]
  have s2:bM lo 1 (.ptr b g (n-1-i) 0) (bE x) (H.set b (.row g ((ys.set i y).map bE) 1 true))=some (H.set b (.row g (((ys.set i y).set (n-1-i) x).map bE) 1 true)):=by rw[eG (f:=bE) (e:=1) (qH hr) (by rw[aNt];omega) eT rfl rfl,oI]
  have w1:IntKind.i64.wrap ((i:Int)+1)=((i+1:Nat):Int):=wrapN _ (by omega) (by omega)
  have w2:IntKind.i64.wrap (((n-1-i:Nat):Int)-1)=(n:Int)-1-((i+1:Nat):Int):=by rw[wrap64 (by omega) (by omega)];omega
  have b1:=a1 ys i hl (by omega)
  have b2:=a1 ys (n-1-i) hl (by omega)
  have b3:=a1 (ys.set i y) (n-1-i) (by rw[aNt];exact hl) (by omega)
  simp only[gK,g0,g2,g3,bX,b1,b2,b3,l1,l2,s1,s2,w1,w2,VX,Nat.reduceEqDiff,Nat.reduceAdd]
  refine⟨(i+1,(ys.set i y).set (n-1-i) x),by simp only;omega,by simp only;omega,rfl,by simp only[aNt];exact hl,fun k hk => ?_,by (repeat' apply aMU)<;>first | rfl | trivial⟩
  simp only
  have hxx:=hy i (by omega)
  rw[if_neg (by omega),hx] at hxx
  have hyx:=hy (n-1-i) (by omega)
  rw[if_neg (by omega),hyy] at hyx
  rw[List.getElem?_set,List.getElem?_set,aNt]
  by_cases h1:n-1-i=k
  ·subst h1
   rw[if_pos rfl,if_pos (by omega),if_pos (by omega),show n-1-(n-1-i)=i by omega]
   exact hxx
  ·rw[if_neg h1]
   by_cases h2:i=k
   ·subst h2
    rw[if_pos rfl,if_pos (by omega),if_pos (by omega)]
    exact hyx
   ·rw[if_neg h2,hy k hk]
    by_cases h3:k<i∨n≤k+i
    ·rw[if_pos h3,if_pos (by omega)]
    ·rw[if_neg h3,if_neg (by omega)]
 ·have aFb:ys=xs.reverse:=by
   apply List.ext_getElem?
   intro k
   rcases aLh k n with h | h
   ·rw[hy k h,List.getElem?_reverse (by omega),hn]
    split
    ·rfl
    ·rw[show n-1-k=k by omega]
   ·rw[aLE (by omega),aLE (by rw[aNP];omega)]
  subst aFb
  simp only[gK,g0,g2,g3,bX,VX,Nat.reduceEqDiff,Nat.reduceAdd]
  try exact⟨rfl,rfl⟩
theorem afK (n:Nat):(aD 1000000000 n).length≤2*(aD 4294967296 n).length:=by
 refine oK (by decide) ?_
 have h1:=iP (b:=4294967296) (by decide) n
 have h2:4294967296^(aD 4294967296 n).length≤(1000000000^2)^(aD 4294967296 n).length:=Nat.pow_le_pow_left (by decide) _
 rw[←Nat.pow_mul] at h2
 omega
theorem asR {n:Nat} (hn:n≠0):(decDigits n).length≤9*(aD 1000000000 n).length:=by
 have h1:=iP (b:=1000000000) (by decide) n
 have h3:(aD 1000000000 n)≠[]:=fun h=>hn ((nQ (by decide)).1 h)
 have h4:=aNM.2 h3
 generalize (aD 1000000000 n).length=L at *
 obtain⟨k,hk⟩:∃k,9*L=k+1:=⟨9*L-1,by omega⟩
 have h5:(1000000000:Nat)^L=10^(9*L):=by rw[show (1000000000:Nat)=10^9 by decide,←Nat.pow_mul]
 rw[h5,hk] at h1
 rw[hk]
 exact D3 n k h1
def vD (q:Nat):List UInt8:=if q=0 then [] else decDigits q
theorem EG (n:Nat) (hn:(aD 4294967296 n).length≤68719476736):TC 196 [bO n] (bE (decDigits n)):=by
 refine TC.walk ⟨true,false⟩ Jo rfl (aM2 rfl) (by simp[aO,bT]) rfl ?_
 by_cases h0:n=0
 ·subst h0
  have hl:(((aD 4294967296 0).length:Nat):Int)=0:=by rw[cC];rfl
  simp only[Ae,wC,dR,hl,VX,Nat.reduceEqDiff,Nat.reduceAdd]
  rw[jZ (by decide)]
  exact aK rfl
 have hl:¬(((aD 4294967296 n).length:Nat):Int)=0:=by have:=AI.2 h0;omega
 have e1:∀lr,nT lr [.string ⟨#[]⟩] 0 [] []=some (.ref 0 0 0 0 0,[.row 0 (([]:List (List UInt8)).map bE) 1 true]):=fun lr=>mQ (H:=[]) (lr:=lr) (z:=[.string ⟨#[]⟩]) rfl
 have hTn:=afK n
 have hdl:=asR h0
 simp only[Ae,wC,dR,hl,e1,VX,Nat.reduceEqDiff,Nat.reduceAdd]
 refine aN (fun(t:Nat×List (List UInt8)) ρ H=>H=[.row t.2.length (t.2.map bE) 1 true]∧t.1≤n∧t.2.length+(aD 1000000000 t.1).length=(aD 1000000000 n).length∧decDigits n=vD t.1++t.2.reverse.flatten∧ρ 0=bO t.1∧ρ 3 = .ref 0 t.2.length 0 t.2.length t.2.length) (fun t=>t.1) (n,[]) ⟨rfl,aLe _,by simp,by simp[vD,h0],rfl,rfl⟩ ?_
 rintro⟨q,ps⟩ ρ H ⟨rfl,hq,hlen,aeW,g0,g3⟩
 simp only at hq hlen aeW g0 g3
 by_cases TW:q=0
 ·subst TW
  have hz:¬(0:Int)<((aD 4294967296 0).length:Int):=by rw[AI];omega
  rw[vD,if_pos rfl,List.nil_append] at aeW
  have hr:aJ [.row ps.length (ps.map bE) 1 true] 0 ps.length=some (ps.map bE,1,true):=aQ
  simp only[pF,g0,g3,dR,hz,VX,Nat.reduceEqDiff,Nat.reduceAdd]
  refine iN rfl ((afM hr rfl (aLe _) (by omega)).mono ?_)
  rintro r H' ⟨rfl,rfl⟩
  have KW:([.row ps.length (ps.map bE) 1 true]:aA).set 0 (.row ps.length (ps.reverse.map bE) 1 true)=[.row ps.length (ps.reverse.map bE) 1 true]:=rfl
  have hr2:aJ [.row ps.length (ps.reverse.map bE) 1 true] 0 ps.length=some (ps.reverse.map bE,1,true):=aQ
  have hfl:ps.reverse.flatten.length≤140737488355328:=by rw[←aeW];omega
  have cj:=(awM ps.reverse (by rw[aNP];omega) hfl).flat (H:=[.row ps.length (ps.reverse.map bE) 1 true]) (args:=[.ref 0 ps.length 0 ps.length ps.length,bE []]) rfl (by simp only[aO,mJ (f:=bE) atM (fun _=>rfl),Bool.and_true];rfl) (fz2 (Ia hr2 (by simp) (aLe _) (fO fun _=>rfl)) (aK rfl)) rfl
  simp only[KW,g3,cj,VX,Nat.reduceEqDiff,Nat.reduceAdd]
  rw[←aeW]
  exact aK rfl
 ·have hz:(0:Int)<((aD 4294967296 q).length:Int):=AI.2 TW
  have hql:=eW (b:=4294967296) (by decide) hq
  have c1:TC 197 [bO q,.sc (.int .u32 1000000000)] (.eH [bO (q / 1000000000),uV (q % 1000000000)]):=As q 1000000000 (by decide) (by decide) (by omega)
  have hm:=aLG q (show 0<1000000000 by decide)
  have c2:=awY (q % 1000000000) (by omega)
  have wm:IntKind.u64.wrap ((q % 1000000000:Nat):Int)=((q % 1000000000:Nat):Int):=eV _ (by omega)
  have hdq:=kM (b:=1000000000) (by decide) TW
  have aH4:(aD 1000000000 q).length=(aD 1000000000 (q / 1000000000)).length+1:=by rw[hdq];rfl
  have hdr:=D3 (q % 1000000000) 8 hm
  have hqq:=aNz q 1000000000
  have e2:∀x:List UInt8,nT false [.string ⟨#[]⟩] 1 [(0,bE x)] [.row ps.length (ps.map bE) 1 true]=some (.tree [bE x] (.cl 1),[.row ps.length (ps.map bE) 1 true]):=fun x=>lO (z:=[.string ⟨#[]⟩]) rfl rfl rfl
  have e3:∀x:List UInt8,dG 1 (.tree [bE x] (.cl 1)) [.row ps.length (ps.map bE) 1 true]=some [bE x]:=fun x=>gR rfl rfl
  have e4:∀x:List UInt8,dK 0 1 16 (.ref 0 ps.length 0 ps.length ps.length) [bE x] [.row ps.length (ps.map bE) 1 true]=some (.ref 0 (ps.length+1) 0 (ps.length+1) (ps.length+1),[.row (ps.length+1) ((ps++[x]).map bE) 1 true]):=fun x=>by
   rw[jK (f:=bE) (x:=x) aQ rfl (aLe _) (by decide) (by decide) (by omega)]
   rfl
  have hle:q / 1000000000<q:=Nat.div_lt_self (by omega) (by decide)
  by_cases hqz:q / 1000000000=0
  ·have Nt:¬(0:Int)<((aD 4294967296 (q / 1000000000)).length:Int):=by rw[AI];omega
   simp only[pF,g0,g3,dR,hz,c1,c2,wm,Nt,e2,e3,e4,VX,Nat.reduceEqDiff,Nat.reduceAdd]
   refine⟨(q / 1000000000,ps++[decDigits (q % 1000000000)]),hle,by simp,by simp only;omega,by simp only[aLp,aNL];omega,?_,rfl,by simp⟩
   rw[aeW,vD,if_neg TW,vD,if_pos hqz,aNQ,List.nil_append,aNR,aNS,List.flatten_cons,show q % 1000000000=q by omega]
  ·have Nt:(0:Int)<((aD 4294967296 (q / 1000000000)).length:Int):=AI.2 hqz
   have ws:IntKind.i64.wrap ((9:Int)-((decDigits (q % 1000000000)).length:Int))=((9-(decDigits (q % 1000000000)).length:Nat):Int):=wrapN _ (by omega) (by omega)
   have c3:=akT [48] (9-(decDigits (q % 1000000000)).length) (by simp;omega) (by omega)
   have akJ:repeatL [48] (9-(decDigits (q % 1000000000)).length)++decDigits (q % 1000000000)=E2 9 (q % 1000000000):=by
    rw[azI 8 _ hm]
    congr 1
    have:=repeatL_replicate 48 1 (9-(decDigits (q % 1000000000)).length)
    rw[Nat.mul_one] at this
    exact this
   have c4:=zC (repeatL [48] (9-(decDigits (q % 1000000000)).length)) (decDigits (q % 1000000000)) (by rw[←aLp,akJ,asF];decide)
   rw[akJ] at c4
   simp only[pF,g0,g3,dR,hz,c1,c2,wm,Nt,bQ,ws,c3,c4,e2,e3,e4,VX,Nat.reduceEqDiff,Nat.reduceAdd]
   refine⟨(q / 1000000000,ps++[E2 9 (q % 1000000000)]),hle,by simp,by simp only;omega,by simp only[aLp,aNL];omega,?_,rfl,by simp⟩
   rw[aeW,vD,if_neg TW,vD,if_neg hqz,aNQ,aNR,aNS,List.flatten_cons,←aM0,←Kq (by omega) hm]
   congr 2
   omega
end Go.PM