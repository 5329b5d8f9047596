/- Texts of a claim, in one: part 9. -/
import Derived.Test.YtinhiblbgejbdaaGreatDoorKNh
set_option linter.unusedSimpArgs false
set_option linter.unusedVariables false
namespace Go.PM
theorem set_drop {xs:List Nat} {i d:Nat} (h:i<xs.length):(xs.set i d).drop i=d::xs.drop (i+1):=by
 rw[List.drop_eq_getElem_cons (by rw[List.length_set];exact h),List.getElem_set_self,I8 h]
theorem Qf (n k:Nat) (hn:n≤70368744177664) {H:aC}:zY [.int .u32 0] 4 (VI (n:Int)) (VI (n:Int)) H=some (.ref H.length 0 0 n n,H++[.row 0 ((List.replicate n 0).map uV) 1 true]):=wZ (f:=uV) (x:=0) rfl (by omega) (by omega)
theorem MQ {A q t r x d W:Nat} (h1:t+d*q=r*W+x):(q+W*A)*d+t=x+W*(A*d+r):=by grind
theorem Qc {A B P S W c m x q:Nat} (hv:A+P*c=B*S) (h1:m*S+W*q=x*S):A+P*(c+m*S)+P*W*q=(B+P*x)*S:=by
 have h2:P*(m*S+W*q)=P*(x*S):=by rw[h1]
 grind
theorem rO (a d:Nat) (Ar:0<d) (hdW:d<4294967296) (ha:(aG 4294967296 a).length≤17592186044416):TC 119 [cT a,uV d] (.eX [cT (a / d),uV (a % d)]):=by
 refine TC.walk ⟨true,false⟩ Ai rfl (Nat.le_of_ble_eq_true rfl) (by simp[aO,dB,aX,kQ]) (by simp[iZ,pV,xD,kQ]) ?_
 have va:=cF (b:=4294967296) (by decide) a
 have la:=gV (b:=4294967296) (by decide) a
 unfold cT
 generalize aG 4294967296 a=xs at *
 have w0:IntKind.i64.wrap ((xs.length:Int)-1)=(xs.length:Int)-1:=wrap64 (by omega) (by omega)
 have wd:IntKind.u64.wrap (d:Int)=(d:Int):=fF _ (by omega)
 simp only[rM,pK,w0,acO xs.length (by omega),VX,Nat.reduceEqDiff,Nat.reduceAdd]
 refine bJ (fun(s:Nat×List Nat×Nat) ρ H=>s.1≤xs.length∧H=[.row 0 (s.2.1.map uV) 1 true]∧s.2.1.length=xs.length∧(∀d∈s.2.1,d<4294967296)∧s.2.2<d∧val 4294967296 (s.2.1.drop s.1)*d+s.2.2=val 4294967296 (xs.drop s.1) ∧
  ρ 0=Lt xs∧ρ 1=uV d∧ρ 6 = .ref 0 0 0 xs.length xs.length∧ρ 7=VK .u64 s.2.2∧ρ 8=VI ((s.1:Int)-1)) (fun s=>s.1) (xs.length,List.replicate xs.length 0,0) ⟨Nat.le_refl _,rfl,by simp,CJ (by decide) _,Ar,by simp[val,List.drop_replicate],rfl,rfl,rfl,rfl,rfl⟩ ?_
 rintro⟨j,outs,r⟩ ρ H ⟨hj,rfl,kB,oA,hr,hv,g0,g1,g6,g7,g8⟩
 simp only at hj kB oA hr hv g7 g8
 by_cases hz:(0:Int)≤(j:Int)-1
 ·obtain⟨i,rfl⟩:∃i,j=i+1:=⟨j-1,by omega⟩
  obtain⟨x,hx⟩:∃x,xs[i]? = some x:=⟨_,List.getElem?_eq_getElem (by omega)⟩
  have lx:=la x (List.mem_of_getElem? hx)
  have GH:((i+1:Nat):Int)-1=(i:Int):=by omega
  rw[GH] at g8 hz
  have e1:=aL (f:=uV) (t := .op) (H:=[.row 0 (outs.map uV) 1 true]) (size:=1) (k := .i64) hx rfl
  have e3:aZ 1 (.ref 0 0 0 xs.length xs.length) (VI i) [.row 0 (outs.map uV) 1 true]=some (.ptr 0 0 i 0):=by rw[bD GJ (by omega),Nat.zero_add]
  have e4:∀s:Nat,dE 0 1 (.ptr 0 0 i 0) (uV s) [.row 0 (outs.map uV) 1 true]=some [.row 0 ((outs.set i s).map uV) 1 true]:=fun s=>abM (by omega)
  have w2:IntKind.i64.wrap ((i:Int)-1)=(i:Int)-1:=wrap64 (by omega) (by omega)
  have w3:IntKind.u64.wrap (x:Int)=(x:Int):=fF _ (by omega)
  have w4:IntKind.u64.wrap (((r*4294967296:Nat):Int)+(x:Int))=((r*4294967296+x:Nat):Int):=by rw[←Int.natCast_add];exact fF _ (by omega)
  have w5:=BA r .u64 (by omega)
  have q1:=Rc (r*4294967296+x) d (by omega) Ar
  have q2:=K0 (r*4294967296+x) d Ar
  have hq:(r*4294967296+x) / d<4294967296:=by
   rw[Nat.div_lt_iff_lt_mul Ar]
   have:(r+1)*4294967296≤d*4294967296:=Nat.mul_le_mul_right _ hr
   rw[Nat.mul_comm 4294967296 d]
   omega
  simp only[jT,g0,g1,g6,g7,g8,hz,e1,e3,e4,w2,w3,w4,w5,wd,q1,q2,wrap32,Nat.mod_eq_of_lt hq,VX,Nat.reduceEqDiff,Nat.reduceAdd]
  refine⟨(i,outs.set i ((r*4294967296+x) / d),(r*4294967296+x) % d),by simp only;omega,by omega,rfl,by rw[List.length_set];exact kB,nS oA hq,Nat.mod_lt _ Ar,?_,by (repeat' apply And.intro)<;>first | rfl | trivial⟩
  have h1:=Nat.mod_add_div (r*4294967296+x) d
  rw[set_drop (by omega),oZ,oS hx,←hv]
  exact MQ h1
 ·have Qh:j=0:=by omega
  subst Qh
  rw[List.drop_zero,List.drop_zero,va] at hv
  have h1:a / d=val 4294967296 outs:=by
   rw[←hv,Nat.mul_comm,Nat.mul_add_div Ar,Nat.div_eq_of_lt hr,Nat.add_zero]
  have h2:a % d=r:=by
   rw[←hv,Nat.mul_comm,Nat.mul_add_mod,Nat.mod_eq_of_lt hr]
  simp only[jT,g0,g1,g6,g7,g8,hz,VX,Nat.reduceEqDiff,Nat.reduceAdd]
  refine xM (m:=a / d) GJ (by omega) (Nat.le_refl _) (by omega) (fun d hd=>oA d (List.mem_of_mem_take hd)) (by rw[List.take_of_length_le (by omega)];exact h1.symm) fun k hk he => ?_
  simp only[wrap32,Nat.mod_eq_of_lt (show r<4294967296 by omega),g7,VX,Nat.reduceEqDiff,Nat.reduceAdd]
  rw[h2]
  exact dC (d:=6) (KO (d:=5) GJ (by omega) hk he) (aQ rfl)
theorem DR {n g e:Nat} {es:List VV} {w:Bool}:aM (List.replicate n cZ.dead++[.row g es e w]) n g=some (es,e,w):=by rw[eH];exact bK
theorem alW {n:Nat} (xs:List Nat):wS n (xs.map uV)=true:=by
 rw[DW]
 intro x hx
 obtain⟨y,_,rfl⟩:=List.mem_map.1 hx
 rfl
theorem tC (a s:Nat) (hs:s≤31) (ha:(aG 4294967296 a).length≤17592186044416):FC 121 [cT a,VI s] fun n r L=>∃outs:List Nat,r = .ref n 0 0 ((aG 4294967296 a).length+1) ((aG 4294967296 a).length+1)∧L=[.row 0 (outs.map uV) 1 true]∧outs.length=(aG 4294967296 a).length+1∧(∀d∈outs,d<4294967296)∧val 4294967296 outs=a*2^s∧(∀d,outs[(aG 4294967296 a).length]? = some d→d<2^s):=by
 refine FC.walk ⟨true,false⟩ AV (Nat.le_of_ble_eq_true rfl) fun n => ?_
 have va:=cF (b:=4294967296) (by decide) a
 have la:=gV (b:=4294967296) (by decide) a
 unfold cT
 generalize aG 4294967296 a=xs at *
 have hS:0<2^s:=Nat.pow_pos (by decide)
 have hSW:2^s*2^(32-s)=4294967296:=by rw[←Nat.pow_add,show s+(32-s)=32 by omega]
 have w0:IntKind.i64.wrap ((xs.length:Int)+1)=((xs.length+1:Nat):Int):=wrapN _ (by omega) (by omega)
 simp only[tU,qU,w0,Qf (xs.length+1) n (by omega),List.length_replicate,VX,Nat.reduceEqDiff,Nat.reduceAdd]
 refine bJ (fun(t:Nat×List Nat×Nat) ρ H=>t.1≤xs.length∧H=List.replicate n .dead++[.row 0 (t.2.1.map uV) 1 true]∧t.2.1.length=xs.length+1∧(∀d∈t.2.1,d<4294967296)∧t.2.1[t.1]? = some t.2.2∧t.2.2<2^s∧val 4294967296 (t.2.1.take t.1)+4294967296^t.1*t.2.2=val 4294967296 (xs.take t.1)*2^s ∧
  ρ 1=VI s∧ρ 5 = .ref n 0 0 (xs.length+1) (xs.length+1)∧ρ 13=Lt xs∧ρ 14=VI xs.length∧ρ 15=VI t.1) (fun t=>xs.length-t.1) (0,List.replicate (xs.length+1) 0,0) ⟨Nat.zero_le _,rfl,by simp,CJ (by decide) _,by simp,hS,by simp[val],rfl,rfl,rfl,rfl,rfl⟩ ?_
 rintro⟨i,outs,c⟩ ρ H ⟨hi,rfl,kB,oA,hoc,hc,hv,g1,g5,g13,g14,g15⟩
 simp only at hi kB oA hoc hc hv g15
 by_cases cX:(i:Int)<(xs.length:Int)
 ·obtain⟨x,hx⟩:∃x,xs[i]? = some x:=⟨_,List.getElem?_eq_getElem (by omega)⟩
  have lx:=la x (List.mem_of_getElem? hx)
  have e1:=aL (f:=uV) (t := .op) (H:=List.replicate n .dead++[.row 0 (outs.map uV) 1 true]) (size:=1) (k := .i64) hx rfl
  have wx:IntKind.u64.wrap (x:Int)=(x:Int):=fF _ (by omega)
  have wi:IntKind.i64.wrap ((i:Int)+1)=((i+1:Nat):Int):=wrapN (i+1) (by omega) (by omega)
  have w5:=acD x s lx hs
  obtain⟨m,hm⟩:∃m,(x*2^s) % 4294967296=m*2^s:=by
   refine⟨x % 2^(32-s),?_⟩
   rw[←hSW,Nat.mul_comm x,Nat.mul_mod_mul_left,Nat.mul_comm]
  have hhi:(x*2^s) / 4294967296<2^s:=by
   rw[Nat.div_lt_iff_lt_mul (by decide),Nat.mul_comm (2^s)]
   exact Nat.mul_lt_mul_of_pos_right lx hS
  have aR:(x*2^s) % 4294967296<4294967296:=Nat.mod_lt _ (by decide)
  have hmm:m<2^(32-s):=by
   have:m*2^s<2^(32-s)*2^s:=by rw[←hm,Nat.mul_comm (2^(32-s)) (2^s),hSW];exact aR
   exact Nat.lt_of_mul_lt_mul_right this
  have W2:m*2^s+c<4294967296:=by
   have:(m+1)*2^s≤2^(32-s)*2^s:=Nat.mul_le_mul_right _ hmm
   rw[Nat.mul_comm (2^(32-s)),hSW,Nat.add_mul] at this
   omega
  have or1:=abN c m s hc W2
  have e3:aZ 1 (.ref n 0 0 (xs.length+1) (xs.length+1)) (VI i) (List.replicate n .dead++[.row 0 (outs.map uV) 1 true])=some (.ptr n 0 i 0):=by rw[bD DR (by omega),Nat.zero_add]
  have e4:eZ false 1 (.ptr n 0 i 0) (List.replicate n .dead++[.row 0 (outs.map uV) 1 true])=some (uV c):=iA DR hoc
  have e5:∀(os:List Nat) (j t:Nat),j<os.length→dE n 1 (.ptr n 0 j 0) (uV t) (List.replicate n .dead++[.row 0 (os.map uV) 1 true])=some (List.replicate n .dead++[.row 0 ((os.set j t).map uV) 1 true]):=fun os j t hj=>by
   rw[iE (f:=uV) (e:=1) DR hj (Nat.le_refl _) rfl rfl,gT]
   rfl
  have e6:aZ 1 (.ref n 0 0 (xs.length+1) (xs.length+1)) (VI ((i+1:Nat):Int)) (List.replicate n .dead++[.row 0 ((outs.set i (c+m*2^s)).map uV) 1 true])=some (.ptr n 0 (i+1) 0):=by rw[bD DR (by omega),Nat.zero_add]
  have e7:=e5 outs i (c+m*2^s) (by omega)
  have e8:=e5 (outs.set i (c+m*2^s)) (i+1) ((x*2^s) / 4294967296) (by rw[List.length_set];omega)
  have hq:(x*2^s) / 4294967296 % 4294967296=(x*2^s) / 4294967296:=Nat.mod_eq_of_lt (by
   have:2^s≤2^31:=Nat.pow_le_pow_right (by decide) hs
   omega)
  simp only[kP,g1,g5,g13,g14,g15,cX,e1,e3,e4,e6,e7,e8,wx,wi,w5,wrap32,oN,hm,or1,hq,VX,Nat.reduceEqDiff,Nat.reduceAdd]
  refine⟨(i+1,(outs.set i (c+m*2^s)).set (i+1) ((x*2^s) / 4294967296),(x*2^s) / 4294967296),by simp only;omega,by omega,rfl,by rw[List.length_set,List.length_set];exact kB,
   nS (nS oA (by omega)) (by
    have:2^s≤2^31:=Nat.pow_le_pow_right (by decide) hs
    omega),by rw[List.getElem?_set_self (by rw[List.length_set];omega)],hhi,?_,by (repeat' apply And.intro)<;>first | rfl | trivial⟩
  rw[List.take_set_of_le (Nat.le_refl _),iT (by omega),bG hx,Nat.pow_succ]
  have h1:=Nat.mod_add_div (x*2^s) 4294967296
  rw[hm] at h1
  exact Qc hv h1
 ·have zK:i=xs.length:=by omega
  subst zK
  rw[List.take_length,va] at hv
  have WI:val 4294967296 outs=a*2^s:=by
   have h1:=bG (b:=4294967296) hoc
   rw[List.take_of_length_le (by omega)] at h1
   rw[h1]
   exact hv
  simp only[kP,g1,g5,g13,g14,g15,cX,VX,Nat.reduceEqDiff,Nat.reduceAdd]
  exact⟨_,rfl,by simp[yE],by simp[kW,alW outs],outs,rfl,kB,oA,WI,fun d hd=>by rw[hoc] at hd;injection hd with hd;omega⟩
end Go.PM
namespace Go.PM
theorem Lv (n:Nat) (hn:n≤35184372088832):zY [.int .i64 0] 8 (VI (n:Int)) (VI (n:Int)) []=some (.ref 0 0 0 n n,[.row 0 ((List.replicate n 0).map tV) 1 true]):=wZ (f:=tV) (x:=0) rfl (by omega) (by omega)
theorem Li {outs:List Nat} {i d:Nat} (hi:i<outs.length):dE 0 1 (.ptr 0 0 i 0) (VI (d:Int)) [.row 0 (outs.map tV) 1 true]=some [.row 0 ((outs.set i d).map tV) 1 true]:=by
 rw[show VI (d:Int)=tV d from rfl,iE (f:=tV) (e:=1) GI hi (Nat.le_refl _) rfl rfl]
 rfl
theorem HW {b g:Nat} {rows:List Nat} {w:Bool} {H:aC} {j d:Nat} (hr:aM H b g=some (rows.map tV,1,w)) (hj:rows[j]? = some d):eZ false 1 (.ptr b g j 0) H=some (VI (d:Int)):=nZ hr hj
theorem adT {n i:Nat} {outs:List Nat} (h:i<n):aZ 1 (.ref 0 0 0 n n) (VI (i:Int)) [.row 0 (outs.map tV) 1 true]=some (.ptr 0 0 i 0):=by rw[bD GI h,Nat.zero_add]
theorem wr {x:Int} (n:Nat) (h:x=n) (hn:n≤9223372036854775807):IntKind.i64.wrap x=(n:Int):=wrapN n h hn
theorem wL (a b:Nat) (ha:(aG 1000000000 a).length≤17592186044416) (hb:(aG 1000000000 b).length≤17592186044416):TC 94 [bY a,bY b] (bY (a*b)):=by
 refine TC.walk ⟨true,false⟩ EM rfl (Nat.le_of_ble_eq_true rfl) (by simp[aO,cJ]) (oQ _) ?_
 have va:=cF (b:=1000000000) (by decide) a
 have vb:=cF (b:=1000000000) (by decide) b
 have la:=gV (b:=1000000000) (by decide) a
 have lb:=gV (b:=1000000000) (by decide) b
 unfold bY
 generalize aG 1000000000 a=xs at *
 generalize aG 1000000000 b=ys at *
 have w0:IntKind.i64.wrap ((xs.length:Int)+(ys.length:Int))=((xs.length+ys.length:Nat):Int):=wrapN _ (by omega) (by omega)
 simp only[AH,xH,dS,w0,Lv (xs.length+ys.length) (by omega),VX,Nat.reduceEqDiff,Nat.reduceAdd]
 generalize hN:xs.length+ys.length=N at *
 refine bJ (fun(s:Nat×List Nat) ρ H=>s.1≤xs.length∧H=[.row 0 (s.2.map tV) 1 true]∧s.2.length=N∧(∀d∈s.2,d<1000000000)∧val 1000000000 (s.2.take (s.1+ys.length))=val 1000000000 (xs.take s.1)*b∧(∀j,s.1+ys.length≤j→j<N→s.2[j]? = some 0) ∧
  ρ 0=fY xs∧ρ 1=fY ys∧ρ 5 = .ref 0 0 0 N N∧ρ 17=VI xs.length∧ρ 18=VI s.1) (fun s=>xs.length-s.1) (0,List.replicate N 0) ⟨Nat.zero_le _,rfl,by simp,CJ (by decide) _,by simp[val,List.take_replicate,tT],fun j _ h=>by simp[List.getElem?_replicate,h],rfl,rfl,rfl,rfl,rfl⟩ ?_
 rintro⟨i,outs⟩ ρ H ⟨hi,rfl,kB,oA,hv,hzr,g0,g1,g5,g17,g18⟩
 simp only at hi kB oA hv hzr g18
 by_cases cX:(i:Int)<(xs.length:Int)
 ·obtain⟨x,hx⟩:∃x,xs[i]? = some x:=⟨_,List.getElem?_eq_getElem (by omega)⟩
  have lx:=la x (List.mem_of_getElem? hx)
  have e1:∀os:List Nat,aZ 1 (fY xs) (VI i) [.row 0 (os.map tV) 1 true]=some (.cD (tV x) 0):=fun os=>aL (f:=tV) (t := .op) (size:=1) (k := .i64) hx rfl
  simp only[oE,g0,g1,g5,g17,g18,cX,dS,VX,Nat.reduceEqDiff,Nat.reduceAdd]
  refine bJ (fun(s:Nat×List Nat×Nat) ρ H=>s.1≤ys.length∧H=[.row 0 (s.2.1.map tV) 1 true]∧s.2.1.length=N∧(∀d∈s.2.1,d<1000000000)∧s.2.2<1000000000 ∧
   val 1000000000 (s.2.1.take (i+s.1))+1000000000^(i+s.1)*s.2.2=val 1000000000 (outs.take (i+s.1))+1000000000^i*(x*val 1000000000 (ys.take s.1))∧(∀j,i+s.1≤j→s.2.1[j]? = outs[j]?) ∧
   ρ 0=fY xs∧ρ 1=fY ys∧ρ 5 = .ref 0 0 0 N N∧ρ 6=VI i∧ρ 7=VI s.2.2∧ρ 17=VI xs.length∧ρ 18=VI i∧ρ 22=VI ys.length∧ρ 23=VI s.1) (fun s=>ys.length-s.1) (0,outs,0) ⟨Nat.zero_le _,rfl,kB,oA,by simp,by simp[val],fun _ _=>rfl,by (repeat' apply And.intro)<;>first | rfl | trivial⟩ ?_
  rintro⟨k,os,c⟩ Km H ⟨hk,rfl,I0,OJ,hc,Nx,FF,k0,k1,k5,k6,k7,G1,YW,k22,k23⟩
  simp only at hk I0 OJ hc Nx FF k7 k23
  have wi:IntKind.i64.wrap ((i:Int)+1)=((i+1:Nat):Int):=wrapN (i+1) (by omega) (by omega)
  by_cases hkn:(k:Int)<(ys.length:Int)
  ·obtain⟨y,hy⟩:∃y,ys[k]? = some y:=⟨_,List.getElem?_eq_getElem (by omega)⟩
   have ly:=lb y (List.mem_of_getElem? hy)
   obtain⟨o,ho⟩:∃o,os[i+k]? = some o:=⟨_,List.getElem?_eq_getElem (by omega)⟩
   have lo:=OJ o (List.mem_of_getElem? ho)
   have ho':outs[i+k]? = some o:=by rw[←FF (i+k) (Nat.le_refl _)];exact ho
   have f1:aZ 1 (fY ys) (VI k) [.row 0 (os.map tV) 1 true]=some (.cD (tV y) 0):=aL (f:=tV) (t := .op) (size:=1) (k := .i64) hy rfl
   have w1:IntKind.i64.wrap ((i:Int)+(k:Int))=((i+k:Nat):Int):=wrapN _ (by omega) (by omega)
   have f2:aZ 1 (.ref 0 0 0 N N) (VI ((i+k:Nat):Int)) [.row 0 (os.map tV) 1 true]=some (.ptr 0 0 (i+k) 0):=adT (by omega)
   have f3:eZ false 1 (.ptr 0 0 (i+k) 0) [.row 0 (os.map tV) 1 true]=some (VI (o:Int)):=HW GI ho
   have f4:∀s:Nat,dE 0 1 (.ptr 0 0 (i+k) 0) (VI (s:Int)) [.row 0 (os.map tV) 1 true]=some [.row 0 ((os.set (i+k) s).map tV) 1 true]:=fun s=>Li (by omega)
   have C4:x*y≤999999999*999999999:=Nat.mul_le_mul (by omega) (by omega)
   have w5:IntKind.i64.wrap ((x:Int)*(y:Int))=((x*y:Nat):Int):=wrapN _ (by simp) (by omega)
   have w6:IntKind.i64.wrap ((o:Int)+((x*y:Nat):Int))=((o+x*y:Nat):Int):=wrapN _ (by omega) (by omega)
   have w7:IntKind.i64.wrap (((o+x*y:Nat):Int)+(c:Int))=((o+x*y+c:Nat):Int):=wrapN _ (by omega) (by omega)
   have wk:IntKind.i64.wrap ((k:Int)+1)=((k+1:Nat):Int):=wrapN (k+1) (by omega) (by omega)
   have r1:=MR (o+x*y+c)
   have q1:=Oc (o+x*y+c) (by omega)
   simp only[oF,k0,k1,k5,k6,k7,G1,YW,k22,k23,hkn,e1,f1,f2,f3,f4,w1,w5,w6,w7,wk,r1,q1,VX,Nat.reduceEqDiff,Nat.reduceAdd]
   have hq:(o+x*y+c) / 1000000000<1000000000:=Nat.div_lt_of_lt_mul (by omega)
   refine⟨(k+1,os.set (i+k) ((o+x*y+c) % 1000000000),(o+x*y+c) / 1000000000),by simp only;omega,by omega,rfl,by rw[List.length_set];exact I0,nS OJ (Nat.mod_lt _ (by decide)),hq,?_,fun j hj => ?_,by (repeat' apply And.intro)<;>first | rfl | trivial⟩
   ·have h1:=Nat.mod_add_div (o+x*y+c) 1000000000
    rw[show o+x*y+c=c+(x*y+o) by omega] at h1 ⊢
    rw[←Nat.add_assoc,iT (by omega),bG ho',bG hy,Nat.pow_succ]
    rw[Nat.pow_add] at Nx ⊢
    exact Ur Nx h1
   ·rw[List.getElem?_set_ne (by omega)]
    exact FF j (by omega)
  ·have hke:k=ys.length:=by omega
   subst hke
   rw[List.take_length,vb,hv] at Nx
   have w1:IntKind.i64.wrap ((i:Int)+(ys.length:Int))=((i+ys.length:Nat):Int):=wrapN _ (by omega) (by omega)
   have C0:os[i+ys.length]? = some 0:=by rw[FF _ (Nat.le_refl _)];exact hzr _ (Nat.le_refl _) (by omega)
   have f2:aZ 1 (.ref 0 0 0 N N) (VI ((i+ys.length:Nat):Int)) [.row 0 (os.map tV) 1 true]=some (.ptr 0 0 (i+ys.length) 0):=adT (by omega)
   have f3:eZ false 1 (.ptr 0 0 (i+ys.length) 0) [.row 0 (os.map tV) 1 true]=some (VI ((0:Nat):Int)):=HW GI C0
   have f4:∀s:Nat,dE 0 1 (.ptr 0 0 (i+ys.length) 0) (VI (s:Int)) [.row 0 (os.map tV) 1 true]=some [.row 0 ((os.set (i+ys.length) s).map tV) 1 true]:=fun s=>Li (by omega)
   have w2:IntKind.i64.wrap (((0:Nat):Int)+(c:Int))=(c:Int):=wrapN _ (by omega) (by omega)
   simp only[oF,k0,k1,k5,k6,k7,G1,YW,k22,k23,hkn,dS,f2,f3,f4,w1,w2,wi,VX,Nat.reduceEqDiff,Nat.reduceAdd]
   refine⟨(i+1,os.set (i+ys.length) c),by simp only;omega,by omega,rfl,by rw[List.length_set];exact I0,nS OJ hc,?_,fun j hj Io => ?_,by (repeat' apply And.intro)<;>first | rfl | trivial⟩
   ·rw[show i+1+ys.length=i+ys.length+1 by omega,iT (by omega),Nx,bG hx,Nat.add_mul,Nat.mul_assoc]
   ·rw[List.getElem?_set_ne (by omega),FF j (by omega)]
    exact hzr j (by omega) Io
 ·have zK:i=xs.length:=by omega
  subst zK
  rw[hN,List.take_length,va,List.take_of_length_le (by omega)] at hv
  simp only[oE,g0,g1,g5,g17,g18,cX,VX,Nat.reduceEqDiff,Nat.reduceAdd]
  refine Jt (m:=a*b) oA kB.symm (by omega) hv ?_
  simp only[VX,Nat.reduceEqDiff,Nat.reduceAdd]
  exact Xd _
theorem zN (a:Nat) (ha:(aG 1000000000 a).length≤17592186044416):TC 130 [bY a] (if (aG 1000000000 a).length≤2 then .eX [VI a,VB true] else .eX [VI 0,VB false]):=by
 refine TC.walk ⟨true,false⟩ Gz rfl (Nat.le_of_ble_eq_true rfl) (by simp[aO,cJ]) (by split<;>rfl) ?_
 by_cases h2:(aG 1000000000 a).length≤2
 ·rw[if_pos h2]
  have h3:¬(2:Int)<((aG 1000000000 a).length:Int):=by omega
  have c0:TC 113 [bY a,VI 0] (VI ((a % 1000000000:Nat):Int)):=by have:=Nb a 0;rwa [Nat.pow_zero,Nat.div_one] at this
  have c1:TC 113 [bY a,VI 1] (VI ((a / 1000000000 % 1000000000:Nat):Int)):=by have:=Nb a 1;rwa [Nat.pow_one] at this
  have aR:=gW (b:=1000000000) (by decide) a
  have hp:1000000000^(aG 1000000000 a).length≤1000000000^2:=Nat.pow_le_pow_right (by decide) h2
  have hm:a / 1000000000<1000000000:=Nat.div_lt_of_lt_mul (by omega)
  rw[Nat.mod_eq_of_lt hm] at c1
  have hmd:=Nat.mod_add_div a 1000000000
  have w1:IntKind.i64.wrap (1000000000*((a / 1000000000:Nat):Int))=((1000000000*(a / 1000000000):Nat):Int):=wrapN _ (by omega) (by omega)
  have w2:IntKind.i64.wrap (((a % 1000000000:Nat):Int)+((1000000000*(a / 1000000000):Nat):Int))=(a:Int):=wrapN _ (by omega) (by omega)
  simp only[vJ,rJ,fX,h3,c0,c1,w1,w2,VX,Nat.reduceEqDiff,Nat.reduceAdd]
  exact aI rfl
 ·rw[if_neg h2]
  have h3:(2:Int)<((aG 1000000000 a).length:Int):=by omega
  simp only[vJ,rJ,fX,h3,VX,Nat.reduceEqDiff,Nat.reduceAdd]
  exact aI rfl
theorem Vk {outs:List Nat} {n cap x:Nat} (hn:n=outs.length) (hc:n<cap):dW 0 1 8 (.ref 0 0 0 n cap) [VI (x:Int)] [.row 0 ((outs++List.replicate (cap-n) 0).map tV) 1 true]=some (.ref 0 0 0 (n+1) cap,[.row 0 (((outs++[x])++List.replicate (cap-(n+1)) 0).map tV) 1 true]):=by
 subst hn
 simp only[dW,bK,List.length_map,List.length_append,List.length_replicate,List.length_cons,List.length_nil,Nat.zero_add]
 rw[if_pos ⟨by decide,by decide⟩,if_pos ⟨trivial,Nat.le_refl _,by omega⟩,if_pos (by omega),if_neg (by omega),if_pos (by omega)]
 congr 3
 have e:List.replicate (cap-outs.length) 0=(0:Nat)::List.replicate (cap-(outs.length+1)) 0:=by
  rw[show cap-outs.length=(cap-(outs.length+1))+1 by omega,List.replicate_succ]
 simp only[bW,List.set_cons_zero,e,List.map_append,List.map_cons,List.length_cons,List.length_nil,List.map_nil]
 congr 1
 rw[List.take_left' (by simp),←List.drop_drop,List.drop_left' (by simp)]
 simp
theorem tO (a d:Nat) (Ar:0<d) (hd:d<1000000000) (ha:(aG 1000000000 a).length<17592186044416):TC 132 [bY a,VI (d:Int)] (bY (a*d)):=by
 refine TC.walk ⟨true,false⟩ CV rfl (Nat.le_of_ble_eq_true rfl) (by simp[aO,cJ];rfl) (oQ _) ?_
 have w0:IntKind.i64.wrap (((aG 1000000000 a).length:Int)+1)=(((aG 1000000000 a).length+1:Nat):Int):=wrapN _ (by omega) (by omega)
 have mk:zY [.int .i64 0] 8 (VI 0) (VI (((aG 1000000000 a).length+1:Nat):Int)) []=some (.ref 0 0 0 0 ((aG 1000000000 a).length+1),[.row 0 ((([]:List Nat)++List.replicate ((aG 1000000000 a).length+1-0) 0).map tV) 1 true]):=by
  simp only[zY]
  rw[if_pos ⟨by omega,by omega,by omega,by omega⟩]
  simp
  rfl
 simp only[xP,tQ,fX,w0,mk,VX,Nat.reduceEqDiff,Nat.reduceAdd]
 refine bJ (fun(s:Nat×List Nat×Nat) ρ H=>s.1=s.2.1.length∧s.1≤(aG 1000000000 a).length∧H=[.row 0 ((s.2.1++List.replicate ((aG 1000000000 a).length+1-s.1) 0).map tV) 1 true]∧s.2.2<d∧aG 1000000000 (a*d)=s.2.1++aG 1000000000 (a / 1000000000^s.1*d+s.2.2) ∧
  ρ 1=VI d∧ρ 5 = .ref 0 0 0 s.1 ((aG 1000000000 a).length+1)∧ρ 6=VI s.2.2∧ρ 14=bY a∧ρ 15=VI (aG 1000000000 a).length∧ρ 16=VI s.1) (fun s=>(aG 1000000000 a).length-s.1) (0,[],0) ⟨rfl,Nat.zero_le _,rfl,Ar,by simp,rfl,rfl,rfl,rfl,rfl,rfl⟩ ?_
 rintro⟨i,outs,c⟩ ρ H ⟨hi,En,rfl,hc,hv,g1,g5,g6,g14,g15,g16⟩
 simp only at hi En hc hv g5 g6 g16
 by_cases cX:(i:Int)<((aG 1000000000 a).length:Int)
 ·have hx:=WV (b:=1000000000) (by decide) (n:=a) (i:=i) (by omega)
  have hA:=(RD (b:=1000000000) (by decide) (n:=a) (i:=i)).1 (by omega)
  have e1:∀H,aZ 1 (bY a) (VI i) H=some (.cD (tV (a / 1000000000^i % 1000000000)) 0):=fun H=>aL (f:=tV) (t := .op) (size:=1) (k := .i64) hx rfl
  have lx:=Nat.mod_lt (a / 1000000000^i) (show 0<1000000000 by decide)
  have cI:a / 1000000000^i*d+c≠0:=by
   have:=Nat.mul_ne_zero hA (show d≠0 by omega)
   omega
  rw[TA (by decide) cI,←LC] at hv
  generalize a / 1000000000^i % 1000000000=x at *
  have hxd:x*d≤999999999*999999999:=Nat.mul_le_mul (by omega) (by omega)
  have w1:IntKind.i64.wrap ((x:Int)*(d:Int))=((x*d:Nat):Int):=wrapN _ (by simp) (by omega)
  have w2:IntKind.i64.wrap (((x*d:Nat):Int)+(c:Int))=((x*d+c:Nat):Int):=wrapN _ (by omega) (by omega)
  have wi:IntKind.i64.wrap ((i:Int)+1)=((i+1:Nat):Int):=wrapN (i+1) (by omega) (by omega)
  have r1:=MR (x*d+c)
  have q1:=Oc (x*d+c) (by omega)
  have a1:=Vk (outs:=outs) (n:=i) (cap:=(aG 1000000000 a).length+1) (x:=(x*d+c) % 1000000000) hi (by omega)
  have hq:(x*d+c) / 1000000000<d:=by
   rw[Nat.div_lt_iff_lt_mul (by decide)]
   have h1:x*d≤999999999*d:=Nat.mul_le_mul_right _ (by omega)
   omega
  simp only[jC,g1,g5,g6,g14,g15,g16,cX,e1,w1,w2,wi,r1,q1,DF,Iv,a1,VX,Nat.reduceEqDiff,Nat.reduceAdd]
  refine⟨(i+1,outs++[(x*d+c) % 1000000000],(x*d+c) / 1000000000),by simp only;omega,by simp;omega,by simp only;omega,rfl,hq,by rw[hv,List.append_assoc];rfl,?_⟩
  try (repeat' apply And.intro)<;>first | rfl | trivial
 ·have zK:i=(aG 1000000000 a).length:=by omega
  have hz:a / 1000000000^i=0:=by
   have:=mt (RD (b:=1000000000) (by decide) (n:=a) (i:=i)).2
   omega
  rw[hz,Nat.zero_mul,Nat.zero_add] at hv
  by_cases hcp:(0:Int)<(c:Int)
  ·rw[AS (b:=1000000000) (by decide) (show c≠0 by omega) (show c<1000000000 by omega)] at hv
   have a1:=Vk (outs:=outs) (n:=i) (cap:=(aG 1000000000 a).length+1) (x:=c) hi (by omega)
   simp only[jC,g1,g5,g6,g14,g15,g16,cX,hcp,DF,Iv,a1,VX,Nat.reduceEqDiff,Nat.reduceAdd]
   rw[bY,hv]
   rw[GR bK (by simp;omega) (by omega) (gO fun _=>rfl)]
   rw[List.map_append,List.take_left' (by simp;omega)]
  ·have hc0:c=0:=by omega
   rw[hc0,bO,List.append_nil] at hv
   simp only[jC,g1,g5,g6,g14,g15,g16,cX,hcp,VX,Nat.reduceEqDiff,Nat.reduceAdd]
   rw[bY,hv]
   rw[GR bK (by simp;omega) (by omega) (gO fun _=>rfl)]
   rw[List.map_append,List.take_left' (by simp;omega)]
theorem GU (a b:Nat) (ha:a≤9223372036854775807) (hb:0<b):cY .quo (.int .i64 (a:Int)) (.int .i64 (b:Int))=some (.int .i64 ((a / b:Nat):Int)):=by
 have h1:¬((b:Int)=0):=by omega
 have h2:(a:Int).tdiv (b:Int)=((a / b:Nat):Int):=by rw[Int.tdiv_eq_ediv_of_nonneg (by omega)];simp
 have h3:a / b≤a:=Nat.div_le_self _ _
 simp only[cY,if_true,h1,if_false,h2]
 generalize a / b=q at *
 rw[wrap64 (by omega) (by omega)]
theorem Hn (a b:Nat) (hb:0<b):cY .rem (.int .i64 (a:Int)) (.int .i64 (b:Int))=some (.int .i64 ((a % b:Nat):Int)):=by
 have h1:¬((b:Int)=0):=by omega
 have h2:(a:Int).tmod (b:Int)=((a % b:Nat):Int):=by rw[Int.tmod_eq_emod_of_nonneg (by omega)];simp
 simp only[cY,if_true,h1,if_false,h2]
theorem Uk {r d x:Nat} (hr:r<d) (hd:d<1000000000) (hx:x<1000000000):r*1000000000+x≤9223372036854775807:=by omega
theorem acK {r d x:Nat} (Ar:0<d) (hr:r<d) (hx:x<1000000000):(r*1000000000+x) / d<1000000000:=by
 rw[Nat.div_lt_iff_lt_mul Ar]
 omega
theorem sP (a d:Nat) (Ar:0<d) (hdT:d<1000000000) (ha:(aG 1000000000 a).length≤17592186044416):TC 131 [bY a,VI (d:Int)] (.eX [bY (a / d),VI ((a % d:Nat):Int)]):=by
 refine TC.walk ⟨true,false⟩ CB rfl (Nat.le_of_ble_eq_true rfl) (by simp[aO,cJ];rfl) (by simp[iZ,pV,oQ,kQ]) ?_
 have va:=cF (b:=1000000000) (by decide) a
 have la:=gV (b:=1000000000) (by decide) a
 unfold bY
 generalize aG 1000000000 a=xs at *
 have w0:IntKind.i64.wrap ((xs.length:Int)-1)=(xs.length:Int)-1:=wrap64 (by omega) (by omega)
 simp only[wP,tH,dS,w0,Lv xs.length (by omega),VX,Nat.reduceEqDiff,Nat.reduceAdd]
 refine bJ (fun(s:Nat×List Nat×Nat) ρ H=>s.1≤xs.length∧H=[.row 0 (s.2.1.map tV) 1 true]∧s.2.1.length=xs.length∧(∀d∈s.2.1,d<1000000000)∧s.2.2<d∧val 1000000000 (s.2.1.drop s.1)*d+s.2.2=val 1000000000 (xs.drop s.1) ∧
  ρ 0=fY xs∧ρ 1=VI d∧ρ 6 = .ref 0 0 0 xs.length xs.length∧ρ 7=VI s.2.2∧ρ 8=VI ((s.1:Int)-1)) (fun s=>s.1) (xs.length,List.replicate xs.length 0,0) ⟨Nat.le_refl _,rfl,by simp,CJ (by decide) _,Ar,by simp[val,List.drop_replicate],rfl,rfl,rfl,rfl,rfl⟩ ?_
 rintro⟨j,outs,r⟩ ρ H ⟨hj,rfl,kB,oA,hr,hv,g0,g1,g6,g7,g8⟩
 simp only at hj kB oA hr hv g7 g8
 by_cases hz:(0:Int)≤(j:Int)-1
 ·obtain⟨i,rfl⟩:∃i,j=i+1:=⟨j-1,by omega⟩
  obtain⟨x,hx⟩:∃x,xs[i]? = some x:=⟨_,List.getElem?_eq_getElem (by omega)⟩
  have lx:=la x (List.mem_of_getElem? hx)
  have GH:((i+1:Nat):Int)-1=(i:Int):=by omega
  rw[GH] at g8 hz
  have e1:=aL (f:=tV) (t := .op) (H:=[.row 0 (outs.map tV) 1 true]) (size:=1) (k := .i64) hx rfl
  have e3:aZ 1 (.ref 0 0 0 xs.length xs.length) (VI i) [.row 0 (outs.map tV) 1 true]=some (.ptr 0 0 i 0):=adT (by omega)
  have e4:∀s:Nat,dE 0 1 (.ptr 0 0 i 0) (VI (s:Int)) [.row 0 (outs.map tV) 1 true]=some [.row 0 ((outs.set i s).map tV) 1 true]:=fun s=>Li (by omega)
  have w2:IntKind.i64.wrap ((i:Int)-1)=(i:Int)-1:=wrap64 (by omega) (by omega)
  have w4:IntKind.i64.wrap ((r:Int)*1000000000)=((r*1000000000:Nat):Int):=wrapN _ (by omega) (by omega)
  have w5:IntKind.i64.wrap (((r*1000000000:Nat):Int)+(x:Int))=((r*1000000000+x:Nat):Int):=wrapN _ (by omega) (by omega)
  have xE:r*1000000000+x≤9223372036854775807:=Uk hr hdT lx
  have q1:=GU (r*1000000000+x) d xE Ar
  have q2:=Hn (r*1000000000+x) d Ar
  have hq:(r*1000000000+x) / d<1000000000:=acK Ar hr lx
  simp only[mI,g0,g1,g6,g7,g8,hz,e1,e3,e4,w2,w4,w5,q1,q2,VX,Nat.reduceEqDiff,Nat.reduceAdd]
  refine⟨(i,outs.set i ((r*1000000000+x) / d),(r*1000000000+x) % d),by simp only;omega,by omega,rfl,by rw[List.length_set];exact kB,nS oA hq,Nat.mod_lt _ Ar,?_,by (repeat' apply And.intro)<;>first | rfl | trivial⟩
  have h1:=Nat.mod_add_div (r*1000000000+x) d
  rw[set_drop (by omega),oZ,oS hx,←hv]
  exact MQ h1
 ·have Qh:j=0:=by omega
  subst Qh
  rw[List.drop_zero,List.drop_zero,va] at hv
  have h1:a / d=val 1000000000 outs:=by
   rw[←hv,Nat.mul_comm,Nat.mul_add_div Ar,Nat.div_eq_of_lt hr,Nat.add_zero]
  have h2:a % d=r:=by
   rw[←hv,Nat.mul_comm,Nat.mul_add_mod,Nat.mod_eq_of_lt hr]
  simp only[mI,g0,g1,g6,g7,g8,hz,VX,Nat.reduceEqDiff,Nat.reduceAdd]
  refine Jt (m:=a / d) oA kB.symm (by omega) h1.symm ?_
  simp only[g7,VX,Nat.reduceEqDiff,Nat.reduceAdd]
  rw[h2]
  exact aI (by simp[aX,aO,tP,bY,kQ])
end Go.PM
namespace Go.PM
theorem KS {H:aC} {b b' g:Nat} {x:cZ} (h:b≠b'):aM (H.set b x) b' g=aM H b' g:=by
 unfold aM
 rw[List.getElem?_set_ne h]
theorem kI {H:aC} {b g e:Nat} {es kD:List VV} {w w':Bool} (h:aM H b g=some (es,e,w)):aM (H.set b (.row g kD e w')) b g=some (kD,e,w'):=by
 have aR:b<H.length:=by
  unfold aM at h
  split at h
  ·rename_i hb
   exact(List.getElem?_eq_some_iff.1 hb).1
  ·cases h
 unfold aM
 rw[List.getElem?_set_self aR]
 simp
theorem jQ {H:aC} {b:Nat} {x y:cZ}:(H.set b x).set b y=H.set b y:=by rw[List.set_set]
theorem sF {H:aC} {b g e:Nat} {es:List VV} {w:Bool} (h:aM H b g=some (es,e,w)):H.set b (.row g es e w)=H:=by
 apply List.ext_getElem?
 intro i
 by_cases hi:b=i
 ·subst hi
  unfold aM at h
  split at h
  ·rename_i hb
   split at h
   ·rename_i hg
    cases h
    rw[List.getElem?_set_self (List.getElem?_eq_some_iff.1 hb).1,hb,hg]
   ·cases h
  ·cases h
 ·rw[List.getElem?_set_ne hi]
theorem Wx {H:aC} {b g o i lo d:Nat} {pre fV post:List Nat} (hr:aM H b g=some ((pre++fV++post).map uV,1,true)) (ho:pre.length=o) (hi:i<fV.length) (dP:lo≤b) :
  dE lo 1 (.ptr b g (o+i) 0) (uV d) H=some (H.set b (.row g ((pre++fV.set i d++post).map uV) 1 true)):=by
 rw[iE (f:=uV) (e:=1) hr (by simp only[List.length_append];omega) dP rfl rfl,Q8 ho hi]
theorem PA {H:aC} {lo b g o L c b2 g2 n2 c2 t:Nat} {pre fV post vs JT:List Nat} {w2:Bool} (hr:aM H b g=some ((pre++fV++post).map uV,1,true)) (Yq:aM H b2 g2=some (JT.map uV,1,w2)) (hb:b≠b2) (dP:lo≤b)
  (ho:pre.length=o) (hL:fV.length=L) (apS:L≤70368744177664) (Mb:JT.take n2=vs) (Xk:n2≤JT.length) (hle:n2≤L) (S6:∀d∈fV,d<4294967296) (DP:∀d∈vs,d<4294967296) (ht:t<4294967296) (sE:t*val 4294967296 vs≤val 4294967296 fV+val 4294967296 vs) :
  kH 122 [.ref b g o L c,.ref b2 g2 0 n2 c2,VK .u64 t] lo H fun r H'=>∃nQ:List Nat,H'=H.set b (.row g ((pre++nQ++post).map uV) 1 true)∧nQ.length=L∧(∀d∈nQ,d<4294967296) ∧
   ((r=VB false∧val 4294967296 nQ+t*val 4294967296 vs=val 4294967296 fV)∨(r=VB true∧val 4294967296 fV<t*val 4294967296 vs∧val 4294967296 nQ+t*val 4294967296 vs=val 4294967296 fV+val 4294967296 vs)):=by
 refine kH.walk ⟨true,false⟩ Gg (Nat.le_of_ble_eq_true rfl) ?_
 have D9:vs.length=n2:=by rw[←Mb,List.length_take];omega
 have uB:∀i,i<n2→JT[i]? = vs[i]? := fun i hi=>by rw[←Mb,List.getElem?_take_of_lt hi]
 have I0:=nR S6
 have Nx:=nR DP
 rw[hL] at I0
 rw[D9] at Nx
 have hVL:val 4294967296 vs≤4294967296^L:=Nat.le_trans (Nat.le_of_lt Nx) (Nat.pow_le_pow_right (by decide) hle)
 have e0:∀ {K:aC} {es:List VV},aM K b g=some (es,1,true)→lY (.ref b g o L c) K=some (VI L):=fun h=>dI h
 have e00:∀ {K:aC},aM K b2 g2=some (JT.map uV,1,w2)→lY (.ref b2 g2 0 n2 c2) K=some (VI n2):=fun h=>dI h
 have rd:∀(s:List Nat),s.length=L→aM (H.set b (.row g ((pre++s++post).map uV) 1 true)) b g=some ((pre++s++post).map uV,1,true):=fun s _=>kI hr
 have rd2:∀(s:List Nat),aM (H.set b (.row g ((pre++s++post).map uV) 1 true)) b2 g2=some (JT.map uV,1,w2):=fun s=>by rw[KS hb];exact Yq
 have wi:∀i:Nat,i<L→IntKind.i64.wrap ((i:Int)+1)=((i+1:Nat):Int):=fun i hi=>wrapN (i+1) (by omega) (by omega)
 have back:∀(ρ:cN) (s:List Nat),s.length=L→(∀d∈s,d<4294967296)→(∀s2:List Nat,s2.length=L→(∀d∈s2,d<4294967296)→∀c,val 4294967296 s+val 4294967296 vs=val 4294967296 s2+4294967296^L*c→val 4294967296 s2+t*val 4294967296 vs=val 4294967296 fV+val 4294967296 vs)→val 4294967296 fV<t*val 4294967296 vs→ρ 0 = .ref b g o L c→ρ 1 = .ref b2 g2 0 n2 c2→ρ 7=VK .u64 0→ρ 58=VI L→ρ 59=VI 0 →
   VW ⟨true,false⟩ lo (.loop jG) (vY 2 (kG (VW ⟨true,false⟩ lo (.seq (.fG [⟨(some 6),(.mv (.const (.bool true))),none,false,[]⟩]) .ret) (yU [.tmp 6] fun r H'=>∃nQ:List Nat,H'=H.set b (.row g ((pre++nQ++post).map uV) 1 true)∧nQ.length=L∧(∀d∈nQ,d<4294967296)∧((r=VB false∧val 4294967296 nQ+t*val 4294967296 vs=val 4294967296 fV)∨(r=VB true∧val 4294967296 fV<t*val 4294967296 vs∧val 4294967296 nQ+t*val 4294967296 vs=val 4294967296 fV+val 4294967296 vs)))) (yU [.tmp 6] fun r H'=>∃nQ:List Nat,H'=H.set b (.row g ((pre++nQ++post).map uV) 1 true)∧nQ.length=L∧(∀d∈nQ,d<4294967296)∧((r=VB false∧val 4294967296 nQ+t*val 4294967296 vs=val 4294967296 fV)∨(r=VB true∧val 4294967296 fV<t*val 4294967296 vs∧val 4294967296 nQ+t*val 4294967296 vs=val 4294967296 fV+val 4294967296 vs))))) ρ (H.set b (.row g ((pre++s++post).map uV) 1 true)):=by
  intro ρ s hs OJ amH Y0 g0 g1 g7 g58 g59
  refine bJ (fun(u:Nat×List Nat×Nat) ρ K=>u.1≤L∧K=H.set b (.row g ((pre++u.2.1++post).map uV) 1 true)∧u.2.1.length=L∧(∀d∈u.2.1,d<4294967296)∧u.2.2≤1∧val 4294967296 (s.take u.1)+val 4294967296 (vs.take u.1)=val 4294967296 (u.2.1.take u.1)+4294967296^u.1*u.2.2∧(∀j,u.1≤j→u.2.1[j]? = s[j]?) ∧
   ρ 0 = .ref b g o L c∧ρ 1 = .ref b2 g2 0 n2 c2∧ρ 7=VK .u64 u.2.2∧ρ 58=VI L∧ρ 59=VI u.1) (fun u=>L-u.1) (0,s,0) ⟨Nat.zero_le _,rfl,hs,OJ,by simp,by simp[val],fun _ _=>rfl,g0,g1,g7,g58,g59⟩ ?_
  rintro⟨i,outs,cy⟩ Km K ⟨hi,rfl,kB,oA,hc,hv,FF,k0,k1,k7,k58,k59⟩
  simp only at hi kB oA hc hv FF k7 k59
  by_cases cX:(i:Int)<(L:Int)
  ·obtain⟨x,hx⟩:∃x,outs[i]? = some x:=⟨_,List.getElem?_eq_getElem (by omega)⟩
   have lx:=oA x (List.mem_of_getElem? hx)
   have YD:s[i]? = some x:=by rw[←FF i (Nat.le_refl _)];exact hx
   have e1:aZ 1 (.ref b g o L c) (VI i) (H.set b (.row g ((pre++outs++post).map uV) 1 true))=some (.ptr b g (o+i) 0):=bD (rd outs kB) (by omega)
   have e2:eZ false 1 (.ptr b g (o+i) 0) (H.set b (.row g ((pre++outs++post).map uV) 1 true))=some (uV x):=iA (rd outs kB) (by rw[Lr ho (by omega)];exact hx)
   have e3:∀d:Nat,dE lo 1 (.ptr b g (o+i) 0) (uV d) (H.set b (.row g ((pre++outs++post).map uV) 1 true))=some (H.set b (.row g ((pre++outs.set i d++post).map uV) 1 true)):=fun d=>by
    rw[Wx (rd outs kB) ho (by omega) dP,jQ]
   have e4:=e00 (rd2 outs)
   have w1:IntKind.u64.wrap (x:Int)=(x:Int):=fF _ (by omega)
   have w2:IntKind.u64.wrap ((cy:Int)+(x:Int))=((cy+x:Nat):Int):=by rw[←Int.natCast_add];exact fF _ (by omega)
   have wii:=wi i (by omega)
   have step:∀y,y<4294967296→(∀d,vs[i]? = some d→d=y)→(vs.length≤i→y=0) →
     (i+1≤L∧(outs.set i ((cy+x+y) % 4294967296)).length=L∧(∀d∈outs.set i ((cy+x+y) % 4294967296),d<4294967296)∧(cy+x+y) / 4294967296≤1∧val 4294967296 (s.take (i+1))+val 4294967296 (vs.take (i+1))=val 4294967296 ((outs.set i ((cy+x+y) % 4294967296)).take (i+1))+4294967296^(i+1)*((cy+x+y) / 4294967296))∧∀j,i+1≤j→(outs.set i ((cy+x+y) % 4294967296))[j]? = s[j]? := by
    intro y hy h1 h2
    refine⟨⟨by omega,by rw[List.length_set];exact kB,nS oA (Nat.mod_lt _ (by decide)),by omega,?_⟩,fun j hj=>by rw[List.getElem?_set_ne (by omega)];exact FF j (by omega)⟩
    have hy':val 4294967296 (vs.take (i+1))=val 4294967296 (vs.take i)+4294967296^i*y:=by
     cases hyi:vs[i]? with
     | some d=>rw[bG hyi,h1 d hyi]
     |
      none =>
      have hle:=List.getElem?_eq_none_iff.1 hyi
      rw[h2 hle,vB hle,vB (by omega),Nat.mul_zero,Nat.add_zero]
    rw[bG YD,hy',iT (by omega),Nat.pow_succ]
    exact Ix hv rfl (Nat.mod_add_div _ _)
   by_cases aR:(i:Int)<(n2:Int)
   ·obtain⟨y,hy⟩:∃y,vs[i]? = some y:=⟨_,List.getElem?_eq_getElem (by omega)⟩
    have ly:=DP y (List.mem_of_getElem? hy)
    have f1:aZ 1 (.ref b2 g2 0 n2 c2) (VI i) (H.set b (.row g ((pre++outs++post).map uV) 1 true))=some (.ptr b2 g2 i 0):=by rw[bD (rd2 outs) (by omega),Nat.zero_add]
    have f2:eZ false 1 (.ptr b2 g2 i 0) (H.set b (.row g ((pre++outs++post).map uV) 1 true))=some (uV y):=iA (rd2 outs) (by rw[uB i (by omega)];exact hy)
    have w3:IntKind.u64.wrap (y:Int)=(y:Int):=fF _ (by omega)
    have w4:IntKind.u64.wrap (((cy+x:Nat):Int)+(y:Int))=((cy+x+y:Nat):Int):=by rw[←Int.natCast_add];exact fF _ (by omega)
    obtain⟨⟨s1,s2,s3,s4,s5⟩,s6⟩:=step y ly (fun d hd=>by rw[hy] at hd;injection hd with hd;exact hd.symm) (fun h=>by omega)
    simp only[jG,k0,k1,k7,k58,k59,cX,aR,e1,e2,e3,e4,f1,f2,w1,w2,w3,w4,wii,wrap32,oN,VX,Nat.reduceEqDiff,Nat.reduceAdd]
    exact⟨(i+1,outs.set i ((cy+x+y) % 4294967296),(cy+x+y) / 4294967296),by simp only;omega,s1,rfl,s2,s3,s4,s5,s6,by (repeat' apply And.intro)<;>first | rfl | trivial⟩
   ·obtain⟨⟨s1,s2,s3,s4,s5⟩,s6⟩:=step 0 (by decide) (fun d hd=>by have:=(List.getElem?_eq_some_iff.1 hd).1;omega) (fun _=>rfl)
    simp only[Nat.add_zero] at s2 s3 s4 s5 s6
    simp only[jG,k0,k1,k7,k58,k59,cX,aR,e1,e2,e3,e4,w1,w2,wii,wrap32,oN,VX,Nat.reduceEqDiff,Nat.reduceAdd]
    exact⟨(i+1,outs.set i ((cy+x) % 4294967296),(cy+x) / 4294967296),by simp only;omega,s1,rfl,s2,s3,s4,s5,s6,by (repeat' apply And.intro)<;>first | rfl | trivial⟩
  ·have zK:i=L:=by omega
   subst zK
   rw[List.take_of_length_le (by omega),List.take_of_length_le (by omega),List.take_of_length_le (by omega)] at hv
   simp only[jG,k0,k1,k7,k58,k59,cX,VX,Nat.reduceEqDiff,Nat.reduceAdd]
   exact⟨outs,rfl,kB,oA,.inr ⟨Y0,amH outs kB oA cy hv⟩⟩
 simp only[Cc,zQ,e0 hr,VX,Nat.reduceEqDiff,Nat.reduceAdd]
 refine bJ (fun(u:Nat×List Nat×Nat×Nat) ρ K=>u.1≤L∧K=H.set b (.row g ((pre++u.2.1++post).map uV) 1 true)∧u.2.1.length=L∧(∀d∈u.2.1,d<4294967296)∧u.2.2.1<4294967296∧u.2.2.2≤1∧val 4294967296 (fV.take u.1)+4294967296^u.1*(u.2.2.1+u.2.2.2)=val 4294967296 (u.2.1.take u.1)+t*val 4294967296 (vs.take u.1)∧(∀j,u.1≤j→u.2.1[j]? = fV[j]?) ∧
  ρ 0 = .ref b g o L c∧ρ 1 = .ref b2 g2 0 n2 c2∧ρ 2=VK .u64 t∧ρ 7=VK .u64 u.2.2.1∧ρ 8=VI u.2.2.2∧ρ 13=VI L∧ρ 14=VI u.1) (fun u=>L-u.1) (0,fV,0,0) ⟨Nat.zero_le _,(sF hr).symm,hL,S6,by simp,by simp,by simp[val],fun _ _=>rfl,by (repeat' apply And.intro)<;>first | rfl | trivial⟩ ?_
 rintro⟨i,outs,cy,l⟩ ρ K ⟨hi,rfl,kB,oA,hc,CL,hv,FF,k0,k1,k2,k7,k8,xU,Ac⟩
 simp only at hi kB oA hc CL hv FF k7 k8 Ac
 by_cases cX:(i:Int)<(L:Int)
 ·obtain⟨x,hx⟩:∃x,outs[i]? = some x:=⟨_,List.getElem?_eq_getElem (by omega)⟩
  have lx:=oA x (List.mem_of_getElem? hx)
  have YD:fV[i]? = some x:=by rw[←FF i (Nat.le_refl _)];exact hx
  have e1:aZ 1 (.ref b g o L c) (VI i) (H.set b (.row g ((pre++outs++post).map uV) 1 true))=some (.ptr b g (o+i) 0):=bD (rd outs kB) (by omega)
  have e2:eZ false 1 (.ptr b g (o+i) 0) (H.set b (.row g ((pre++outs++post).map uV) 1 true))=some (uV x):=iA (rd outs kB) (by rw[Lr ho (by omega)];exact hx)
  have e3:∀d:Nat,dE lo 1 (.ptr b g (o+i) 0) (uV d) (H.set b (.row g ((pre++outs++post).map uV) 1 true))=some (H.set b (.row g ((pre++outs.set i d++post).map uV) 1 true)):=fun d=>by
   rw[Wx (rd outs kB) ho (by omega) dP,jQ]
  have e4:=e00 (rd2 outs)
  have wii:=wi i (by omega)
  have w1:IntKind.i64.wrap (x:Int)=(x:Int):=wrapN x rfl (by omega)
  have step:∀y c1,y<4294967296→c1=cy+t*y→(∀d,vs[i]? = some d→d=y)→(vs.length≤i→y=0) →
    c1 / 4294967296<4294967296∧IntKind.i64.wrap ((x:Int)-((c1 % 4294967296:Nat):Int)-(l:Int))=(x:Int)-((c1 % 4294967296:Nat):Int)-(l:Int)∧IntKind.i64.wrap ((x:Int)-((c1 % 4294967296:Nat):Int))=(x:Int)-((c1 % 4294967296:Nat):Int) ∧
    ∃r l',l'≤1∧((x:Int)-((c1 % 4294967296:Nat):Int)-(l:Int)<0↔l'=1)∧IntKind.u32.wrap ((x:Int)-((c1 % 4294967296:Nat):Int)-(l:Int))=((r:Nat):Int) ∧
    (i+1≤L∧(outs.set i r).length=L∧(∀d∈outs.set i r,d<4294967296)∧c1 / 4294967296<4294967296∧l'≤1∧val 4294967296 (fV.take (i+1))+4294967296^(i+1)*(c1 / 4294967296+l')=val 4294967296 ((outs.set i r).take (i+1))+t*val 4294967296 (vs.take (i+1))∧∀j,i+1≤j→(outs.set i r)[j]? = fV[j]?):=by
   intro y c1 hy Zp h1 h2
   have hty:t*y≤4294967295*4294967295:=Nat.mul_le_mul (by omega) (by omega)
   have hm:=Nat.mod_lt c1 (show 0<4294967296 by decide)
   have hdv:=Nat.mod_add_div c1 4294967296
   have hq:c1 / 4294967296<4294967296:=Nat.div_lt_of_lt_mul (by omega)
   refine⟨hq,wrap64 (by omega) (by omega),wrap64 (by omega) (by omega),?_⟩
   obtain⟨r,l',AR,EP,hd,hlw,BX⟩:∃r l':Nat,l'≤1∧r<4294967296∧r+c1 % 4294967296+l=x+4294967296*l'∧IntKind.u32.wrap ((x:Int)-((c1 % 4294967296:Nat):Int)-(l:Int))=((r:Nat):Int)∧((x:Int)-((c1 % 4294967296:Nat):Int)-(l:Int)<0↔l'=1):=by
    by_cases hn:(x:Int)-((c1 % 4294967296:Nat):Int)-(l:Int)<0
    ·exact⟨x+4294967296-c1 % 4294967296-l,1,by omega,by omega,by omega,WD (by omega) hn (by omega),fun _=>rfl,fun _=>hn⟩
    ·exact⟨x-c1 % 4294967296-l,0,by omega,by omega,by omega,by rw[IntKind.wrap_u32];omega,fun h=>absurd h hn,fun h=>by omega⟩
   refine⟨r,l',AR,BX,hlw,by omega,by rw[List.length_set];exact kB,nS oA EP,hq,AR,?_,fun j hj=>by rw[List.getElem?_set_ne (by omega)];exact FF j (by omega)⟩
   have hy':val 4294967296 (vs.take (i+1))=val 4294967296 (vs.take i)+4294967296^i*y:=by
    cases hyi:vs[i]? with
    | some d=>rw[bG hyi,h1 d hyi]
    |
     none =>
     have hle:=List.getElem?_eq_none_iff.1 hyi
     rw[h2 hle,vB hle,vB (by omega),Nat.mul_zero,Nat.add_zero]
   rw[bG YD,hy',iT (by omega),Nat.pow_succ]
   have:=R7 hv Zp hdv.symm hd
   rw[this,Nat.mul_add,Nat.mul_left_comm t]
  by_cases aR:(i:Int)<(n2:Int)
  ·obtain⟨y,hy⟩:∃y,vs[i]? = some y:=⟨_,List.getElem?_eq_getElem (by omega)⟩
   have ly:=DP y (List.mem_of_getElem? hy)
   have f1:aZ 1 (.ref b2 g2 0 n2 c2) (VI i) (H.set b (.row g ((pre++outs++post).map uV) 1 true))=some (.ptr b2 g2 i 0):=by rw[bD (rd2 outs) (by omega),Nat.zero_add]
   have f2:eZ false 1 (.ptr b2 g2 i 0) (H.set b (.row g ((pre++outs++post).map uV) 1 true))=some (uV y):=iA (rd2 outs) (by rw[uB i (by omega)];exact hy)
   have w3:IntKind.u64.wrap (y:Int)=(y:Int):=fF _ (by omega)
   have hty:t*y≤4294967295*4294967295:=Nat.mul_le_mul (by omega) (by omega)
   have w4:IntKind.u64.wrap ((t:Int)*(y:Int))=((t*y:Nat):Int):=by rw[←Int.natCast_mul];exact fF _ (by omega)
   have w5:IntKind.u64.wrap ((cy:Int)+((t*y:Nat):Int))=((cy+t*y:Nat):Int):=by rw[←Int.natCast_add];exact fF _ (by omega)
   have w6:IntKind.i64.wrap (((cy+t*y) % 4294967296:Nat):Int)=(((cy+t*y) % 4294967296:Nat):Int):=wrapN _ rfl (by omega)
   obtain⟨_,a1,a2,r,l',AR,BX,hw,s1,s2,s3,s4,s5,s6,s7⟩:=step y (cy+t*y) ly rfl (fun d hd=>by rw[hy] at hd;injection hd with hd;exact hd.symm) (fun h=>by omega)
   by_cases hn:(x:Int)-(((cy+t*y) % 4294967296:Nat):Int)-(l:Int)<0
   ·have:=BX.1 hn
    subst this
    simp only[eB,k0,k1,k2,k7,k8,xU,Ac,cX,aR,e1,e2,e3,e4,f1,f2,w1,w3,w4,w5,w6,a1,a2,hn,hw,wii,wrap32,oN,VX,Nat.reduceEqDiff,Nat.reduceAdd]
    exact⟨(i+1,outs.set i r,(cy+t*y) / 4294967296,1),by simp only;omega,s1,rfl,s2,s3,s4,s5,s6,s7,by (repeat' apply And.intro)<;>first | rfl | trivial⟩
   ·have:l'=0:=by
     have:l'≠1:=fun h=>hn (BX.2 h)
     omega
    subst this
    simp only[eB,k0,k1,k2,k7,k8,xU,Ac,cX,aR,e1,e2,e3,e4,f1,f2,w1,w3,w4,w5,w6,a1,a2,hn,hw,wii,wrap32,oN,VX,Nat.reduceEqDiff,Nat.reduceAdd]
    exact⟨(i+1,outs.set i r,(cy+t*y) / 4294967296,0),by simp only;omega,s1,rfl,s2,s3,s4,s5,s6,s7,by (repeat' apply And.intro)<;>first | rfl | trivial⟩
  ·have w6:IntKind.i64.wrap ((cy % 4294967296:Nat):Int)=((cy % 4294967296:Nat):Int):=wrapN _ rfl (by omega)
   obtain⟨_,a1,a2,r,l',AR,BX,hw,s1,s2,s3,s4,s5,s6,s7⟩:=step 0 cy (by decide) (by simp) (fun d hd=>by have:=(List.getElem?_eq_some_iff.1 hd).1;omega) (fun _=>rfl)
   by_cases hn:(x:Int)-((cy % 4294967296:Nat):Int)-(l:Int)<0
   ·have:=BX.1 hn
    subst this
    simp only[eB,k0,k1,k2,k7,k8,xU,Ac,cX,aR,e1,e2,e3,e4,w1,w6,a1,a2,hn,hw,wii,wrap32,oN,VX,Nat.reduceEqDiff,Nat.reduceAdd]
    exact⟨(i+1,outs.set i r,cy / 4294967296,1),by simp only;omega,s1,rfl,s2,s3,s4,s5,s6,s7,by (repeat' apply And.intro)<;>first | rfl | trivial⟩
   ·have:l'=0:=by
     have:l'≠1:=fun h=>hn (BX.2 h)
     omega
    subst this
    simp only[eB,k0,k1,k2,k7,k8,xU,Ac,cX,aR,e1,e2,e3,e4,w1,w6,a1,a2,hn,hw,wii,wrap32,oN,VX,Nat.reduceEqDiff,Nat.reduceAdd]
    exact⟨(i+1,outs.set i r,cy / 4294967296,0),by simp only;omega,s1,rfl,s2,s3,s4,s5,s6,s7,by (repeat' apply And.intro)<;>first | rfl | trivial⟩
 ·have zK:i=L:=by omega
  subst zK
  rw[List.take_of_length_le (by omega),List.take_of_length_le (by omega),List.take_of_length_le (by omega)] at hv
  have ahU:=nR oA
  rw[kB] at ahU
  by_cases hz:l=0∧cy=0
  ·obtain⟨rfl,rfl⟩:=hz
   simp only[eB,k0,k1,k2,k7,k8,xU,Ac,cX,Int.natCast_zero,VX,Nat.reduceEqDiff,Nat.reduceAdd]
   exact⟨outs,rfl,kB,oA,.inl (by simpa using hv.symm)⟩
  ·have amM:cy+l=1:=by
    rcases U1 hv ahU hVL sE with h | h<;>omega
   rw[amM,Nat.mul_one] at hv
   have Y0:val 4294967296 fV<t*val 4294967296 vs:=by omega
   have fin:∀s2:List Nat,s2.length=i→(∀d∈s2,d<4294967296)→∀c,val 4294967296 outs+val 4294967296 vs=val 4294967296 s2+4294967296^i*c→val 4294967296 s2+t*val 4294967296 vs=val 4294967296 fV+val 4294967296 vs:=by
    intro s2 h2 h3 c h4
    have h5:=nR h3
    rw[h2] at h5
    exact WN hv h4 h5 hVL sE I0 (by omega)
   have hlen:=e0 (rd outs kB)
   by_cases IV:(l:Int)=0
   ·have hcy:¬(cy:Int)=0:=by omega
    simp only[eB,k0,k1,k2,k7,k8,xU,Ac,cX,IV,hcy,hlen,VX,Nat.reduceEqDiff,Nat.reduceAdd]
    exact back _ outs kB oA fin Y0 k0 k1 (by rfl) (by rfl) (by rfl)
   ·simp only[eB,k0,k1,k2,k7,k8,xU,Ac,cX,IV,hlen,VX,Nat.reduceEqDiff,Nat.reduceAdd]
    exact back _ outs kB oA fin Y0 k0 k1 (by rfl) (by rfl) (by rfl)
end Go.PM
namespace Go.PM
section
variable {H:aC} {b g o i lo d:Nat} {L R:List VV} {low:List Nat}
theorem Wb (hr:aM H b g=some (L++low.map tV++R,1,true)) (ho:L.length=o) (hi:low[i]? = some d):eZ false 1 (.ptr b g (o+i) 0) H=some (VI (d:Int)):=by
 have aR:=(List.getElem?_eq_some_iff.1 hi).1
 rw[Lk hr (x:=tV d) (by rw[Lr ho (by simpa using aR)];simp[hi])]
 rfl
theorem Ux (hr:aM H b g=some (L++low.map tV++R,1,true)) (ho:L.length=o) (hi:i<low.length) (dP:lo≤b):dE lo 1 (.ptr b g (o+i) 0) (VI (d:Int)) H=some (H.set b (.row g (L++(low.set i d).map tV++R) 1 true)):=by
 rw[CH hr (by simp only[List.length_append,List.length_map];omega) dP rfl rfl,Q8 ho (by simpa using hi),List.map_set]
theorem Pr {n:Nat} {z:Int} (hr:aM H b g=some (L++low.map tV++VI z::R,1,true)) (ho:L.length=o) (hn:low.length=n):eZ false 1 (.ptr b g (o+n) 0) H=some (VI z):=by
 rw[Lk hr (x:=VI z) (by rw[List.getElem?_append_right (by simp;omega)];simp[ho,hn])]
 rfl
theorem Uw {n:Nat} {z z':Int} (hr:aM H b g=some (L++low.map tV++VI z::R,1,true)) (ho:L.length=o) (hn:low.length=n) (dP:lo≤b):dE lo 1 (.ptr b g (o+n) 0) (VI z') H=some (H.set b (.row g (L++low.map tV++VI z'::R) 1 true)):=by
 rw[CH hr (by simp only[List.length_append,List.length_map,List.length_cons];omega) dP rfl rfl,List.set_append_right _ _ (by simp;omega)]
 congr 5
 simp[ho,hn]
end
theorem K5 {P A N B c u x t r k m q T:Nat} (h:A+P*c=N+t*B) (h1:r+m+c=u+T*k) (h2:m+T*q=x*t):(A+P*u)+P*T*(q+k)=(N+P*r)+t*(B+P*x):=by
 have e1:P*(r+m+c)=P*(u+T*k):=by rw[h1]
 have e2:P*(m+T*q)=P*(x*t):=by rw[h2]
 grind
theorem UW {x t:Nat} (hx:x<1000000000) (ht:t<1000000000):x*t≤999999998000000001∧x*t / 1000000000≤999999998:=by
 have h:x*t≤999999999*999999999:=Nat.mul_le_mul (by omega) (by omega)
 omega
theorem Tn {H:aC} {lo b g o n N t top:Nat} {L R:List VV} {low vs:List Nat} (hr:aM H b g=some (L++low.map tV++VI (top:Int)::R,1,true)) (dP:lo≤b) (ho:L.length=o) (hl:low.length=n) (D9:vs.length=n) (hN:o+n<N) (Aq:N≤70368744177664)
  (VY:∀d∈low,d<1000000000) (DP:∀d∈vs,d<1000000000) (ht:t<1000000000) (aeT:top<1000000000) :
  kH 133 [.ref b g 0 N N,fY vs,VI (o:Int),VI (t:Int)] lo H fun r H'=>∃(xC:List Nat) (c:Nat),H'=H.set b (.row g (L++xC.map tV++VI ((top:Int)-(c:Int))::R) 1 true)∧xC.length=n∧(∀d∈xC,d<1000000000)∧c≤1000000000 ∧
   r=VB (decide ((top:Int)-(c:Int)<0))∧val 1000000000 low+1000000000^n*c=val 1000000000 xC+t*val 1000000000 vs:=by
 refine kH.walk ⟨true,false⟩ Dn (Nat.le_of_ble_eq_true rfl) ?_
 have rd:∀(s:List Nat) (z:Int),aM (H.set b (.row g (L++s.map tV++VI z::R) 1 true)) b g=some (L++s.map tV++VI z::R,1,true):=fun s z=>kI hr
 have ad:∀(K:aC) (es:List VV) (i:Nat),aM K b g=some (es,1,true)→i≤n→aZ 1 (.ref b g 0 N N) (VI ((o+i:Nat):Int)) K=some (.ptr b g (o+i) 0):=fun K es i h hi=>by rw[bD h (by omega),Nat.zero_add]
 simp only[zF,vC,dS,VX,Nat.reduceEqDiff,Nat.reduceAdd]
 refine bJ (fun(u:Nat×List Nat×Nat) ρ K=>u.1≤n∧K=H.set b (.row g (L++u.2.1.map tV++VI (top:Int)::R) 1 true)∧u.2.1.length=n∧(∀d∈u.2.1,d<1000000000)∧u.2.2≤1000000000∧val 1000000000 (low.take u.1)+1000000000^u.1*u.2.2=val 1000000000 (u.2.1.take u.1)+t*val 1000000000 (vs.take u.1)∧(∀j,u.1≤j→u.2.1[j]? = low[j]?) ∧
  ρ 0 = .ref b g 0 N N∧ρ 1=fY vs∧ρ 2=VI o∧ρ 3=VI t∧ρ 9=VI u.2.2∧ρ 13=fY vs∧ρ 14=VI vs.length∧ρ 15=VI u.1) (fun u=>n-u.1) (0,low,0) ⟨Nat.zero_le _,(sF hr).symm,hl,VY,by simp,by simp[val],fun _ _=>rfl,by (repeat' apply And.intro)<;>first | rfl | trivial⟩ ?_
 rintro⟨i,outs,c⟩ ρ K ⟨hi,rfl,kB,oA,hc,hv,FF,k0,k1,k2,k3,k9,xU,Ac,GX⟩
 simp only at hi kB oA hc hv FF k9 GX
 by_cases cX:(i:Int)<(vs.length:Int)
 ·obtain⟨u,hu⟩:∃u,outs[i]? = some u:=⟨_,List.getElem?_eq_getElem (by omega)⟩
  have lu:=oA u (List.mem_of_getElem? hu)
  have hu':low[i]? = some u:=by rw[←FF i (Nat.le_refl _)];exact hu
  obtain⟨x,hx⟩:∃x,vs[i]? = some x:=⟨_,List.getElem?_eq_getElem (by omega)⟩
  have lx:=DP x (List.mem_of_getElem? hx)
  obtain⟨xt1,xt2⟩:=UW lx ht
  have e1:aZ 1 (fY vs) (VI i) (H.set b (.row g (L++outs.map tV++VI (top:Int)::R) 1 true))=some (.cD (tV x) 0):=aL (f:=tV) (t := .op) (size:=1) (k := .i64) hx rfl
  have w1:IntKind.i64.wrap ((o:Int)+(i:Int))=((o+i:Nat):Int):=wrapN _ (by omega) (by omega)
  have e2:=ad _ _ i (rd outs top) (by omega)
  have e3:=Wb (rd outs top) ho hu
  have e4:∀d:Nat,dE lo 1 (.ptr b g (o+i) 0) (VI (d:Int)) (H.set b (.row g (L++outs.map tV++VI (top:Int)::R) 1 true))=some (H.set b (.row g (L++(outs.set i d).map tV++VI (top:Int)::R) 1 true)):=fun d=>by rw[Ux (rd outs top) ho (by omega) dP,jQ]
  have w2:IntKind.i64.wrap ((x:Int)*(t:Int))=((x*t:Nat):Int):=wrapN _ (by simp) (by omega)
  have r1:=MR (x*t)
  have q1:=Oc (x*t) (by omega)
  have hm:=Nat.mod_lt (x*t) (show 0<1000000000 by decide)
  have hdv:=Nat.mod_add_div (x*t) 1000000000
  have wi:IntKind.i64.wrap ((i:Int)+1)=((i+1:Nat):Int):=wrapN (i+1) (by omega) (by omega)
  generalize hmq:x*t % 1000000000=m at *
  generalize hqq:x*t / 1000000000=q at *
  have w3:IntKind.i64.wrap ((u:Int)-(m:Int))=(u:Int)-(m:Int):=wrap64 (by omega) (by omega)
  have w4:IntKind.i64.wrap ((u:Int)-(m:Int)-(c:Int))=(u:Int)-(m:Int)-(c:Int):=wrap64 (by omega) (by omega)
  have step:∀r k:Nat,r<1000000000→r+m+c=u+1000000000*k→val 1000000000 (low.take (i+1))+1000000000^(i+1)*(q+k)=val 1000000000 ((outs.set i r).take (i+1))+t*val 1000000000 (vs.take (i+1))∧(∀d∈outs.set i r,d<1000000000)∧(∀j,i+1≤j→(outs.set i r)[j]? = low[j]?)∧(outs.set i r).length=n:=by
   intro r k hr hk
   refine⟨?_,nS oA hr,fun j hj=>by rw[List.getElem?_set_ne (by omega)];exact FF j (by omega),by rw[List.length_set];exact kB⟩
   rw[bG hu',bG hx,iT (by omega),Nat.pow_succ]
   exact K5 hv hk hdv
  by_cases h1:(u:Int)-(m:Int)-(c:Int)<0
  ·have w5:IntKind.i64.wrap ((u:Int)-(m:Int)-(c:Int)+1000000000)=(u:Int)-(m:Int)-(c:Int)+1000000000:=wrap64 (by omega) (by omega)
   have w6:IntKind.i64.wrap ((q:Int)+1)=((q+1:Nat):Int):=wrapN _ (by omega) (by omega)
   by_cases h2:(u:Int)-(m:Int)-(c:Int)+1000000000<0
   ·obtain⟨r,hr⟩:∃r:Nat,r+m+c=u+1000000000*2:=⟨u+1000000000*2-m-c,by omega⟩
    have w7:IntKind.i64.wrap ((u:Int)-(m:Int)-(c:Int)+1000000000+1000000000)=(r:Int):=wrapN r (by omega) (by omega)
    have w8:IntKind.i64.wrap (((q+1:Nat):Int)+1)=((q+2:Nat):Int):=wrapN _ (by omega) (by omega)
    obtain⟨s1,s2,s3,s4⟩:=step r 2 (by omega) hr
    simp only[iJ,k0,k1,k2,k3,k9,xU,Ac,GX,cX,e1,e2,e3,e4,w1,w2,w3,w4,w5,w6,w7,w8,wi,r1,q1,h1,h2,VX,Nat.reduceEqDiff,Nat.reduceAdd]
    refine⟨(i+1,outs.set i r,q+2),by simp only;omega,by omega,rfl,s4,s2,by simp only;omega,s1,s3,?_⟩
    try (repeat' apply And.intro)<;>first | rfl | trivial
   ·obtain⟨r,hr⟩:∃r:Nat,r+m+c=u+1000000000*1:=⟨u+1000000000*1-m-c,by omega⟩
    have w7:IntKind.i64.wrap ((u:Int)-(m:Int)-(c:Int)+1000000000)=(r:Int):=wrapN r (by omega) (by omega)
    have h3:¬(r:Int)<0:=by omega
    obtain⟨s1,s2,s3,s4⟩:=step r 1 (by omega) hr
    simp only[iJ,k0,k1,k2,k3,k9,xU,Ac,GX,cX,e1,e2,e3,e4,w1,w2,w3,w4,w6,w7,wi,r1,q1,h1,h3,VX,Nat.reduceEqDiff,Nat.reduceAdd]
    refine⟨(i+1,outs.set i r,q+1),by simp only;omega,by omega,rfl,s4,s2,by simp only;omega,s1,s3,?_⟩
    try (repeat' apply And.intro)<;>first | rfl | trivial
  ·obtain⟨r,hr⟩:∃r:Nat,r+m+c=u+1000000000*0:=⟨u-m-c,by omega⟩
   have w7:IntKind.i64.wrap ((u:Int)-(m:Int)-(c:Int))=(r:Int):=wrapN r (by omega) (by omega)
   have h3:¬(r:Int)<0:=by omega
   obtain⟨s1,s2,s3,s4⟩:=step r 0 (by omega) hr
   simp only[iJ,k0,k1,k2,k3,k9,xU,Ac,GX,cX,e1,e2,e3,e4,w1,w2,w3,w7,wi,r1,q1,h3,VX,Nat.reduceEqDiff,Nat.reduceAdd]
   refine⟨(i+1,outs.set i r,q),by simp only;omega,by omega,rfl,s4,s2,by simp only;omega,s1,s3,?_⟩
   try (repeat' apply And.intro)<;>first | rfl | trivial
 ·have zK:i=n:=by omega
  subst zK
  rw[List.take_of_length_le (by omega),List.take_of_length_le (by omega),List.take_of_length_le (by omega)] at hv
  have w1:IntKind.i64.wrap ((o:Int)+(vs.length:Int))=((o+i:Nat):Int):=wrapN _ (by omega) (by omega)
  have e2:=ad _ _ i (rd outs top) (by omega)
  have e2':=ad _ _ i (rd outs ((top:Int)-(c:Int))) (by omega)
  have e3:=Pr (rd outs top) ho kB
  have e3':=Pr (rd outs ((top:Int)-(c:Int))) ho kB
  have e4:dE lo 1 (.ptr b g (o+i) 0) (VI ((top:Int)-(c:Int))) (H.set b (.row g (L++outs.map tV++VI (top:Int)::R) 1 true))=some (H.set b (.row g (L++outs.map tV++VI ((top:Int)-(c:Int))::R) 1 true)):=by rw[Uw (rd outs top) ho kB dP,jQ]
  have w2:IntKind.i64.wrap ((top:Int)-(c:Int))=(top:Int)-(c:Int):=wrap64 (by omega) (by omega)
  simp only[iJ,k0,k1,k2,k3,k9,xU,Ac,GX,cX,dS,w1,w2,e2,e2',e3,e3',e4,VX,Nat.reduceEqDiff,Nat.reduceAdd]
  refine⟨outs,c,rfl,kB,oA,hc,?_,hv⟩
  try rfl
theorem SV {H:aC} {lo b g o n N:Nat} {z:Int} {L R:List VV} {low vs:List Nat} (hr:aM H b g=some (L++low.map tV++VI z::R,1,true)) (dP:lo≤b) (ho:L.length=o) (hl:low.length=n) (D9:vs.length=n) (hN:o+n<N) (Aq:N≤70368744177664)
  (VY:∀d∈low,d<1000000000) (DP:∀d∈vs,d<1000000000) (hz : -1000000000≤z) (Rw:z≤1000000000) :
  kH 134 [.ref b g 0 N N,fY vs,VI (o:Int)] lo H fun r H'=>∃(xC:List Nat) (c:Nat),H'=H.set b (.row g (L++xC.map tV++VI (z+(c:Int))::R) 1 true)∧xC.length=n∧(∀d∈xC,d<1000000000)∧c≤1 ∧
   val 1000000000 low+val 1000000000 vs=val 1000000000 xC+1000000000^n*c:=by
 refine kH.walk ⟨true,false⟩ Dj (Nat.le_of_ble_eq_true rfl) ?_
 have rd:∀(s:List Nat) (z:Int),aM (H.set b (.row g (L++s.map tV++VI z::R) 1 true)) b g=some (L++s.map tV++VI z::R,1,true):=fun s z=>kI hr
 have ad:∀(K:aC) (es:List VV) (i:Nat),aM K b g=some (es,1,true)→i≤n→aZ 1 (.ref b g 0 N N) (VI ((o+i:Nat):Int)) K=some (.ptr b g (o+i) 0):=fun K es i h hi=>by rw[bD h (by omega),Nat.zero_add]
 simp only[zT,vH,dS,VX,Nat.reduceEqDiff,Nat.reduceAdd]
 refine bJ (fun(u:Nat×List Nat×Nat) ρ K=>u.1≤n∧K=H.set b (.row g (L++u.2.1.map tV++VI z::R) 1 true)∧u.2.1.length=n∧(∀d∈u.2.1,d<1000000000)∧u.2.2≤1∧val 1000000000 (low.take u.1)+val 1000000000 (vs.take u.1)=val 1000000000 (u.2.1.take u.1)+1000000000^u.1*u.2.2∧(∀j,u.1≤j→u.2.1[j]? = low[j]?) ∧
  ρ 0 = .ref b g 0 N N∧ρ 1=fY vs∧ρ 2=VI o∧ρ 6=VI u.2.2∧ρ 10=fY vs∧ρ 11=VI vs.length∧ρ 12=VI u.1) (fun u=>n-u.1) (0,low,0) ⟨Nat.zero_le _,(sF hr).symm,hl,VY,by simp,by simp[val],fun _ _=>rfl,by (repeat' apply And.intro)<;>first | rfl | trivial⟩ ?_
 rintro⟨i,outs,c⟩ ρ K ⟨hi,rfl,kB,oA,hc,hv,FF,k0,k1,k2,k6,TR,RX,FL⟩
 simp only at hi kB oA hc hv FF k6 FL
 by_cases cX:(i:Int)<(vs.length:Int)
 ·obtain⟨u,hu⟩:∃u,outs[i]? = some u:=⟨_,List.getElem?_eq_getElem (by omega)⟩
  have lu:=oA u (List.mem_of_getElem? hu)
  have hu':low[i]? = some u:=by rw[←FF i (Nat.le_refl _)];exact hu
  obtain⟨x,hx⟩:∃x,vs[i]? = some x:=⟨_,List.getElem?_eq_getElem (by omega)⟩
  have lx:=DP x (List.mem_of_getElem? hx)
  have e1:aZ 1 (fY vs) (VI i) (H.set b (.row g (L++outs.map tV++VI z::R) 1 true))=some (.cD (tV x) 0):=aL (f:=tV) (t := .op) (size:=1) (k := .i64) hx rfl
  have w1:IntKind.i64.wrap ((o:Int)+(i:Int))=((o+i:Nat):Int):=wrapN _ (by omega) (by omega)
  have e2:=ad _ _ i (rd outs z) (by omega)
  have e3:=Wb (rd outs z) ho hu
  have e4:∀d:Nat,dE lo 1 (.ptr b g (o+i) 0) (VI (d:Int)) (H.set b (.row g (L++outs.map tV++VI z::R) 1 true))=some (H.set b (.row g (L++(outs.set i d).map tV++VI z::R) 1 true)):=fun d=>by rw[Ux (rd outs z) ho (by omega) dP,jQ]
  have w2:IntKind.i64.wrap ((u:Int)+(x:Int))=((u+x:Nat):Int):=wrapN _ (by omega) (by omega)
  have w3:IntKind.i64.wrap (((u+x:Nat):Int)+(c:Int))=((u+x+c:Nat):Int):=wrapN _ (by omega) (by omega)
  have r1:=MR (u+x+c)
  have q1:=Oc (u+x+c) (by omega)
  have wi:IntKind.i64.wrap ((i:Int)+1)=((i+1:Nat):Int):=wrapN (i+1) (by omega) (by omega)
  simp only[nO,k0,k1,k2,k6,TR,RX,FL,cX,e1,e2,e3,e4,w1,w2,w3,wi,r1,q1,VX,Nat.reduceEqDiff,Nat.reduceAdd]
  refine⟨(i+1,outs.set i ((u+x+c) % 1000000000),(u+x+c) / 1000000000),by simp only;omega,by omega,rfl,by rw[List.length_set];exact kB,nS oA (Nat.mod_lt _ (by decide)),by simp only;omega,?_,fun j hj=>by rw[List.getElem?_set_ne (by omega)];exact FF j (by omega),?_⟩
  ·simp only
   rw[bG hu',bG hx,iT (by omega),Nat.pow_succ]
   exact Ix hv (show c+u+x=u+x+c by omega) (Nat.mod_add_div _ _)
  ·try (repeat' apply And.intro)<;>first | rfl | trivial
 ·have zK:i=n:=by omega
  subst zK
  rw[List.take_of_length_le (by omega),List.take_of_length_le (by omega),List.take_of_length_le (by omega)] at hv
  have w1:IntKind.i64.wrap ((o:Int)+(vs.length:Int))=((o+i:Nat):Int):=wrapN _ (by omega) (by omega)
  have e2:=ad _ _ i (rd outs z) (by omega)
  have e3:=Pr (rd outs z) ho kB
  have e4:dE lo 1 (.ptr b g (o+i) 0) (VI (z+(c:Int))) (H.set b (.row g (L++outs.map tV++VI z::R) 1 true))=some (H.set b (.row g (L++outs.map tV++VI (z+(c:Int))::R) 1 true)):=by rw[Uw (rd outs z) ho kB dP,jQ]
  have w2:IntKind.i64.wrap (z+(c:Int))=z+(c:Int):=wrap64 (by omega) (by omega)
  simp only[nO,k0,k1,k2,k6,TR,RX,FL,cX,dS,w1,w2,e2,e3,e4,VX,Nat.reduceEqDiff,Nat.reduceAdd]
  exact⟨outs,c,rfl,kB,oA,hc,hv⟩
end Go.PM
namespace Go.PM
theorem GF {d:Nat} {H:aC}:fz (d+1) H (.tree [] .nil)=some (cT 0):=by
 rw[EE]
 unfold fz
 have:aX (.tree [] .nil)=false:=by simp[aX]
 simp only[this,Bool.false_eq_true,if_false]
 rfl
theorem WT {d:Nat} {H:aC} {m:Nat} {t:TK} (ht:t = .cl 1∨t = .op):fz (d+2) H (.tree ((aG 4294967296 m).map uV) t)=some (cT m):=by
 rcases ht with rfl | rfl
 ·unfold fz
  have:aX (.tree ((aG 4294967296 m).map uV) (.cl 1))=false:=by simp[aX]
  simp only[this,Bool.false_eq_true,if_false]
  rw[mapM_pure (gO fun _=>rfl)]
  rfl
 ·exact aQ (dB m)
abbrev H3 (us ws os:List Nat):aC:=[.row 0 (us.map uV) 1 true,.row 0 (ws.map uV) 1 true,.row 0 (os.map uV) 1 true]
theorem Ag {us ws os:List Nat}:aM (H3 us ws os) 0 0=some (us.map uV,1,true):=rfl
theorem agR {us ws os:List Nat}:aM (H3 us ws os) 1 0=some (ws.map uV,1,true):=rfl
theorem YX {us ws os:List Nat}:aM (H3 us ws os) 2 0=some (os.map uV,1,true):=rfl
theorem R6 {us:List Nat} {i n N V:Nat} (hN:us.length=N) (cX:i+n<N) (hd:∀d∈us,d<4294967296) (hV:V<4294967296^n) (zV:val 4294967296 (us.drop (i+1))<V) :
  us=us.take i++(us.drop i).take (n+1)++us.drop (i+(n+1))∧(us.take i).length=i∧((us.drop i).take (n+1)).length=n+1∧val 4294967296 ((us.drop i).take (n+1))<4294967296*V∧val 4294967296 (us.drop i)=val 4294967296 ((us.drop i).take (n+1))∧val 4294967296 (us.drop (i+(n+1)))=0∧∀j,j<n+1→((us.drop i).take (n+1))[j]? = us[i+j]? := by
 obtain⟨x,hx⟩:∃x,us[i]? = some x:=⟨_,List.getElem?_eq_getElem (by omega)⟩
 have lx:=hd x (List.mem_of_getElem? hx)
 have h1:=oS (b:=4294967296) hx
 have h2:val 4294967296 (us.drop i)<4294967296*V:=by
  have:4294967296*(val 4294967296 (us.drop (i+1))+1)≤4294967296*V:=Nat.mul_le_mul_left _ zV
  omega
 have h3:=mA (b:=4294967296) (us.drop i) (n+1)
 have h4:((us.drop i).take (n+1)).length=n+1:=by rw[List.length_take,List.length_drop];omega
 rw[h4,List.drop_drop] at h3
 have h5:val 4294967296 (us.drop (i+(n+1)))=0:=by
  rcases Nat.eq_zero_or_pos (val 4294967296 (us.drop (i+(n+1)))) with h | h
  ·exact h
  ·have h6:4294967296^(n+1)*1≤4294967296^(n+1)*val 4294967296 (us.drop (i+(n+1))):=Nat.mul_le_mul_left _ h
   have h7:4294967296*V≤4294967296^(n+1):=by rw[Nat.pow_succ,Nat.mul_comm];exact Nat.mul_le_mul_right _ (by omega)
   omega
 rw[h5,Nat.mul_zero,Nat.add_zero] at h3
 refine⟨?_,by rw[List.length_take];omega,h4,by omega,h3,h5,fun j hj => ?_⟩
 ·rw[List.append_assoc,←List.drop_drop,List.take_append_drop,List.take_append_drop]
 ·rw[List.getElem?_take_of_lt hj,List.getElem?_drop]
theorem M8 {x D p w:Nat} (hp:0<p) (hw:p*w=4294967296):(x+4294967296*D) / p=((D % 4294967296*4294967296+x) / p) % 4294967296+4294967296*(D / p)∨¬x<4294967296:=by
 rcases Nat.lt_or_ge x 4294967296 with hx | hx
 ·left
  have h1:(x+4294967296*D) / p / 4294967296=D / p:=by
   rw[Nat.div_div_eq_div_mul,Nat.mul_comm p,←Nat.div_div_eq_div_mul,Nat.add_mul_div_left _ _ (by decide),Nat.div_eq_of_lt hx,Nat.zero_add]
  have h2:(x+4294967296*D) / p % 4294967296=(D % 4294967296*4294967296+x) / p % 4294967296:=by
   have e:x+4294967296*D=(D % 4294967296*4294967296+x)+p*(4294967296*(w*(D / 4294967296))):=by
    have h3:=Nat.mod_add_div D 4294967296
    have h4:p*(4294967296*(w*(D / 4294967296)))=(p*w)*(4294967296*(D / 4294967296)):=by grind
    rw[h4,hw]
    omega
   rw[e,Nat.add_mul_div_left _ _ hp,Nat.add_mul_mod_self_left]
  have:=Nat.mod_add_div ((x+4294967296*D) / p) 4294967296
  rw[h1,h2] at this
  exact this.symm
 ·right
  omega
theorem P7 {x:Nat} (h0:x≠0) (hx:x<4294967296):∃s,s≤31∧TC 120 [uV x] (VI (s:Nat))∧x*2^s<4294967296:=by
 obtain⟨h1,h2,h3⟩:=Lib.bitLenAux_bounds 64 x (by omega) h0
 have h4:Lib.bitLenAux 64 x-1<32:=by
  have:2^(Lib.bitLenAux 64 x-1)<2^32:=by omega
  exact(Nat.pow_lt_pow_iff_right (by decide)).1 this
 refine⟨32-Lib.bitLenAux 64 x,by omega,?_,?_⟩
 ·have:=To x hx
  have e:(((32-Lib.bitLenAux 64 x:Nat)):Int)=32-(Lib.bitLen x:Int):=by unfold Lib.bitLen;omega
  rw[e]
  exact this
 ·have:2^Lib.bitLenAux 64 x*2^(32-Lib.bitLenAux 64 x)=4294967296:=by rw[←Nat.pow_add,show Lib.bitLenAux 64 x+(32-Lib.bitLenAux 64 x)=32 by omega]
  rw[←this]
  exact Nat.mul_lt_mul_of_pos_right h3 (Nat.pow_pos (by decide))
theorem TE {us ws os:List Nat} {k N s w0:Nat} {ρ:cN} {Q:VQ} (hs:s≤31) (hw:2^s*w0=4294967296) (hN:us.length=N) (hk:k≤N) (Aq:N≤70368744177664) (hd:∀d∈us,d<4294967296) (g8:ρ 8=VI s) (g9:ρ 9 = .ref 0 0 0 k N) (akK:ρ 147=VI k) (anO:ρ 148=VI 0)
  (hQ:∀(aP:cN) (Eo:List Nat),aP 9 = .ref 0 0 0 k N→aP 13=ρ 13→Eo.length=N→(∀d∈Eo,d<4294967296)→val 4294967296 (Eo.take k)=val 4294967296 (us.take k) / 2^s→Q (.exit 4) aP (H3 Eo ws os)) :
  VW ⟨true,false⟩ 0 (.loop iX) Q ρ (H3 us ws os):=by
 have hp:0<2^s:=Nat.pow_pos (by decide)
 refine bJ (fun(t:Nat×List Nat) aP H=>t.1≤k∧H=H3 t.2 ws os∧t.2.length=N∧(∀d∈t.2,d<4294967296)∧(∀j,t.1≤j→t.2[j]? = us[j]?)∧val 4294967296 (t.2.take t.1)+4294967296^t.1*(val 4294967296 ((us.take k).drop t.1) / 2^s)=val 4294967296 (us.take k) / 2^s ∧
  aP 8=VI s∧aP 9 = .ref 0 0 0 k N∧aP 13=ρ 13∧aP 147=VI k∧aP 148=VI t.1) (fun t=>k-t.1) (0,us) ⟨Nat.zero_le _,rfl,hN,hd,fun _ _=>rfl,by simp[val],g8,g9,rfl,akK,anO⟩ ?_
 rintro⟨i,vs⟩ Km H ⟨hi,rfl,D9,DP,FF,hv,k8,k9,xU,abC,X7⟩
 simp only at hi D9 DP FF hv X7
 by_cases cX:(i:Int)<(k:Int)
 ·obtain⟨x,hx⟩:∃x,us[i]? = some x:=⟨_,List.getElem?_eq_getElem (by omega)⟩
  have Zl:vs[i]? = some x:=by rw[FF i (Nat.le_refl _)];exact hx
  have lx:=hd x (List.mem_of_getElem? hx)
  have hx3:(us.take k)[i]? = some x:=by rw[List.getElem?_take_of_lt (by omega)];exact hx
  have h1:=oS (b:=4294967296) hx3
  generalize hD:val 4294967296 ((us.take k).drop (i+1))=D at *
  have hlen:lY (.ref 0 0 0 k N) (H3 vs ws os)=some (VI k):=dI Ag
  have e1:aZ 1 (.ref 0 0 0 k N) (VI i) (H3 vs ws os)=some (.ptr 0 0 i 0):=by rw[bD Ag (by omega),Nat.zero_add]
  have e2:eZ false 1 (.ptr 0 0 i 0) (H3 vs ws os)=some (uV x):=iA Ag Zl
  have e3:∀d:Nat,dE 0 1 (.ptr 0 0 i 0) (uV d) (H3 vs ws os)=some (H3 (vs.set i d) ws os):=fun d=>by
   rw[iE (f:=uV) (e:=1) Ag (by omega) (Nat.le_refl _) rfl rfl]
   rfl
  have wi:IntKind.i64.wrap ((i:Int)+1)=((i+1:Nat):Int):=wrapN (i+1) (by omega) (by omega)
  have wx:IntKind.u64.wrap (x:Int)=(x:Int):=fF _ (by omega)
  have hm:=Nat.mod_lt D (show 0<4294967296 by decide)
  have w5:=BA (D % 4294967296) .u64 hm
  have w6:IntKind.u64.wrap (((D % 4294967296*4294967296:Nat):Int)+(x:Int))=((D % 4294967296*4294967296+x:Nat):Int):=by rw[←Int.natCast_add];exact fF _ (by omega)
  have w7:=UM (D % 4294967296*4294967296+x) s hs
  have sd:(x+4294967296*D) / 2^s=((D % 4294967296*4294967296+x) / 2^s) % 4294967296+4294967296*(D / 2^s):=by
   rcases M8 (x:=x) (D:=D) hp hw with h | h
   ·exact h
   ·exact absurd lx h
  have next:∃s':Nat×List Nat,k-s'.1<k-i∧s'.1≤k∧H3 (vs.set i (((D % 4294967296*4294967296+x) / 2^s) % 4294967296)) ws os=H3 s'.2 ws os∧s'.2.length=N∧(∀d∈s'.2,d<4294967296)∧(∀j,s'.1≤j→s'.2[j]? = us[j]?)∧val 4294967296 (s'.2.take s'.1)+4294967296^s'.1*(val 4294967296 ((us.take k).drop s'.1) / 2^s)=val 4294967296 (us.take k) / 2^s∧s'.1=i+1:=by
   refine⟨(i+1,vs.set i (((D % 4294967296*4294967296+x) / 2^s) % 4294967296)),by simp only;omega,by simp only;omega,rfl,by simp only[List.length_set];exact D9,nS DP (Nat.mod_lt _ (by decide)),fun j hj => ?_,?_,rfl⟩
   ·simp only at hj ⊢
    rw[List.getElem?_set_ne (by omega)]
    exact FF j (by omega)
   ·simp only
    rw[iT (by omega),hD,←hv,h1,sd,Nat.pow_succ]
    generalize (D % 4294967296*4294967296+x) / 2^s % 4294967296=q
    generalize D / 2^s=E
    rw[Nat.mul_add,Nat.mul_assoc,Nat.add_assoc]
  obtain⟨s',n1,n2,n3,n4,n5,n6,n7,n8⟩:=next
  by_cases afB:((i+1:Nat):Int)<(k:Int)
  ·obtain⟨h,hh⟩:∃h,us[i+1]? = some h:=⟨_,List.getElem?_eq_getElem (by omega)⟩
   have hh2:vs[i+1]? = some h:=by rw[FF (i+1) (by omega)];exact hh
   have hhD:D % 4294967296=h:=by
    have hh3:(us.take k)[i+1]? = some h:=by rw[List.getElem?_take_of_lt (by omega)];exact hh
    have:=oS (b:=4294967296) hh3
    rw[hD] at this
    have lh:=hd h (List.mem_of_getElem? hh)
    omega
   have f1:aZ 1 (.ref 0 0 0 k N) (VI ((i+1:Nat):Int)) (H3 vs ws os)=some (.ptr 0 0 (i+1) 0):=by rw[bD Ag (by omega),Nat.zero_add]
   have f2:eZ false 1 (.ptr 0 0 (i+1) 0) (H3 vs ws os)=some (uV h):=iA Ag hh2
   have wh:IntKind.u64.wrap (h:Int)=(h:Int):=fF _ (by omega)
   rw[hhD] at w5 w6 w7 n3
   simp only[iX,k8,k9,abC,X7,cX,afB,hlen,e1,e2,e3,f1,f2,wi,wx,wh,w5,w6,w7,wrap32,VX,Nat.reduceEqDiff,Nat.reduceAdd]
   exact⟨s',n1,n2,n3,n4,n5,n6,n7,xU,by rw[n8]⟩
  ·have hD0:D=0:=by
    rw[←hD,List.drop_of_length_le (by rw[List.length_take];omega)]
    rfl
   subst hD0
   have w5':cY .shl (.int .u64 0) (.int .u64 32)=some (.int .u64 0):=BA 0 .u64 (by decide)
   have w6':IntKind.u64.wrap ((0:Int)+(x:Int))=(x:Int):=by rw[Int.zero_add];exact wx
   have w7':=UM x s hs
   simp only[Nat.zero_mod,Nat.zero_mul,Nat.zero_add] at n3
   simp only[iX,k8,k9,abC,X7,cX,afB,hlen,e1,e2,e3,wi,wx,w5',w6',w7',wrap32,VX,Nat.reduceEqDiff,Nat.reduceAdd]
   exact⟨s',n1,n2,n3,n4,n5,n6,n7,xU,by rw[n8]⟩
 ·have zK:i=k:=by omega
  subst zK
  rw[List.drop_of_length_le (by rw[List.length_take];omega)] at hv
  simp only[val,Nat.zero_div,Nat.mul_zero,Nat.add_zero] at hv
  simp only[iX,k8,k9,abC,X7,cX,VX,Nat.reduceEqDiff,Nat.reduceAdd]
  exact hQ _ vs k9 xU D9 DP hv
end Go.PM
namespace Go.PM
theorem PF {fV vs us ws os:List Nat} {n u2 u1 u0 v1 v0 N k g left:Nat} (G:rS 4294967296 fV vs n u2 u1 u0 v1 v0) {ρ:cN} {Q:VQ} (hN:us.length=N) (U2:2≤k) (hkN:k<N) (Aq:N≤70368744177664) (Yk:us[k-2]? = some u0)
  (g9:ρ 9 = .ref 0 0 0 N N) (g11:ρ 11=VK .u64 v1) (g12:ρ 12=VK .u64 v0) (g15:ρ 15=VI k) (g17:ρ 17=VK .u64 g) (g18:ρ 18=VK .u64 left) (hh:u2*4294967296+u1=g*v1+left) (hq:val 4294967296 fV / val 4294967296 vs≤g) (hl:left<4294967296) (Yh:g<18446744073709551616)
  (hQ:∀(aP:cN) (g':Nat),val 4294967296 fV / val 4294967296 vs≤g'→g'≤val 4294967296 fV / val 4294967296 vs+1→g'<4294967296→aP 17=VK .u64 g'→aP 8=ρ 8→aP 9=ρ 9→aP 10=ρ 10→aP 11=ρ 11→aP 12=ρ 12→aP 13=ρ 13→aP 14=ρ 14→aP 15=ρ 15→Q (.exit 2) aP (H3 us ws os)) :
  VW ⟨true,false⟩ 0 (.loop fA) Q ρ (H3 us ws os):=by
 have lv1:=G.Qz
 have lv0:=G.V6
 have lu0:=G.ZC
 have qlt:=G.Yg
 have fL:=G.pos
 refine bJ (fun(t:Nat×Nat) aP H=>H=H3 us ws os∧u2*4294967296+u1=t.1*v1+t.2∧val 4294967296 fV / val 4294967296 vs≤t.1∧t.2<4294967296∧t.1<18446744073709551616 ∧
  aP 9 = .ref 0 0 0 N N∧aP 11=VK .u64 v1∧aP 12=VK .u64 v0∧aP 15=VI k∧aP 17=VK .u64 t.1∧aP 18=VK .u64 t.2∧aP 8=ρ 8∧aP 10=ρ 10∧aP 13=ρ 13∧aP 14=ρ 14) (fun t=>4294967296-t.2) (g,left) ⟨rfl,hh,hq,hl,Yh,g9,g11,g12,g15,g17,g18,rfl,rfl,rfl,rfl⟩ ?_
 rintro⟨g,left⟩ Km H ⟨rfl,hh,hq,hl,Yh,k9,RX,FL,GX,G1,YW,k8,TR,xU,Ac⟩
 simp only at hh hq hl Yh G1 YW
 have e1:aZ 1 (.ref 0 0 0 N N) (VI ((k-2:Nat):Int)) (H3 us ws os)=some (.ptr 0 0 (k-2) 0):=by rw[bD Ag (by omega),Nat.zero_add]
 have e2:eZ false 1 (.ptr 0 0 (k-2) 0) (H3 us ws os)=some (uV u0):=iA Ag Yk
 have wk:IntKind.i64.wrap ((k:Int)-2)=((k-2:Nat):Int):=wrapN _ (by omega) (by omega)
 have wu:IntKind.u64.wrap (u0:Int)=(u0:Int):=fF _ (by omega)
 have ws:=BA left .u64 hl
 have wa:IntKind.u64.wrap (((left*4294967296:Nat):Int)+(u0:Int))=((left*4294967296+u0:Nat):Int):=by rw[←Int.natCast_add];exact fF _ (by omega)
 have wl:IntKind.u64.wrap ((left:Int)+(v1:Int))=((left+v1:Nat):Int):=by rw[←Int.natCast_add];exact fF _ (by omega)
 have same:Km 9=ρ 9∧Km 11=ρ 11∧Km 12=ρ 12∧Km 15=ρ 15:=⟨by rw[k9,g9],by rw[RX,g11],by rw[FL,g12],by rw[GX,g15]⟩
 obtain⟨s9,s11,s12,Z6⟩:=same
 have down:val 4294967296 fV / val 4294967296 vs<g→∃g',g=g'+1∧IntKind.u64.wrap ((g:Int)-1)=(g':Int)∧u2*4294967296+u1=g'*v1+(left+v1)∧val 4294967296 fV / val 4294967296 vs≤g':=by
  intro h
  have Z2:1≤g:=Nat.lt_of_le_of_lt (Nat.zero_le _) h
  obtain⟨g',rfl⟩:∃g',g=g'+1:=⟨g-1,by omega⟩
  refine⟨g',rfl,?_,?_,by omega⟩
  ·rw[show ((g'+1:Nat):Int)-1=(g':Int) by omega]
   exact fF _ (by omega)
  ·rw[hh,Nat.add_mul]
   omega
 by_cases hA:(4294967296:Int)≤(g:Int)
 ·obtain⟨g',hg',wg,PX,I9⟩:=down (by omega)
  by_cases hB:(4294967296:Int)≤((left+v1:Nat):Int)
  ·obtain⟨c1,c2⟩:=G.broken PX (by omega)
   simp only[fA,k9,RX,FL,GX,G1,YW,hA,hB,wg,wl,VX,Nat.reduceEqDiff,Nat.reduceAdd]
   exact hQ _ g' I9 (G.Tk PX (by omega) c2) c1 rfl k8 s9 TR s11 s12 xU Ac Z6
  ·simp only[fA,k9,RX,FL,GX,G1,YW,hA,hB,wg,wl,VX,Nat.reduceEqDiff,Nat.reduceAdd]
   exact⟨(g',left+v1),by simp only;omega,PX,I9,by simp only;omega,by simp only;omega,by rfl,by rfl,k8,TR,xU,Ac⟩
 ·have hgv:g*v0≤4294967295*4294967295:=Nat.mul_le_mul (by omega) (by omega)
  have wm:IntKind.u64.wrap ((g:Int)*(v0:Int))=((g*v0:Nat):Int):=by rw[←Int.natCast_mul];exact fF _ (by omega)
  by_cases hT:((left*4294967296+u0:Nat):Int)<((g*v0:Nat):Int)
  ·obtain⟨g',hg',wg,PX,I9⟩:=down (G.too hh (by omega))
   by_cases hB:(4294967296:Int)≤((left+v1:Nat):Int)
   ·obtain⟨c1,c2⟩:=G.broken PX (by omega)
    simp only[fA,k9,RX,FL,GX,G1,YW,hA,hB,hT,e1,e2,wk,wu,ws,wa,wm,wg,wl,VX,Nat.reduceEqDiff,Nat.reduceAdd]
    exact hQ _ g' I9 (G.Tk PX (by omega) c2) c1 rfl k8 s9 TR s11 s12 xU Ac Z6
   ·simp only[fA,k9,RX,FL,GX,G1,YW,hA,hB,hT,e1,e2,wk,wu,ws,wa,wm,wg,wl,VX,Nat.reduceEqDiff,Nat.reduceAdd]
    exact⟨(g',left+v1),by simp only;omega,PX,I9,by simp only;omega,by simp only;omega,by rfl,by rfl,k8,TR,xU,Ac⟩
  ·simp only[fA,k9,RX,FL,GX,G1,YW,hA,hT,e1,e2,wk,wu,ws,wa,wm,VX,Nat.reduceEqDiff,Nat.reduceAdd]
   exact hQ _ g hq (G.Tk hh (by omega) (by omega)) (by omega) G1 k8 s9 TR s11 s12 xU Ac Z6
theorem G3 {X S S' R V q Q P w:Nat} (hs:S=q*V+S') (h:X+P*S+P*w*V*Q=R):X+P*S'+P*V*(q+w*Q)=R:=by
 subst hs
 grind
theorem WU {BN ws TQ vs:List Nat} {N m n v1 v0 A s:Nat} {ρ:cN} {Q:VQ} (hN:BN.length=N) (hm:m+(n+2)=N) (Aq:N≤70368744177664) (FP:∀d∈BN,d<4294967296) (Xn:ws.take (n+2)=vs) (Rt:ws.length=n+3) (D9:vs.length=n+2) (DP:∀d∈vs,d<4294967296) (f1:vs[n+1]? = some v1) (f0:vs[n]? = some v0) (fL:1≤v1)
  (hA:val 4294967296 BN=A) (zV:val 4294967296 (BN.drop m)<val 4294967296 vs) (kB:TQ.length=m) (oA:∀d∈TQ,d<4294967296)
  (g8:ρ 8=VI s) (g9:ρ 9 = .ref 0 0 0 N N) (g10:ρ 10 = .ref 1 0 0 (n+2) (n+3)) (g11:ρ 11=VK .u64 v1) (g12:ρ 12=VK .u64 v0) (g13:ρ 13 = .ref 2 0 0 m m) (g14:ρ 14=VI ((m:Int)-1))
  (hQ:∀(aP:cN) (us os:List Nat),aP 8=VI s→aP 9 = .ref 0 0 0 N N→aP 13 = .ref 2 0 0 m m→us.length=N→(∀d∈us,d<4294967296)→os.length=m→(∀d∈os,d<4294967296)→val 4294967296 us+val 4294967296 vs*val 4294967296 os=A→val 4294967296 us<val 4294967296 vs→Q (.exit 0) aP (H3 us ws os)) :
  VW ⟨true,false⟩ 0 (.loop kT) Q ρ (H3 BN ws TQ):=by
 have hVb:=nR DP
 rw[D9] at hVb
 refine bJ (fun(t:Nat×List Nat×List Nat) aP H=>t.1≤m∧H=H3 t.2.1 ws t.2.2∧t.2.1.length=N∧(∀d∈t.2.1,d<4294967296)∧t.2.2.length=m∧(∀d∈t.2.2,d<4294967296)∧val 4294967296 (t.2.1.drop t.1)<val 4294967296 vs∧val 4294967296 t.2.1+4294967296^t.1*val 4294967296 vs*val 4294967296 (t.2.2.drop t.1)=A ∧
  aP 8=VI s∧aP 9 = .ref 0 0 0 N N∧aP 10 = .ref 1 0 0 (n+2) (n+3)∧aP 11=VK .u64 v1∧aP 12=VK .u64 v0∧aP 13 = .ref 2 0 0 m m∧aP 14=VI ((t.1:Int)-1)) (fun t=>t.1) (m,BN,TQ) ⟨Nat.le_refl _,rfl,hN,FP,kB,oA,zV,by rw[List.drop_of_length_le (by simp only;omega)];simpa[val] using hA,g8,g9,g10,g11,g12,g13,g14⟩ ?_
 rintro⟨j,us,os⟩ Km H ⟨hj,rfl,Kp,FP,kB,oA,aR,hv,k8,k9,TR,RX,FL,xU,Ac⟩
 simp only at hj Kp FP kB oA aR hv Ac
 by_cases hz:(0:Int)≤(j:Int)-1
 ·obtain⟨i,rfl⟩:∃i,j=i+1:=⟨j-1,by omega⟩
  have GH:((i+1:Nat):Int)-1=(i:Int):=by omega
  rw[GH] at Ac hz
  obtain⟨PY,Al,I0,hsW,Wj,Vu,uB⟩:=R6 (n:=n+2) Kp (by omega) FP hVb aR
  generalize S6:(us.drop i).take (n+2+1)=fV at *
  have OJ:∀d∈fV,d<4294967296:=fun d hd=>by rw[←S6] at hd;exact FP d (List.mem_of_mem_drop (List.mem_of_mem_take hd))
  obtain⟨u2,ZL⟩:∃u2,us[i+(n+2)]? = some u2:=⟨_,List.getElem?_eq_getElem (by omega)⟩
  obtain⟨u1,Xv⟩:∃u1,us[i+(n+1)]? = some u1:=⟨_,List.getElem?_eq_getElem (by omega)⟩
  obtain⟨u0,Yk⟩:∃u0,us[i+n]? = some u0:=⟨_,List.getElem?_eq_getElem (by omega)⟩
  have G:rS 4294967296 fV vs n u2 u1 u0 v1 v0:=⟨by decide,OJ,DP,I0,D9,by rw[uB _ (by omega)];exact ZL,by rw[uB _ (by omega)];exact Xv,by rw[uB _ (by omega)];exact Yk,f1,f0,fL,hsW⟩
  have lu2:=G.Zg
  have lu1:=G.U4
  have lv1:=G.Qz
  have qlt:=G.Yg
  have EG:=G.EG
  have Z5:lY (.ref 1 0 0 (n+2) (n+3)) (H3 us ws os)=some (VI ((n+2:Nat):Int)):=dI agR
  have w1:IntKind.i64.wrap ((i:Int)+((n+2:Nat):Int))=((i+(n+2):Nat):Int):=by rw[←Int.natCast_add];exact wrapN _ rfl (by omega)
  have w2:IntKind.i64.wrap (((i+(n+2):Nat):Int)-1)=((i+(n+1):Nat):Int):=wrapN _ (by omega) (by omega)
  have e2:aZ 1 (.ref 0 0 0 N N) (VI ((i+(n+2):Nat):Int)) (H3 us ws os)=some (.ptr 0 0 (i+(n+2)) 0):=by rw[bD Ag (by omega),Nat.zero_add]
  have e1:aZ 1 (.ref 0 0 0 N N) (VI ((i+(n+1):Nat):Int)) (H3 us ws os)=some (.ptr 0 0 (i+(n+1)) 0):=by rw[bD Ag (by omega),Nat.zero_add]
  have l2:eZ false 1 (.ptr 0 0 (i+(n+2)) 0) (H3 us ws os)=some (uV u2):=iA Ag ZL
  have l1:eZ false 1 (.ptr 0 0 (i+(n+1)) 0) (H3 us ws os)=some (uV u1):=iA Ag Xv
  have wu2:IntKind.u64.wrap (u2:Int)=(u2:Int):=fF _ (by omega)
  have wu1:IntKind.u64.wrap (u1:Int)=(u1:Int):=fF _ (by omega)
  have ws2:=BA u2 .u64 lu2
  have wa:IntKind.u64.wrap (((u2*4294967296:Nat):Int)+(u1:Int))=((u2*4294967296+u1:Nat):Int):=by rw[←Int.natCast_add];exact fF _ (by omega)
  have q1:=Rc (u2*4294967296+u1) v1 (by omega) fL
  have q2:=K0 (u2*4294967296+u1) v1 fL
  simp only[kT,k8,k9,TR,RX,FL,xU,Ac,hz,Z5,w1,w2,e1,e2,l1,l2,wu1,wu2,ws2,wa,q1,q2,VX,Nat.reduceEqDiff,Nat.reduceAdd]
  have hh:=Nat.mod_add_div (u2*4294967296+u1) v1
  have TO:=Nat.mod_lt (u2*4294967296+u1) fL
  have hdl:(u2*4294967296+u1) / v1≤u2*4294967296+u1:=Nat.div_le_self _ _
  have Na:val 4294967296 fV / val 4294967296 vs≤(u2*4294967296+u1) / v1:=by
   have t1:=(A3 (n:=n+1) (xs:=fV) OJ (by omega) (by rw[uB _ (by omega)];exact ZL) (by rw[uB _ (by omega)];exact Xv)).2
   have t2:=(uQ (n:=n+1) DP D9 f1).1
   rw[Nat.le_div_iff_mul_le fL]
   have t3:val 4294967296 fV / val 4294967296 vs*(v1*4294967296^(n+1))≤val 4294967296 fV / val 4294967296 vs*val 4294967296 vs:=Nat.mul_le_mul_left _ t2
   have t4:=Nat.div_mul_le_self (val 4294967296 fV) (val 4294967296 vs)
   have t5:val 4294967296 fV / val 4294967296 vs*v1*4294967296^(n+1)<(u2*4294967296+u1+1)*4294967296^(n+1):=by rw[Nat.mul_assoc];omega
   have:=Nat.lt_of_mul_lt_mul_right t5
   omega
  refine PF (k:=i+(n+2)) G Kp (by omega) (by omega) Aq (by rw[show i+(n+2)-2=i+n by omega];exact Yk) k9 RX FL (by rfl) (by rfl) (by rfl) (by rw[Nat.mul_comm ((u2*4294967296+u1) / v1)];omega) Na (by omega) (by omega) ?_
  intro OI g' hq I9 hgW r17 r8 r9 r10 r11 ZI XM r14 r15
  have Mj:OI 15=VI ((i+(n+2):Nat):Int):=r15
  have r8':OI 8=VI s:=r8.trans k8
  have r9':OI 9 = .ref 0 0 0 N N:=r9.trans k9
  have Z7:OI 10 = .ref 1 0 0 (n+2) (n+3):=r10.trans TR
  have ZS:OI 11=VK .u64 v1:=r11.trans RX
  have MD:OI 12=VK .u64 v0:=ZI.trans FL
  have Mk:OI 13 = .ref 2 0 0 m m:=XM.trans xU
  have M6:OI 14=VI i:=r14.trans Ac
  have w3:IntKind.i64.wrap (((i+(n+2):Nat):Int)+1)=((i+(n+3):Nat):Int):=wrapN _ (by omega) (by omega)
  have V9:AA 1 (.ref 0 0 0 N N) (some (VI i)) (some (VI ((i+(n+3):Nat):Int))) none (H3 us ws os)=some (.ref 0 0 i (n+3) (N-i)):=by
   rw[M7 Ag (by omega) (by omega),Nat.zero_add,Nat.add_sub_cancel_left]
  simp only[r8',r9',Z7,ZS,MD,Mk,M6,Mj,r17,w3,V9,VX,Nat.reduceEqDiff,Nat.reduceAdd]
  have sE:g'*val 4294967296 vs≤val 4294967296 fV+val 4294967296 vs:=by
   have:=Nat.mul_le_mul_right (val 4294967296 vs) I9
   rw[Nat.add_mul,Nat.one_mul] at this
   have:=Nat.div_mul_le_self (val 4294967296 fV) (val 4294967296 vs)
   omega
  refine cW rfl ((PA (pre:=us.take i) (fV:=fV) (post:=us.drop (i+(n+2+1))) (L:=n+3) (o:=i) (by rw[←PY];exact Ag) (agR (us:=us) (ws:=ws) (os:=os)) (by decide) (Nat.zero_le _) Al I0 (by omega) Xn (by omega) (by omega) OJ DP hgW sE).mono ?_)
  rintro r H' ⟨nQ,rfl,AR,YK,hr⟩
  generalize XY:us.take i++nQ++us.drop (i+(n+2+1))=Eo at *
  have Iz:(H3 us ws os).set 0 (.row 0 (Eo.map uV) 1 true)=H3 Eo ws os:=rfl
  rw[Iz]
  have abJ:Eo.length=N:=by rw[←XY,List.length_append,List.length_append,Al,AR,List.length_drop];omega
  have XU:∀d∈Eo,d<4294967296:=fun d hd=>by
   rw[←XY,List.mem_append,List.mem_append] at hd
   rcases hd with(hd | hd) | hd
   ·exact FP d (List.mem_of_mem_take hd)
   ·exact YK d hd
   ·exact FP d (List.mem_of_mem_drop hd)
  have PB:Eo.drop i=nQ++us.drop (i+(n+2+1)):=by rw[←XY,List.append_assoc,List.drop_append,List.drop_of_length_le (by omega),Al];simp
  have P8:Eo.take i=us.take i:=by rw[←XY,List.append_assoc,List.take_append_of_le_length (by omega),List.take_of_length_le (by omega)]
  have NF:val 4294967296 (Eo.drop i)=val 4294967296 nQ:=by rw[PB,tJ,Vu,Nat.mul_zero,Nat.add_zero]
  have digit:∀q:Nat,q=val 4294967296 fV / val 4294967296 vs→val 4294967296 nQ=val 4294967296 fV % val 4294967296 vs →
    val 4294967296 (Eo.drop i)<val 4294967296 vs∧val 4294967296 Eo+4294967296^i*val 4294967296 vs*val 4294967296 ((os.set i q).drop i)=A:=by
   rintro q OH Xr
   have XZ:=Nat.mod_lt (val 4294967296 fV) EG
   refine⟨by rw[NF,Xr];exact XZ,?_⟩
   have h1:=Nat.div_add_mod (val 4294967296 fV) (val 4294967296 vs)
   rw[←OH,←Xr,Nat.mul_comm] at h1
   have h2:=mA (b:=4294967296) us i
   have h3:=mA (b:=4294967296) Eo i
   rw[P8,Al,NF] at h3
   rw[Al,Wj] at h2
   rw[set_drop (by omega),oZ,h3]
   rw[h2,Nat.pow_succ] at hv
   exact G3 h1.symm hv
  have e3:∀d:Nat,aZ 1 (.ref 2 0 0 m m) (VI i) (H3 Eo ws os)=some (.ptr 2 0 i 0)∧dE 0 1 (.ptr 2 0 i 0) (uV d) (H3 Eo ws os)=some (H3 Eo ws (os.set i d)):=fun d=>by
   refine⟨by rw[bD YX (by omega),Nat.zero_add],?_⟩
   rw[iE (f:=uV) (e:=1) YX (by omega) (Nat.zero_le _) rfl rfl]
   rfl
  have wi:IntKind.i64.wrap ((i:Int)-1)=(i:Int)-1:=wrap64 (by omega) (by omega)
  rcases hr with⟨rfl,hr⟩ | ⟨rfl,hr1,Yq⟩
  ·have vZ:g'*val 4294967296 vs≤val 4294967296 fV:=by omega
   have OH:g'=val 4294967296 fV / val 4294967296 vs:=by
    have:=(Nat.le_div_iff_mul_le EG).2 vZ
    omega
   have Xr:val 4294967296 nQ=val 4294967296 fV % val 4294967296 vs:=by
    have h1:=Nat.div_add_mod (val 4294967296 fV) (val 4294967296 vs)
    rw[←OH,Nat.mul_comm] at h1
    omega
   obtain⟨d1,d2⟩:=digit g' OH Xr
   simp only[r8',r9',Z7,ZS,MD,Mk,M6,Mj,r17,(e3 g').1,(e3 g').2,wi,wrap32,Nat.mod_eq_of_lt hgW,VX,Nat.reduceEqDiff,Nat.reduceAdd]
   exact⟨(i,Eo,os.set i g'),by simp only;omega,by omega,rfl,abJ,XU,by rw[List.length_set];exact kB,nS oA hgW,d1,d2,by (repeat' apply And.intro)<;>first | rfl | trivial⟩
  ·have Wm:val 4294967296 fV / val 4294967296 vs<g':=(Nat.div_lt_iff_lt_mul EG).2 hr1
   have Z2:1≤g':=Nat.lt_of_le_of_lt (Nat.zero_le _) Wm
   obtain⟨q,rfl⟩:∃q,g'=q+1:=⟨g'-1,by omega⟩
   have OH:q=val 4294967296 fV / val 4294967296 vs:=by omega
   have Xr:val 4294967296 nQ=val 4294967296 fV % val 4294967296 vs:=by
    have h1:=Nat.div_add_mod (val 4294967296 fV) (val 4294967296 vs)
    rw[←OH,Nat.mul_comm] at h1
    rw[Nat.add_mul,Nat.one_mul] at Yq
    omega
   have wq:IntKind.u64.wrap (((q+1:Nat):Int)-1)=(q:Int):=by rw[show ((q+1:Nat):Int)-1=(q:Int) by omega];exact fF _ (by omega)
   obtain⟨d1,d2⟩:=digit q OH Xr
   simp only[r8',r9',Z7,ZS,MD,Mk,M6,Mj,r17,wq,(e3 q).1,(e3 q).2,wi,wrap32,Nat.mod_eq_of_lt (show q<4294967296 by omega),VX,Nat.reduceEqDiff,Nat.reduceAdd]
   exact⟨(i,Eo,os.set i q),by simp only;omega,by omega,rfl,abJ,XU,by rw[List.length_set];exact kB,nS oA (by omega),d1,d2,by (repeat' apply And.intro)<;>first | rfl | trivial⟩
 ·have Qh:j=0:=by omega
  subst Qh
  rw[List.drop_zero] at aR
  rw[Nat.pow_zero,Nat.one_mul,List.drop_zero] at hv
  simp only[kT,k8,k9,TR,RX,FL,xU,Ac,hz,VX,Nat.reduceEqDiff,Nat.reduceAdd]
  exact hQ _ us os k8 k9 xU Kp FP kB oA hv aR
end Go.PM