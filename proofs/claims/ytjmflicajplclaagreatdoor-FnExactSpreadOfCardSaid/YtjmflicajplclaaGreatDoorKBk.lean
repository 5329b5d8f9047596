/- Texts of a claim, in one: part 11. -/
import Derived.Lib.Bytealg
import Derived.Lib.ParseIntB
import Derived.KernelRfl
import Derived.Test.YtjmflicajplclaaGreatDoorKBj
open And renaming intro → aMh
open Bool renaming and_eq_true → aK9,and_self → aLZ,false_eq_true → aLd
open Int renaming tmod_eq_emod_of_nonneg → aMD,toNat_natCast → aLX
open List renaming all_append → aNN,all_eq_true → aKP,append_assoc → aMn,append_nil → aLJ,countP_singleton → aNX,drop_succ_cons → aMm,drop_zero → aLN,findIdx?_eq_none_iff → aNU,findIdx?_eq_some_iff_getElem → aNV,foldl_append → aNM,foldl_cons → aNS,foldl_nil → aNY,getD_eq_getElem?_getD → aKy,getElem?_eq_getElem → aKI,getElem?_eq_some_iff → aKA,getElem?_of_mem → aMw,getElem?_set → aNR,getElem_mem → aKO,length_append → aKM,length_cons → aKL,length_eq_zero_iff → aMJ,length_map → aMi,length_nil → aMe,length_pos_iff → aNz,length_take → aMa,mapM_cons → aLY,mem_cons → aLP,mem_cons_of_mem → aLa,mem_cons_self → aLb,mem_of_getElem? → aLv,mem_of_mem_take → aLy,nil_append → aLT,prefix_append → aMv,range → aKx,range_succ → aNW,set_cons_zero → aMf,take_add_one → aMr,take_append_drop → aLK,take_length → aLO,take_of_length_le → aLu,take_succ_cons → aLo,take_zero → aNQ
open Nat renaming gcd → aNj,le_of_ble_eq_true → aMp,le_refl → aKB,le_trans → aKC,lt_of_lt_of_le → aKD,mul_le_mul_right → aK2,pow_le_pow_right → aME,pow_succ → aL2,zero_add → aL9,zero_le → aK5,zero_lt_one → aNT
open Option renaming getD_some → aNP,isSome_none → aLg,isSome_some → aNO,map_some → aLW
set_option linter.unusedSimpArgs false
set_option linter.unusedVariables false
namespace Go.PM
open Go.Lib
abbrev bV (b:UInt8):VV := .sc (.int .u8 (b.toNat:Int))
theorem Ok:∀bs:List UInt8,KD (bs.map bV)=some bs
 | []=>rfl
 |
  b::bs=>by
  rw[List.map_cons]
  show (KD (bs.map bV)).map (UInt8.ofNat ((b.toNat:Int)).toNat :: ·)=_
  rw[Ok bs]
  simp
structure Jx (v:VV) (H:aA) (bs:List UInt8):Prop where
 len:rL v H=some (VI bs.length)
 src:cZ 1 v H=some (bs.map bV)
 nsc:∀x,v ≠ .sc x
theorem Jx.str {v:VV} {H:aA} {bs:List UInt8} (h:Jx v H bs) {fl:Fl} {lo:Nat} {x:Operand} {ρ:cW} (hx:fN ρ x=v):vop fl lo (.b2s x) ρ H=some (bD bs,H):=by
 have h1:=h.nsc
 have h2:=h.src
 unfold vop
 dsimp only
 rw[hx]
 cases v with
 | sc x=>exact absurd rfl (h1 x)
 | _=>simp only[h2,Ok,aLW]
theorem adZ {bs:List UInt8} {k:TK} {H:aA}:cZ 1 (.tree (bs.map bV) k) H=some (bs.map bV):=by
 have:((bs.map bV).all fun x=>(aB x).length == 1&&(aB x).all bN)=true:=by
  rw[aKP]
  intro x hx
  obtain⟨d,_,rfl⟩:=List.mem_map.1 hx
  rfl
 simp only[cZ,this,if_true]
theorem Jx.tree {bs:List UInt8} {k:TK} {H:aA}:Jx (.tree (bs.map bV) k) H bs:=⟨eW,adZ,fun x=>by simp⟩
theorem Jx.row {bs:List UInt8} {H:aA} {b g:Nat} {w:Bool} (h:aG H b g=some (bs.map bV,1,w)):Jx (.ref b g 0 bs.length bs.length) H bs:=by
 refine⟨eK h,?_,fun x=>by simp⟩
 have jP:(((bs.map bV).drop 0).take bs.length).all (fun x=>(aB x).all bN)=true:=by
  rw[aKP]
  intro x hx
  obtain⟨d,_,rfl⟩:=List.mem_map.1 (List.mem_of_mem_drop (aLy hx))
  rfl
 simp only[cZ,h]
 rw[if_pos ⟨trivial,by simp,jP⟩,aLN,aLu (by simp)]
theorem Jx.cons {v:VV} {H:aA} {bs:List UInt8} (h:Jx v H bs) (x:UInt8) (hl:bs.length≤1000000) (lo:Nat):∃v' H',dR lo 1 1 (.tree [bV x] (.cl 1)) (bs.map bV) H=some (v',H')∧Jx v' H' (x::bs):=by
 by_cases hb:bs=[]
 ·subst hb
  exact⟨_,_,rfl,Jx.tree (bs:=[x])⟩
 ·have fW:bs.length≠0:=fun h=>hb (aMJ.1 h)
  refine⟨.ref H.length 0 0 (x::bs).length (x::bs).length,H++[.row 0 ((x::bs).map bV) 1 true],?_,Jx.row (Vo rfl)⟩
  simp only[dR,aMi]
  rw[if_pos ⟨by decide,by decide⟩,if_pos trivial,if_neg fW,if_pos (by simp;omega)]
  simp[Nat.add_comm]
theorem ZG (r:Int):dK .rem (.int .i64 r) (.int .i64 10)=some (.int .i64 (r.tmod 10)):=rfl
theorem aCs (r:Int) (h0 : -9223372036854775808≤r) (h1:r≤9223372036854775807):dK .quo (.int .i64 r) (.int .i64 10)=some (.int .i64 (r.tdiv 10)):=by
 show some (Value.int .i64 (IntKind.i64.wrap (r.tdiv 10)))=_
 have h2:(r.tdiv 10).natAbs=r.natAbs / 10:=by rw[Int.natAbs_tdiv];rfl
 rw[wrap64 (by omega) (by omega)]
theorem aeP {d:Nat} (h:d<10):(d10 d).toNat=48+d:=by
 unfold d10
 simp
 omega
theorem Rp {n r:Nat} {bs:List UInt8} (h:decDigits n=decDigits r++bs):decDigits n=uZ (r / 10)++d10 (r % 10)::bs:=by
 rw[h]
 by_cases hr:r<10
 ·rw[kD hr,uZ,if_pos (by omega),Nat.mod_eq_of_lt hr];rfl
 ·rw[B9 hr,uZ,if_neg (by omega),aMn];rfl
theorem QE (n:Int) (h0 : -9223372036854775808≤n) (h1:n≤9223372036854775807):TC 219 [VI n] (bD ((if n<0 then [45] else [])++decDigits n.natAbs)):=by
 refine TC.walk ⟨true,false⟩ Qu rfl (aMp rfl) rfl rfl ?_
 have e0:∀lr,mW lr [.int .u8 0] 0 [] []=some (.ref 0 0 0 0 0,[.row 0 (([]:List UInt8).map bV) 1 true]):=fun lr=>mX (H:=[]) rfl
 have e1:∀(x:UInt8) (H:aA),mW false [.int .u8 0] 1 [(0,bV x)] H=some (.tree [bV x] (.cl 1),H):=fun x H=>iY rfl rfl rfl
 have hdl:=Ev n.natAbs 19 (by omega)
 simp only[MT,Hx,e0,VX,Nat.reduceEqDiff,Nat.reduceAdd]
 refine aP (fun(s:Int×List UInt8) ρ H => -9223372036854775808≤s.1∧s.1≤9223372036854775807∧(s.2=[]→s.1=n)∧(s.2≠[]→decDigits n.natAbs=uZ s.1.natAbs++s.2)∧Jx (ρ 3) H s.2∧ρ 0=VI n∧ρ 4=VI s.1) (fun s=>s.1.natAbs+(if s.2=[] then 1 else 0)) (n,[]) ⟨h0,h1,fun _=>rfl,fun h=>absurd rfl h,by simp only[VX,Nat.reduceEqDiff,Nat.reduceAdd];exact Jx.row (bs:=[]) aT,rfl,rfl⟩ ?_
 rintro⟨r,bs⟩ ρ H ⟨Kp,T4,hn,hd,ho,g0,g4⟩
 simp only at Kp T4 hn hd ho g4
 generalize hv3:ρ 3=v3 at ho
 have hlen:=ho.len
 have DF:=ho.src
 by_cases Oq:bs≠[]∧r=0
 ·obtain⟨hb,hr⟩:=Oq
  subst hr
  have hl:¬(bs.length:Int)=0:=by have:=aNz.2 hb;omega
  have hdd:=hd hb
  simp only[uZ,Int.natAbs_zero,if_true,aLT] at hdd
  by_cases mI:n<0
  ·obtain⟨v',H',ap,ho'⟩:=ho.cons 45 (by rw[←hdd];omega) 0
   have Sm:mW false [.int .u8 0] 1 [(0,.sc (.int .u8 45))] H=some (.tree [bV 45] (.cl 1),H):=e1 45 H
   have bs2:=fun aQ (h:fN aQ (.tmp 34)=v')=>ho'.str (fl:=⟨true,false⟩) (lo:=0) h
   simp only[lP,g0,g4,hv3,hlen,hl,VX,Nat.reduceEqDiff,Nat.reduceAdd]
   simp only[g0,mI,hv3,Sm,DF,ap,ZS,VX,Nat.reduceEqDiff,Nat.reduceAdd]
   rw[bs2 _ (by rfl)]
   simp only[VX,Nat.reduceEqDiff,Nat.reduceAdd]
   rw[hdd]
   exact aL rfl
  ·have bs2:=fun aQ (h:fN aQ (.tmp 34)=v3)=>ho.str (fl:=⟨true,false⟩) (lo:=0) h
   simp only[lP,g0,g4,hv3,hlen,hl,VX,Nat.reduceEqDiff,Nat.reduceAdd]
   simp only[g0,mI,hv3,ZS,VX,Nat.reduceEqDiff,Nat.reduceAdd]
   rw[bs2 _ (by simp only[VX,Nat.reduceEqDiff,Nat.reduceAdd];try exact hv3)]
   simp only[VX,Nat.reduceEqDiff,Nat.reduceAdd]
   rw[hdd]
   exact aL rfl
 ·have hm:r.tmod 10=if r<0 then -((r.natAbs % 10:Nat):Int) else ((r.natAbs % 10:Nat):Int):=by
   have:=aMD (a:=r) (b:=10)
   by_cases h:r<0
   ·rw[if_pos h]
    have h2:=Int.neg_tmod (-r) 10
    rw[Int.neg_neg] at h2
    rw[h2,aMD (by omega)]
    omega
   ·rw[if_neg h,this (by omega)]
    omega
  have hq:(r.tdiv 10).natAbs=r.natAbs / 10:=by rw[Int.natAbs_tdiv];rfl
  have hmd:=Nat.mod_lt r.natAbs (show 0<10 by decide)
  have q1:=aCs r Kp T4
  have zE:bs.length≤19:=by
   by_cases hb:bs=[]
   ·subst hb;simp
   ·have h2:=hd hb
    have h3:=congrArg List.length h2
    rw[aKM] at h3
    have h4:r≠0:=fun h=>Oq ⟨hb,h⟩
    have h5:=aNz.2 (SX r.natAbs)
    rw[uZ,if_neg (by omega)] at h3
    omega
  obtain⟨v',H',ap,ho'⟩:=ho.cons (d10 (r.natAbs % 10)) (by omega) 0
  have w2:IntKind.i64.wrap (48+((r.natAbs % 10:Nat):Int))=((48+r.natAbs % 10:Nat):Int):=wrapN _ (by omega) (by omega)
  have w3:IntKind.u8.wrap ((48+r.natAbs % 10:Nat):Int)=((48+r.natAbs % 10:Nat):Int):=by
   simp[IntKind.wrap,IntKind.bits,IntKind.signed]
   omega
  have hx:VV.sc (.int .u8 ((48+r.natAbs % 10:Nat):Int))=bV (d10 (r.natAbs % 10)):=by rw[bV,aeP hmd]
  have Sm:=e1 (d10 (r.natAbs % 10)) H
  rw[←hx] at Sm ap
  have next:∃s':Int×List UInt8,s'.1.natAbs+(if s'.2=[] then 1 else 0)<r.natAbs+(if bs=[] then 1 else 0) ∧ -9223372036854775808≤s'.1∧s'.1≤9223372036854775807∧(s'.2=[]→s'.1=n)∧(s'.2≠[]→decDigits n.natAbs=uZ s'.1.natAbs++s'.2)∧Jx v' H' s'.2∧r.tdiv 10=s'.1:=by
   refine⟨(r.tdiv 10,d10 (r.natAbs % 10)::bs),?_,by simp only;omega,by simp only;omega,fun h=>(by simp at h),fun _ => ?_,ho',rfl⟩
   ·simp only[hq,List.cons_ne_nil,if_false]
    by_cases hb:bs=[]
    ·rw[if_pos hb];omega
    ·have h4:r≠0:=fun h=>Oq ⟨hb,h⟩
     rw[if_neg hb];omega
   ·simp only[hq]
    by_cases hb:bs=[]
    ·subst hb
     refine Rp ?_
     rw[hn rfl,aLJ]
    ·have h4:r≠0:=fun h=>Oq ⟨hb,h⟩
     have h2:=hd hb
     rw[uZ,if_neg (by omega)] at h2
     exact Rp h2
  by_cases hrn:r.tmod 10<0
  ·have w1:IntKind.i64.wrap (0-r.tmod 10)=((r.natAbs % 10:Nat):Int):=by
    have:r.tmod 10 = -((r.natAbs % 10:Nat):Int):=by
     by_cases h:r<0
     ·rw[if_pos h] at hm;exact hm
     ·rw[if_neg h] at hm;omega
    rw[this]
    exact wrapN _ (by omega) (by omega)
   by_cases hb:bs=[]
   ·have hl:(bs.length:Int)=0:=by rw[hb];rfl
    simp only[lP,g0,g4,hv3,hlen,hl,ZG,q1,hrn,w1,w2,w3,Sm,DF,ap,VX,Nat.reduceEqDiff,Nat.reduceAdd]
    obtain⟨s',n1,n2,n3,n4,n5,n6,n7⟩:=next
    exact⟨s',n1,n2,n3,n4,n5,n6,by rw[n7]⟩
   ·have hl:¬(bs.length:Int)=0:=by have:=aNz.2 hb;omega
    have hr:¬r=0:=fun h=>Oq ⟨hb,h⟩
    simp only[lP,g0,g4,hv3,hlen,hl,hr,ZG,q1,hrn,w1,w2,w3,Sm,DF,ap,VX,Nat.reduceEqDiff,Nat.reduceAdd]
    obtain⟨s',n1,n2,n3,n4,n5,n6,n7⟩:=next
    exact⟨s',n1,n2,n3,n4,n5,n6,by rw[n7]⟩
  ·have hmm:r.tmod 10=((r.natAbs % 10:Nat):Int):=by
    rw[hm] at hrn ⊢
    split
    ·rename_i h;rw[if_pos h] at hrn;omega
    ·rfl
   have aBO:¬((r.natAbs % 10:Nat):Int)<0:=by omega
   by_cases hb:bs=[]
   ·have hl:(bs.length:Int)=0:=by rw[hb];rfl
    simp only[lP,g0,g4,hv3,hlen,hl,ZG,hmm,q1,aBO,w2,w3,Sm,DF,ap,VX,Nat.reduceEqDiff,Nat.reduceAdd]
    obtain⟨s',n1,n2,n3,n4,n5,n6,n7⟩:=next
    exact⟨s',n1,n2,n3,n4,n5,n6,by rw[n7]⟩
   ·have hl:¬(bs.length:Int)=0:=by have:=aNz.2 hb;omega
    have hr:¬r=0:=fun h=>Oq ⟨hb,h⟩
    simp only[lP,g0,g4,hv3,hlen,hl,hr,ZG,hmm,q1,aBO,w2,w3,Sm,DF,ap,VX,Nat.reduceEqDiff,Nat.reduceAdd]
    obtain⟨s',n1,n2,n3,n4,n5,n6,n7⟩:=next
    exact⟨s',n1,n2,n3,n4,n5,n6,by rw[n7]⟩
end Go.PM
namespace Go.PM
abbrev chV (c:List (List ByteArray)):VV := .agg [lQ c]
def Eu (n:Nat) (H:aA) (bare:Bool) (c:List (List ByteArray)) (r:VV):Prop:=∃c0,r = .agg [c0]∧vS n H bare c c0
theorem Eu.dB {n:Nat} {H H':aA} {bare:Bool} {s:List (List ByteArray)} {c:VV} (h:Eu n H bare s c) (hk:∀b g x,n<b→aG H b g=some x→aG H' b g=some x):Eu n H' bare s c:=by
 obtain⟨c0,rfl,h0⟩:=h
 exact⟨c0,rfl,h0.dB hk⟩
theorem Eu.pre {n:Nat} {H H':aA} {bare:Bool} {s:List (List ByteArray)} {c:VV} (h:Eu n H bare s c) (hh:H <+: H'):Eu n H' bare s c:=h.dB fun _ _ _ _=>cL hh
theorem Eu.fz {n:Nat} {H:aA} {bare:Bool} {s:List (List ByteArray)} {c:VV} (h:Eu n H bare s c):PM.fz depth H c=some (chV s):=by
 obtain⟨c0,rfl,h0⟩:=h
 have f0:=h0.fz (d:=4)
 have e:PM.fz (7+1) H (.agg [c0])=if bA (.agg [c0])=true then some (.agg [c0]) else ([c0].mapM (PM.fz 7 H)).map .agg:=rfl
 show PM.fz (7+1) H (.agg [c0])=_
 rw[e]
 by_cases hp:bA (.agg [c0])=true
 ·rw[if_pos hp]
  have hu:bA c0=true:=by simpa[bA,aO] using hp
  rw[aN hu] at f0
  cases f0
  rfl
 ·rw[if_neg hp,aLY,f0]
  rfl
theorem ld1 {n b:Nat} {s:List (List ByteArray)} {bare:Bool} {H H':aA} {c:VV} (hc:Eu n H bare s c) (h:aG H' b 0=some ([c],1,true)):bH true 1 (.ptr b 0 0 0) H'=some c:=by
 obtain⟨c0,rfl,_⟩:=hc
 rw[bJ,h]
 rfl
end Go.PM
namespace Go.PM
open Go.Lib
def jQ (c:UInt8):Bool:=decide (48≤c.toNat)&&decide (c.toNat≤57)
def dv (c:UInt8):Nat:=c.toNat-48
def PD (a:Nat) (l:List UInt8):Nat:=l.foldl (fun a c=>a*10+dv c) a
def cA (l:List UInt8):Nat:=PD 0 l
theorem Zw (l:List UInt8):∀a,PD a l=a*10^l.length+cA l:=by
 induction l with
 | nil=>intro a;simp[PD,cA]
 |
  cons c l ih =>
  intro a
  have h1:PD a (c::l)=PD (a*10+dv c) l:=rfl
  have h2:cA (c::l)=PD (0*10+dv c) l:=rfl
  rw[h1,h2,ih,ih (0*10+dv c),aKL,aL2]
  grind
theorem PE (a b:List UInt8):cA (a++b)=cA a*10^b.length+cA b:=by
 have:cA (a++b)=PD (cA a) b:=by unfold cA PD;rw[aNM]
 rw[this,Zw]
theorem PF:cA []=0:=rfl
theorem acH (a:List UInt8) (c:UInt8):cA (a++[c])=cA a*10+dv c:=by
 rw[PE]
 simp[cA,PD]
theorem auL {c:UInt8} (h:jQ c=true):dv c<10:=by
 simp only[jQ,aK9,decide_eq_true_eq] at h
 unfold dv
 omega
theorem Ko:∀ {l:List UInt8},l.all jQ=true→cA l<10^l.length:=by
 intro l
 induction l with
 | nil=>intro _;decide
 |
  cons c l ih =>
  intro h
  rw[List.all_cons,aK9] at h
  have h1:=auL h.1
  have h2:=ih h.2
  have h3:cA (c::l)=PD (0*10+dv c) l:=rfl
  rw[h3,Zw,aKL,aL2]
  have h4:(0*10+dv c)*10^l.length≤9*10^l.length:=aK2 _ (by omega)
  omega
theorem axK {M:Nat} (hM:1000000000000000000≤M):∀(l:List UInt8) (k acc:Nat),l.all jQ=true→acc<10^k→k+l.length≤18→parseUintM M acc l = .ok (PD acc l):=by
 intro l
 induction l with
 | nil=>intro k acc _ _ _;rfl
 |
  cons c l ih =>
  intro k acc h hk hl
  rw[List.all_cons,aK9] at h
  have h1:=auL h.1
  have h0:=h.1
  simp only[jQ,aK9,decide_eq_true_eq] at h0
  rw[aKL] at hl
  have h18:acc<10^17:=aKD hk (aME (by decide) (by omega))
  have e17:(10:Nat)^17=100000000000000000:=by decide
  rw[e17] at h18
  have hd:c.toNat-48=dv c:=rfl
  rw[parseUintM,if_pos h0,if_neg (by omega),hd,if_neg (by omega),ih (k+1) _ h.2 (by rw[aL2];omega) (by omega)]
  rfl
theorem azD {l:List UInt8} (h:l.all jQ=true) (h0:l≠[]) (hl:l.length≤18):parseUintB 64 l = .ok (cA l):=by
 unfold parseUintB
 rw[if_neg h0]
 exact axK (by decide) l 0 0 h (by decide) (by omega)
def jK (l:List UInt8):Bool:=l.all jQ&&decide (1≤l.length)&&decide (l.length≤200)&&(decide (l.length=1) || !decide (l.getD 0 0=48))
theorem lI {l:List UInt8}:jK l=true↔l.all jQ=true∧1≤l.length∧l.length≤200∧(l.length=1∨l.getD 0 0≠48):=by
 unfold jK
 simp only[aK9,Bool.or_eq_true,Bool.not_eq_true',decide_eq_true_eq,decide_eq_false_iff_not,ne_eq,and_assoc]
theorem AZ {l:List UInt8} (h:jK l=true):bl (cA l)≤665:=by
 obtain⟨h1,h2,h3,_⟩:=lI.1 h
 refine zO (aKD (Ko h1) ?_)
 exact aKC (aME (by decide) h3) (by decide +kernel)
def oJ (c:UInt8):List UInt8→List UInt8×Option (List UInt8)
 | []=>([],none)
 | x::r=>if x=c then ([],some r) else (x::(oJ c r).1,(oJ c r).2)
theorem Ds {c:UInt8}:∀ {l:List UInt8},(oJ c l).2=none→indexByte l c = -1∧(oJ c l).1=l∧c∉l:=by
 intro l
 induction l with
 | nil=>intro _;exact⟨rfl,rfl,by simp⟩
 |
  cons x l ih =>
  intro h
  unfold oJ at h ⊢
  by_cases hx:x=c
  ·rw[if_pos hx] at h
   cases h
  ·rw[if_neg hx] at h ⊢
   obtain⟨h1,h2,h3⟩:=ih h
   refine⟨?_,by rw[h2],?_⟩
   ·rw[indexByte,if_neg (by simpa using hx),h1]
    rfl
   ·rw[aLP,not_or]
    exact⟨fun h=>hx h.symm,h3⟩
theorem Lg {c:UInt8}:∀ {l r:List UInt8},(oJ c l).2=some r→indexByte l c=((oJ c l).1.length:Int)∧l=(oJ c l).1++c::r∧c∉(oJ c l).1:=by
 intro l
 induction l with
 | nil=>intro r h;cases h
 |
  cons x l ih =>
  intro r h
  unfold oJ at h ⊢
  by_cases hx:x=c
  ·rw[if_pos hx] at h ⊢
   cases h
   subst hx
   refine⟨?_,rfl,by simp⟩
   rw[indexByte,if_pos (by simp)]
   rfl
  ·rw[if_neg hx] at h ⊢
   obtain⟨h1,h2,h3⟩:=ih h
   refine⟨?_,?_,?_⟩
   ·rw[indexByte,if_neg (by simpa using hx),h1,if_neg]
    ·simp
    ·simp
   ·conv=>lhs;rw[h2]
    rfl
   ·rw[aLP,not_or]
    exact⟨fun h=>hx h.symm,h3⟩
def sB (neg:Bool) (d:List UInt8) (s:Option (List UInt8)):Option Rat :=
 if jK d=false∨(neg=true∧cA d=0) then none else
 match s with
 | none=>some (mkRat (mH neg (cA d)) 1)
 | some t=>if jK t=true∧1<cA t∧aNj (cA d) (cA t)=1 then some (mkRat (mH neg (cA d)) (cA t)) else none
def isNeg (l:List UInt8):Bool:=decide (1≤l.length)&&decide (l.getD 0 0=45)
def Bu (l:List UInt8):Option Rat:=sB (isNeg l) ((oJ 47 (if isNeg l then l.drop 1 else l)).1) ((oJ 47 (if isNeg l then l.drop 1 else l)).2)
theorem Yn {neg:Bool} {d:List UInt8} {s:Option (List UInt8)} {q:Rat} (h:sB neg d s=some q):jK d=true∧¬(neg=true∧cA d=0)∧((s=none∧q=mkRat (mH neg (cA d)) 1)∨∃t,s=some t∧jK t=true∧1<cA t∧aNj (cA d) (cA t)=1∧q=mkRat (mH neg (cA d)) (cA t)):=by
 unfold sB at h
 split at h
 ·cases h
 ·rename_i hc
  rw[not_or] at hc
  refine⟨by simpa using hc.1,hc.2,?_⟩
  split at h
  ·exact .inl ⟨rfl,(Option.some.inj h).symm⟩
  ·rename_i t
   split at h
   ·rename_i ht
    exact .inr ⟨t,rfl,ht.1,ht.2.1,ht.2.2,(Option.some.inj h).symm⟩
   ·cases h
theorem US {neg:Bool} {d:List UInt8} {s:Option (List UInt8)} {q:Rat} (h:sB neg d s=some q):aK q≤665:=by
 obtain⟨h1,_,h3⟩:=Yn h
 have hb:=AZ h1
 rcases h3 with⟨_,rfl⟩ | ⟨t,_,h4,h5,_,rfl⟩
 ·exact DD (by rw[qK];exact hb) (zO (by decide +kernel)) (by decide)
 ·exact DD (by rw[qK];exact hb) (AZ h4) (by omega)
theorem Xm {l:List UInt8} {q:Rat} (h:Bu l=some q):aK q≤665:=US h
theorem MR {neg:Bool} {t b:Nat} (hb:b≠0) (hg:aNj t b=1):(mkRat (mH neg t) b).num=mH neg t∧(mkRat (mH neg t) b).den=b:=by
 rw[Ik hb,TJ hb,hg,Nat.div_one,Nat.div_one]
 exact⟨rfl,rfl⟩
theorem IP {c:UInt8} {l:List UInt8}:isNeg (c::l)=decide (c=45):=by simp[isNeg]
theorem anL {l:List UInt8} (h:l.all jQ=true):(47:UInt8)∉l:=by
 intro hm
 have:=aKP.1 h _ hm
 exact absurd this (by decide)
end Go.PM
namespace Go.PM
open Go.Lib
theorem Ga (l:List UInt8) {i:Nat} (h:i<l.length):Kf (.string ⟨l.toArray⟩) (.int .i64 (i:Int))=some (.int .u8 ((l.getD i 0).toNat:Int)):=by
 have hs:(⟨l.toArray⟩:ByteArray).size=l.length:=by simp[ByteArray.size]
 have e1:(0:Int)≤i∧(i:Int)<(l.length:Int):=by omega
 simp only[Kf,hs,e1,and_self,if_true,aLX]
theorem KW (l:List UInt8) (h:0<l.length):Kf (.string ⟨l.toArray⟩) (.int .i64 0)=some (.int .u8 ((l.getD 0 0).toNat:Int)):=Ga l h
theorem Kn (l:List UInt8) (a b:Nat):(⟨l.toArray⟩:ByteArray).extract a b=⟨((l.drop a).take (b-a)).toArray⟩:=by
 rw[ByteArray.ext_iff,ByteArray.data_extract]
 simp[List.extract_toArray,List.extract_eq_take_drop]
theorem Io (l:List UInt8) {a:Nat} (h:a≤l.length):zU (bD l) (some (VI (a:Int))) none=some (bD (l.drop a)):=by
 have hs:(⟨l.toArray⟩:ByteArray).size=l.length:=by simp[ByteArray.size]
 have e2:(0:Int)≤a∧(a:Int)≤(l.length:Int):=by omega
 simp only[zU,IA,Cc,hs,fG,e2,and_self,if_true,aLX,Kn]
 rw[aLu (by simp)]
theorem N6 (l:List UInt8) {b:Nat} (hb:b≤l.length):zU (bD l) none (some (VI (b:Int)))=some (bD (l.take b)):=by
 have hs:(⟨l.toArray⟩:ByteArray).size=l.length:=by simp[ByteArray.size]
 have e1:(0:Int)≤b∧(b:Int)≤(l.length:Int):=by omega
 simp only[zU,IA,Cc,hs,fG,e1,and_self,if_true,aLX,Kn]
 rw[aLN,Nat.sub_zero]
theorem Vl (l:List UInt8):dK .eql (.string ⟨l.toArray⟩) (.string ⟨#[]⟩)=some (.bool (decide (l=[]))):=ZV l []
theorem MM (l:List UInt8):dK .neq (.string ⟨l.toArray⟩) (.string ⟨#[]⟩)=some (.bool (!decide (l=[]))):=TW l []
theorem Uz (l:List UInt8):TC 210 [bD l,bD [45]] (VB (isNeg l)):=by
 refine TC.walk ⟨true,false⟩ wO rfl (aMp rfl) rfl rfl ?_
 have e1:Dk (.string ⟨#[45]⟩)=some (.int .i64 1):=rfl
 by_cases h:(1:Int)≤(l.length:Int)
 ·have e2:=N6 l (b:=1) (by omega)
  have e2:zU (bD l) none (some (VI 1))=some (bD (l.take 1)):=e2
  have e3:dK .eql (.string ⟨(l.take 1).toArray⟩) (.string ⟨#[45]⟩)=some (.bool (decide (l.take 1=[45]))):=ZV (l.take 1) [45]
  have e4:isNeg l=decide (l.take 1=[45]):=by
   cases l with
   | nil=>exact absurd h (by decide)
   | cons c l=>rw[IP];simp
  rw[e4]
  simp only[jE,iE,bP,e1,ge_iff_le,h,e2,e3,VX,Nat.reduceEqDiff,Nat.reduceAdd]
  exact aL rfl
 ·have e4:isNeg l=false:=by unfold isNeg;rw[decide_eq_false (by omega)];rfl
  rw[e4]
  simp only[jE,iE,bP,e1,ge_iff_le,h,VX,Nat.reduceEqDiff,Nat.reduceAdd]
  exact aL rfl
theorem TH (l:List UInt8):TC 191 [bD l,bD [45]] (.eJ [bD (if isNeg l then l.drop 1 else l),VB (isNeg l)]):=by
 refine TC.walk ⟨true,false⟩ wT rfl (aMp rfl) rfl rfl ?_
 have e0:=Uz l
 have e1:Dk (.string ⟨#[45]⟩)=some (.int .i64 1):=rfl
 cases h:isNeg l with
 |
  true =>
  rw[h] at e0
  have hl:1≤l.length:=by
   cases l with
   | nil=>cases h
   | cons c l=>simp
  have e2:zU (bD l) (some (VI 1)) none=some (bD (l.drop 1)):=Io l (a:=1) hl
  simp only[jC,iK,e0,e1,e2,VX,Nat.reduceEqDiff,Nat.reduceAdd]
  exact aL rfl
 |
  false =>
  rw[h] at e0
  simp only[jC,iK,e0,aLd,if_false,VX,Nat.reduceEqDiff,Nat.reduceAdd]
  exact aL rfl
theorem U5 (l:List UInt8):TC 173 [bD l,bD [45]] (.eJ [bD (if isNeg l then l.drop 1 else l),VB (isNeg l)]):=by
 refine TC.walk ⟨true,false⟩ Hn rfl (aMp rfl) rfl rfl ?_
 have e0:=TH l
 simp only[Cr,Aw,e0,VX,Nat.reduceEqDiff,Nat.reduceAdd]
 exact aL rfl
theorem azG (l:List UInt8) (hl:l.length≤1000000000000):TC 190 [bD l,bD [47]] (.eJ [bD (oJ 47 l).1,bD ((oJ 47 l).2.getD []),VB (oJ 47 l).2.isSome]):=by
 refine TC.walk ⟨true,false⟩ A1 rfl (aMp rfl) rfl rfl ?_
 have e0:=arG l 47
 have e1:Dk (.string ⟨#[47]⟩)=some (.int .i64 1):=rfl
 cases h:(oJ 47 l).2 with
 |
  none =>
  obtain⟨h1,h2,_⟩:=Ds h
  rw[h1] at e0
  rw[h2]
  simp only[nC,lW,e0,ge_iff_le,Int.reduceNeg,Int.reduceLE,VX,Nat.reduceEqDiff,Nat.reduceAdd]
  exact aL rfl
 |
  some r =>
  obtain⟨h1,h2,_⟩:=Lg h
  rw[h1] at e0
  generalize (oJ 47 l).1=a at *
  subst h2
  rw[aKM,aKL] at hl
  have h0:(0:Int)≤(a.length:Int):=by omega
  have e2:=N6 (a++47::r) (b:=a.length) (by simp)
  have e3:=Io (a++47::r) (a:=a.length+1) (by simp)
  rw[List.take_left] at e2
  have ed:(a++47::r).drop (a.length+1)=r:=by rw[List.drop_append];simp
  rw[ed] at e3
  have w:IntKind.i64.wrap ((a.length:Int)+1)=((a.length+1:Nat):Int):=wrapN _ (by omega) (by omega)
  simp only[nC,lW,e0,e1,ge_iff_le,h0,w,e2,e3,VX,Nat.reduceEqDiff,Nat.reduceAdd]
  exact aL rfl
theorem aBD (l:List UInt8) (hl:l.length≤1000000000000):TC 172 [bD l,bD [47]] (.eJ [bD (oJ 47 l).1,bD ((oJ 47 l).2.getD []),VB (oJ 47 l).2.isSome]):=by
 refine TC.walk ⟨true,false⟩ Ql rfl (aMp rfl) rfl rfl ?_
 have e0:=azG l hl
 simp only[Ma,HM,e0,VX,Nat.reduceEqDiff,Nat.reduceAdd]
 exact aL rfl
def DG (l:List UInt8):VV:=if jK l=true then .eJ [bR (cA l),VB true] else .eJ [bR 0,VB false]
theorem afL (l:List UInt8):hJ (DG l)=true:=by
 unfold DG
 split<;>simp[hJ,sR,tX,qE]
theorem awI {d:Nat}:fz (d+1) [.row 0 [] 1 true] (.ref 0 0 0 0 0)=some (bR 0):=by
 rw[Gz]
 cases d with
 | zero=>rfl
 | succ d=>rfl
theorem PV {n:Nat} (hn:n≤9) {lo:Nat} {H:aA} {ρ:cW} {Q:VQ} (h58:ρ 58=VI n) (h59:ρ 59=VI 0) (h9:ρ 9=VK .u64 1) (hQ:∀aQ,(∀t,t<9→aQ t=ρ t)→aQ 9=VK .u64 ((10^n:Nat):Int)→Q .normal aQ H):VW ⟨true,false⟩ lo (.loop uC) (tH 4 Q) ρ H:=by
 refine aP (fun(i:Nat) aQ H'=>i≤n∧H'=H∧(∀t,t<9→aQ t=ρ t)∧aQ 58=VI n∧aQ 59=VI i∧aQ 9=VK .u64 ((10^i:Nat):Int)) (fun i=>n-i) 0 ⟨aK5 _,rfl,fun _ _=>rfl,h58,h59,h9⟩ ?_
 rintro i aQ H' ⟨hi,rfl,hk,g58,g59,g9⟩
 by_cases bZ:(i:Int)<(n:Int)
 ·have wi:IntKind.i64.wrap ((i:Int)+1)=((i+1:Nat):Int):=wrapN (i+1) (by omega) (by omega)
  have hp:10^i≤10^8:=aME (by decide) (by omega)
  have e8:(10:Nat)^8=100000000:=by decide
  have wp:IntKind.u64.wrap (((10^i:Nat):Int)*10)=((10^(i+1):Nat):Int):=by
   rw[aL2]
   generalize 10^i=p at *
   have:=eZ (p*10) (by omega)
   rw[Int.natCast_mul] at this
   rw[Int.natCast_mul]
   exact this
  simp only[uC,g58,g59,g9,bZ,wi,wp,VX,Nat.reduceEqDiff,Nat.reduceAdd]
  refine⟨i+1,by omega,by omega,fun t ht => ?_,rfl,rfl⟩
  try simp only[zX]
  repeat rw[if_neg (by omega)]
  exact hk t ht
 ·have mC:i=n:=by omega
  subst mC
  simp only[uC,g58,g59,bZ,VX,Nat.reduceEqDiff,Nat.reduceAdd]
  refine hQ _ (fun t ht => ?_) ?_
  ·try simp only[zX]
   repeat rw[if_neg (by omega)]
   exact hk t ht
  ·simp only[g9,VX,Nat.reduceEqDiff,Nat.reduceAdd]
theorem alX {l:List UInt8} {i:Nat} (h:i<l.length):(l.take (i+1)).all jQ=((l.take i).all jQ&&jQ (l.getD i 0)):=by
 rw[aMr,aNN]
 have:l[i]? = some (l.getD i 0):=by rw[aKI h,aKy,aKI h];rfl
 rw[this]
 simp
theorem Pg {l:List UInt8} (hl:l.length≤1000000000000) {lo:Nat} {H:aA} {ρ:cW} {Q:VQ} (h0:ρ 0=bD l) (h29:ρ 29=VI l.length) (h30:ρ 30=VI 0)
  (hR:l.all jQ=false→∀aQ:cW,aQ 2 = .tree [] .nil→aQ 3=VB false→Q .ret aQ H) (hN:l.all jQ=true→∀aQ:cW,(∀t,t<5→aQ t=ρ t)→Q .normal aQ H):VW ⟨true,false⟩ lo (.loop mM) (tH 0 Q) ρ H:=by
 refine aP (fun(i:Nat) aQ H'=>i≤l.length∧H'=H∧(l.take i).all jQ=true∧(∀t,t<5→aQ t=ρ t)∧aQ 29=VI l.length∧aQ 30=VI i) (fun i=>l.length-i) 0 ⟨aK5 _,rfl,rfl,fun _ _=>rfl,h29,h30⟩ ?_
 rintro i aQ H' ⟨hi,rfl,hd,hk,g29,g30⟩
 have g0:=(hk 0 (by decide)).trans h0
 by_cases bZ:(i:Int)<(l.length:Int)
 ·have YO:i<l.length:=by omega
  have e1:=Ga l YO
  have wi:IntKind.i64.wrap ((i:Int)+1)=((i+1:Nat):Int):=wrapN (i+1) (by omega) (by omega)
  have ht:=alX YO
  rw[hd,Bool.true_and] at ht
  have Xv:jQ (l.getD i 0)=(decide (48≤(l.getD i 0).toNat)&&decide ((l.getD i 0).toNat≤57)):=rfl
  have jP:jQ (l.getD i 0)=false→l.all jQ=false:=by
   intro h
   rw[h] at ht
   rw[←aLK (i+1) l,aNN,ht,Bool.false_and]
  generalize (l.getD i 0).toNat=c at *
  by_cases q1:(c:Int)<48
  ·have:=jP (by rw[Xv,decide_eq_false (by omega)];rfl)
   simp only[mM,g0,g29,g30,bZ,e1,q1,VX,Nat.reduceEqDiff,Nat.reduceAdd]
   exact hR this _ (by simp only[VX,Nat.reduceEqDiff,Nat.reduceAdd]) (by simp only[VX,Nat.reduceEqDiff,Nat.reduceAdd])
  ·by_cases q2:(57:Int)<(c:Int)
   ·have:=jP (by rw[Xv,decide_eq_false (show ¬c≤57 by omega),Bool.and_false])
    simp only[mM,g0,g29,g30,bZ,e1,q1,q2,VX,Nat.reduceEqDiff,Nat.reduceAdd]
    exact hR this _ (by simp only[VX,Nat.reduceEqDiff,Nat.reduceAdd]) (by simp only[VX,Nat.reduceEqDiff,Nat.reduceAdd])
   ·rw[Xv,decide_eq_true (by omega),decide_eq_true (by omega),aLZ] at ht
    simp only[mM,g0,g29,g30,bZ,e1,q1,q2,wi,VX,Nat.reduceEqDiff,Nat.reduceAdd]
    refine⟨i+1,by omega,by omega,ht,fun t ht => ?_,rfl⟩
    try simp only[zX]
    repeat rw[if_neg (by omega)]
    exact hk t ht
 ·have mC:i=l.length:=by omega
  subst mC
  rw[aLO] at hd
  simp only[mM,g29,g30,bZ,VX,Nat.reduceEqDiff,Nat.reduceAdd]
  refine hN hd _ fun t ht => ?_
  try simp only[zX]
  repeat rw[if_neg (by omega)]
  exact hk t ht
set_option maxHeartbeats 2000000 in
theorem PG {l:List UInt8} (hd:l.all jQ=true) (hl:l.length≤200) (fW:l≠[]) {ρ:cW} {Q:VQ} (h0:ρ 0=bD l) (h4:ρ 4 = .ref 0 0 0 0 0)
  (hQ:∀(aQ:cW),aQ 4=bR (cA l)→Q .normal aQ [.row 0 [] 1 false]):VW ⟨true,false⟩ 0 (.loop pS) (tH 2 Q) ρ [.row 0 [] 1 true]:=by
 refine aP (fun(s:List UInt8×List UInt8) aQ H'=>l=s.1++s.2∧aQ 0=bD s.2∧((H'=[.row 0 [] 1 true]∧aQ 4 = .ref 0 0 0 0 0∧s.1=[])∨(H'=[.row 0 [] 1 false]∧aQ 4=bR (cA s.1)))) (fun s=>s.2.length) ([],l) ⟨rfl,h0,.inl ⟨rfl,h4,rfl⟩⟩ ?_
 rintro⟨pre,rest⟩ aQ H' ⟨VO,g0,hv⟩
 simp only at VO g0 hv
 have e1:=MM rest
 by_cases he:rest=[]
 ·subst he
  rw[aLJ] at VO
  subst VO
  rcases hv with⟨_,_,h⟩ | ⟨rfl,g4⟩
  ·exact absurd h fW
  have Sm:dK .neq (.string ⟨#[]⟩) (.string ⟨#[]⟩)=some (.bool false):=by
   have:=MM []
   rw[decide_eq_true rfl] at this
   exact this
  simp only[pS,g0,Sm,VX,Nat.reduceEqDiff,Nat.reduceAdd]
  exact hQ _ (by simp only[g4,VX,Nat.reduceEqDiff,Nat.reduceAdd])
 ·rw[VO,aNN,aK9] at hd
  obtain⟨hd1,hd2⟩:=hd
  rw[VO,aKM] at hl
  have jZ:0<rest.length:=aNz.2 he
  have Sm:dK .neq (.string ⟨rest.toArray⟩) (.string ⟨#[]⟩)=some (.bool true):=by rw[e1,decide_eq_false he];rfl
  have wm:(rest.length:Int).tmod 9=((rest.length % 9:Nat):Int):=by rw[aMD (by omega)];simp
  have er:dK .rem (.int .i64 (rest.length:Int)) (.int .i64 9)=some (.int .i64 ((rest.length % 9:Nat):Int)):=by
   rw[←wm]
   rfl
  obtain⟨n,hn⟩:∃n,n=if rest.length % 9=0 then 9 else rest.length % 9:=⟨_,rfl⟩
  have hn1:1≤n∧n≤9∧n≤rest.length:=by
   rw[hn]
   split<;>omega
  obtain⟨n1,n9,nl⟩:=hn1
  have e2:=N6 rest nl
  have e3:=Io rest nl
  have hch:(rest.take n).length=n:=by rw[aMa];omega
  have hcd:(rest.take n).all jQ=true:=by
   rw[←aLK n rest,aNN,aK9] at hd2
   exact hd2.1
  have hp:=aqG (rest.take n) (cA (rest.take n)) (by omega) (azD hcd (fun h=>by rw[h] at hch;simp at hch;omega) (by omega))
  have HY:=Ko hcd
  rw[hch] at HY
  have hp9:10^n≤10^9:=aME (by decide) n9
  have e9:(10:Nat)^9=1000000000:=by decide
  have aJe:cA (rest.take n)<1000000000:=by omega
  have c1:=oW (10^n) (by omega)
  have c2:=oW (cA (rest.take n)) (by omega)
  have hbp:bl (cA pre)≤665:=by
   refine zO (aKD (Ko hd1) ?_)
   exact aKC (aME (by decide) (by omega:pre.length≤200)) (by decide +kernel)
  have hb9:bl (10^n)≤64:=zO (by omega)
  have hbm:=oD (cA pre) (10^n)
  have hbc:bl (cA (rest.take n))≤64:=zO (by omega)
  have tm:=jS (cA pre) (10^n) (gN (by omega)) (gN (by omega))
  have c4:=Gb (cA pre*10^n) (cA (rest.take n)) (gN (by omega)) (gN (by omega))
  have pO:cA pre*10^n+cA (rest.take n)=cA (pre++rest.take n):=by rw[PE,hch]
  rw[pO] at c4
  have fin:(rest.drop n).length<rest.length∧pre++rest=(pre++rest.take n)++rest.drop n:=⟨by rw[List.length_drop];omega,by rw[aMn,aLK]⟩
  obtain⟨v4,g4,c3⟩:∃v4,aQ 4=v4∧∀lo K,dI 143 [v4,bR (10^n)] lo H' K=K (bR (cA pre*10^n)) [.row 0 [] 1 false]:=by
   rcases hv with⟨rfl,g4,Zl⟩ | ⟨rfl,g4⟩
   ·refine⟨_,g4,fun lo K => ?_⟩
    subst Zl
    have:=tm.Dq (H:=[.row 0 [] 1 true]) (args:=[.ref 0 0 0 0 0,bR (10^n)]) (lo:=lo) (k:=K) rfl (by simp[aO,bW]) (fz2 awI (aN (bW _))) rfl
    rw[this,show Js (bR (cA []*10^n))=false from rfl,if_neg (by decide),List.flatMap_cons,List.flatMap_cons,List.flatMap_nil,Ek (bW _),Kq (n:=0) (c:=0) (es:=[]) (e:=1) (w:=true) aT rfl rfl]
    rfl
   ·exact⟨_,g4,fun lo K=>tm lo [.row 0 [] 1 false] K⟩
  clear hv
  obtain⟨P,hP⟩:∃P,P=10^n:=⟨_,rfl⟩
  rw[←hP] at c1 c4 c3
  have hnI:(rest.length % 9:Nat)=0∨¬(rest.length % 9:Nat)=0:=by omega
  rcases hnI with h9 | h9
  ·rw[if_pos h9] at hn
   subst hn
   have q:((rest.length % 9:Nat):Int)=0:=by omega
   have e2':zU (bD rest) none (some (VI 9))=some (bD (rest.take 9)):=e2
   have e3':zU (bD rest) (some (VI 9)) none=some (bD (rest.drop 9)):=e3
   simp only[pS,g0,g4,Sm,bP,er,q,e2',hp,VX,Nat.reduceEqDiff,Nat.reduceAdd]
   refine PV (n:=9) (by decide) ?_ ?_ ?_ fun AS k1 q9 => ?_
   ·simp only[VX,Nat.reduceEqDiff,Nat.reduceAdd];rfl
   ·simp only[VX,Nat.reduceEqDiff,Nat.reduceAdd]
   ·simp only[VX,Nat.reduceEqDiff,Nat.reduceAdd]
   rw[←hP] at q9
   have u0:AS 0=bD rest:=by rw[k1 0 (by decide)];simp only[g0,VX,Nat.reduceEqDiff,Nat.reduceAdd]
   have u4:AS 4=v4:=by rw[k1 4 (by decide)];simp only[g4,VX,Nat.reduceEqDiff,Nat.reduceAdd]
   have u6:AS 6=VI 9:=by rw[k1 6 (by decide)];simp only[VX,Nat.reduceEqDiff,Nat.reduceAdd]
   have u7:AS 7=VK .u64 (cA (rest.take 9)):=by rw[k1 7 (by decide)];simp only[VX,Nat.reduceEqDiff,Nat.reduceAdd]
   simp only[u0,u4,u6,u7,q9,c1,c2,c3,c4,e3',VX,Nat.reduceEqDiff,Nat.reduceAdd]
   exact⟨(pre++rest.take 9,rest.drop 9),fin.1,VO.trans fin.2,rfl,.inr rfl⟩
  ·rw[if_neg h9] at hn
   rw[←hn] at er
   have q:¬(n:Int)=0:=by omega
   simp only[pS,g0,g4,Sm,bP,er,q,e2,hp,VX,Nat.reduceEqDiff,Nat.reduceAdd]
   refine PV (n:=n) n9 ?_ ?_ ?_ fun AS k1 q9 => ?_
   ·simp only[VX,Nat.reduceEqDiff,Nat.reduceAdd]
   ·simp only[VX,Nat.reduceEqDiff,Nat.reduceAdd]
   ·simp only[VX,Nat.reduceEqDiff,Nat.reduceAdd]
   rw[←hP] at q9
   have u0:AS 0=bD rest:=by rw[k1 0 (by decide)];simp only[g0,VX,Nat.reduceEqDiff,Nat.reduceAdd]
   have u4:AS 4=v4:=by rw[k1 4 (by decide)];simp only[g4,VX,Nat.reduceEqDiff,Nat.reduceAdd]
   have u6:AS 6=VI n:=by rw[k1 6 (by decide)];simp only[VX,Nat.reduceEqDiff,Nat.reduceAdd]
   have u7:AS 7=VK .u64 (cA (rest.take n)):=by rw[k1 7 (by decide)];simp only[VX,Nat.reduceEqDiff,Nat.reduceAdd]
   simp only[u0,u4,u6,u7,q9,c1,c2,c3,c4,e3,VX,Nat.reduceEqDiff,Nat.reduceAdd]
   exact⟨(pre++rest.take n,rest.drop n),fin.1,VO.trans fin.2,rfl,.inr rfl⟩
set_option maxHeartbeats 2000000 in
theorem F8 (l:List UInt8) (hl:l.length≤1000000000000):TC 174 [bD l] (DG l):=by
 refine TC.walk ⟨true,false⟩ Om rfl (aMp rfl) rfl (afL l) ?_
 have e1:=Vl l
 by_cases he:l=[]
 ·have hk:jK l=false:=by rw[he];rfl
  have Sm:dK .eql (.string ⟨l.toArray⟩) (.string ⟨#[]⟩)=some (.bool true):=by rw[e1,decide_eq_true he]
  unfold DG
  rw[hk]
  simp only[sQ,nZ,Sm,aLd,if_false,VX,Nat.reduceEqDiff,Nat.reduceAdd]
  exact bO (d:=6) Az (aN (v:=VB false) rfl)
 have jZ:0<l.length:=aNz.2 he
 by_cases atP:(200:Int)<(l.length:Int)
 ·have hk:jK l=false:=by
   cases h:jK l with
   | false=>rfl
   | true=>have:=(lI.1 h).2.2.1;omega
  unfold DG
  rw[hk]
  simp only[sQ,nZ,e1,he,decide_false,bP,atP,aLd,if_false,VX,Nat.reduceEqDiff,Nat.reduceAdd]
  exact bO (d:=6) Az (aN (v:=VB false) rfl)
 have e2:=KW l jZ
 by_cases hz:(((l.getD 0 0).toNat:Int)=48∧1<(l.length:Int))
 ·obtain⟨Lm,NB⟩:=hz
  have hk:jK l=false:=by
   cases h:jK l with
   | false=>rfl
   |
    true =>
    rcases(lI.1 h).2.2.2 with h1 | h1
    ·omega
    ·exact absurd (UInt8.toNat_inj.1 (by rw[show (48:UInt8).toNat=48 from rfl];omega)) h1
  unfold DG
  rw[hk]
  simp only[sQ,nZ,e1,he,decide_false,bP,atP,e2,Lm,NB,aLd,if_false,VX,Nat.reduceEqDiff,Nat.reduceAdd]
  exact bO (d:=6) Az (aN (v:=VB false) rfl)
 have aCt:l.length=1∨l.getD 0 0≠48:=by
  by_cases h1:l.length=1
  ·exact .inl h1
  ·right
   intro h2
   apply hz
   rw[h2]
   exact⟨rfl,by omega⟩
 have e3:∀lr,mW lr [.int .u32 0] 0 [] []=some (.ref 0 0 0 0 0,[.row 0 [] 1 true]):=fun lr=>mX (H:=[]) (lr:=lr) (z:=[.int .u32 0]) rfl
 have kN:l.all jQ=true→jK l=true:=fun h=>lI.2 ⟨h,jZ,by omega,aCt⟩
 have kF:l.all jQ=false→jK l=false:=fun h=>by unfold jK;rw[h];rfl
 have rF:jK l=false→DG l = .eJ [bR 0,VB false]:=fun h=>by unfold DG;rw[h];rfl
 have rT:jK l=true→DG l = .eJ [bR (cA l),VB true]:=fun h=>if_pos h
 by_cases hA:(((l.getD 0 0).toNat:Int)=48)
 ·have hB:¬1<(l.length:Int):=fun h=>hz ⟨hA,h⟩
  simp only[sQ,nZ,e1,e3,he,decide_false,bP,atP,e2,hA,hB,aLd,if_false,VX,Nat.reduceEqDiff,Nat.reduceAdd]
  refine Pg hl ?_ ?_ ?_ (fun hd AS g2 g3 => ?_) fun hd AS k1 => ?_
  ·simp only[VX,Nat.reduceEqDiff,Nat.reduceAdd]
  ·simp only[VX,Nat.reduceEqDiff,Nat.reduceAdd]
  ·simp only[VX,Nat.reduceEqDiff,Nat.reduceAdd]
  ·rw[rF (kF hd)]
   simp only[g2,g3,VX,Nat.reduceEqDiff,Nat.reduceAdd]
   exact bO (d:=6) Az (aN (v:=VB false) rfl)
  ·rw[rT (kN hd)]
   simp only[VX,Nat.reduceEqDiff,Nat.reduceAdd]
   refine PG hd (by omega) he ?_ ?_ fun tG g4 => ?_
   ·rw[k1 0 (by decide)];simp only[VX,Nat.reduceEqDiff,Nat.reduceAdd]
   ·rw[k1 4 (by decide)];simp only[VX,Nat.reduceEqDiff,Nat.reduceAdd]
   ·simp only[g4,VX,Nat.reduceEqDiff,Nat.reduceAdd]
    exact bO (d:=6) (aN (bW _)) (aN (v:=VB true) rfl)
 ·simp only[sQ,nZ,e1,e3,he,decide_false,bP,atP,e2,hA,aLd,if_false,VX,Nat.reduceEqDiff,Nat.reduceAdd]
  refine Pg hl ?_ ?_ ?_ (fun hd AS g2 g3 => ?_) fun hd AS k1 => ?_
  ·simp only[VX,Nat.reduceEqDiff,Nat.reduceAdd]
  ·simp only[VX,Nat.reduceEqDiff,Nat.reduceAdd]
  ·simp only[VX,Nat.reduceEqDiff,Nat.reduceAdd]
  ·rw[rF (kF hd)]
   simp only[g2,g3,VX,Nat.reduceEqDiff,Nat.reduceAdd]
   exact bO (d:=6) Az (aN (v:=VB false) rfl)
  ·rw[rT (kN hd)]
   simp only[VX,Nat.reduceEqDiff,Nat.reduceAdd]
   refine PG hd (by omega) he ?_ ?_ fun tG g4 => ?_
   ·rw[k1 0 (by decide)];simp only[VX,Nat.reduceEqDiff,Nat.reduceAdd]
   ·rw[k1 4 (by decide)];simp only[VX,Nat.reduceEqDiff,Nat.reduceAdd]
   ·simp only[g4,VX,Nat.reduceEqDiff,Nat.reduceAdd]
    exact bO (d:=6) (aN (bW _)) (aN (v:=VB true) rfl)
def Pr:VV := .agg [VB false,bR 0,bR 0]
def Gq (l:List UInt8):VV:=match Bu l with
 | some q => .eJ [aF q,VB true]
 | none => .eJ [Pr,VB false]
theorem WV:hJ Pr=true:=by simp[Pr,hJ,sR,tX,qE]
theorem XH (l:List UInt8):hJ (Gq l)=true:=by
 unfold Gq
 split<;>simp[hJ,sR,oF,WV,qE]
theorem iI {d:Nat} {H:aA}:fz (d+2) H (.agg [VB false,.tree [] .nil,.tree [] .nil])=some Pr:=uI (aN (v:=VB false) rfl) Az Az
theorem P0 {neg:Bool} {t b:Nat} (hb:b≠0) (hg:aNj t b=1) (hn:¬(neg=true∧t=0)):aF (mkRat (mH neg t) b) = .agg [VB neg,bR t,bR b]:=by
 obtain⟨e1,e2⟩:=MR (neg:=neg) hb hg
 refine Et ?_ (by rw[e1,qK]) e2
 rw[e1]
 cases neg with
 | false=>unfold mH;simp
 |
  true =>
  have:t≠0:=fun h=>hn ⟨rfl,h⟩
  unfold mH
  simp
  omega
theorem YF (l:List UInt8):Bu l=sB (isNeg (oJ 47 l).1) (if isNeg (oJ 47 l).1 then (oJ 47 l).1.drop 1 else (oJ 47 l).1) (oJ 47 l).2:=by
 cases l with
 | nil=>rfl
 |
  cons c r =>
  unfold Bu
  by_cases h47:c=47
  ·subst h47
   rfl
  ·have e:oJ 47 (c::r)=(c::(oJ 47 r).1,(oJ 47 r).2):=by rw[oJ,if_neg h47]
   by_cases h45:c=45
   ·subst h45
    rw[e]
    rfl
   ·rw[e,IP,IP,decide_eq_false h45]
    simp only[aLd,if_false,e]
theorem W6 {c:UInt8}:∀ {l:List UInt8},(oJ c l).1.length≤l.length∧∀t,(oJ c l).2=some t→t.length≤l.length:=by
 intro l
 cases h:(oJ c l).2 with
 | none=>rw[(Ds h).2.1];exact⟨aKB _,fun t ht=>by cases ht⟩
 |
  some r =>
  have:=congrArg List.length (Lg h).2.1
  rw[aKM,aKL] at this
  exact⟨by omega,fun t ht=>by cases ht;omega⟩
theorem RM {n:Nat}:(((aD 4294967296 n).length:Nat):Int)=0↔n=0:=by
 rw[←nT (b:=4294967296) (n:=n) (by decide),←aMJ]
 omega
set_option maxRecDepth 100000 in
set_option maxHeartbeats 4000000 in
theorem P8 (l:List UInt8) (hl:l.length≤1000000000000):TC 115 [bD l] (Gq l):=by
 refine TC.walk ⟨true,false⟩ On rfl (aMp rfl) rfl (XH l) ?_
 have e1:=aBD l hl
 obtain⟨l1,l2⟩:=W6 (c:=47) (l:=l)
 have hq:=YF l
 unfold Gq
 rw[hq]
 clear hq
 generalize (oJ 47 l).1=f at *
 generalize (oJ 47 l).2=s2 at *
 have e2:=U5 f
 have ld:(if isNeg f=true then f.drop 1 else f).length≤f.length:=by split<;>simp
 generalize (if isNeg f=true then f.drop 1 else f)=d at *
 generalize isNeg f=neg at *
 have e3:=F8 d (by omega)
 have c1:TC 139 [.sc (.int .u64 1)] (bR 1):=oW 1 (by decide)
 cases hd:jK d with
 |
  false =>
  have hp:sB neg d s2=none:=if_pos (.inl hd)
  rw[hp]
  unfold DG at e3
  rw[hd,if_neg (by decide)] at e3
  simp only[fM,dL,e1,e2,e3,aH,fZ,Nat.reduceLeDiff,Nat.reduceLT,Nat.reduceSub,VX,Nat.reduceEqDiff,Nat.reduceAdd]
  exact bO (d:=6) iI (aN (v:=VB false) rfl)
 |
  true =>
  unfold DG at e3
  rw[hd,if_pos rfl] at e3
  by_cases hz:neg=true∧cA d=0
  ·have hp:sB neg d s2=none:=if_pos (.inr hz)
   rw[hp]
   obtain⟨rfl,CI⟩:=hz
   rw[CI] at e3
   have Ct:(((aD 4294967296 0).length:Nat):Int)=0:=RM.2 rfl
   simp only[fM,dL,e1,e2,e3,dN,Ct,aH,fZ,Nat.reduceLeDiff,Nat.reduceLT,Nat.reduceSub,VX,Nat.reduceEqDiff,Nat.reduceAdd]
   exact bO (d:=6) iI (aN (v:=VB false) rfl)
  ·have hbt:=AZ hd
   have Ct:neg=true→¬(((aD 4294967296 (cA d)).length:Nat):Int)=0:=fun h h0=>hz ⟨h,RM.1 h0⟩
   cases s2 with
   |
    none =>
    have hp:sB neg d none=some (mkRat (mH neg (cA d)) 1):=if_neg (by rw[hd];rintro(h | h);exact absurd h (by decide);exact hz h)
    rw[hp]
    simp only[]
    rw[P0 (by decide) (Nat.gcd_one_right _) hz]
    cases neg with
    |
     false =>
     simp only[fM,dL,e1,e2,e3,c1,aLg,Option.getD_none,aH,aW,aV,aR,fZ,Nat.reduceLeDiff,Nat.reduceLT,Nat.reduceSub,VX,Nat.reduceEqDiff,Nat.reduceAdd]
     exact bO (d:=6) (uI (aN (v:=VB false) rfl) (aN (bW _)) (aN (bW _))) (aN (v:=VB true) rfl)
    |
     true =>
     have Ct:=Ct rfl
     simp only[fM,dL,e1,e2,e3,c1,dN,Ct,aLg,Option.getD_none,aH,aW,aV,aR,fZ,Nat.reduceLeDiff,Nat.reduceLT,Nat.reduceSub,VX,Nat.reduceEqDiff,Nat.reduceAdd]
     exact bO (d:=6) (uI (aN (v:=VB true) rfl) (aN (bW _)) (aN (bW _))) (aN (v:=VB true) rfl)
   |
    some t =>
    have e4:=F8 t (by have:=l2 t rfl;omega)
    have hp:sB neg d (some t)=if jK t=true∧1<cA t∧aNj (cA d) (cA t)=1 then some (mkRat (mH neg (cA d)) (cA t)) else none:=if_neg (by rw[hd];rintro(h | h);exact absurd h (by decide);exact hz h)
    rw[hp]
    cases ht:jK t with
    |
     false =>
     rw[if_neg (fun h=>absurd h.1 (by decide))]
     unfold DG at e4
     rw[ht,if_neg (by decide)] at e4
     cases neg with
     |
      false =>
      simp only[fM,dL,e1,e2,e3,e4,c1,aNO,aNP,aH,aW,aV,aR,fZ,Nat.reduceLeDiff,Nat.reduceLT,Nat.reduceSub,VX,Nat.reduceEqDiff,Nat.reduceAdd]
      exact bO (d:=6) iI (aN (v:=VB false) rfl)
     |
      true =>
      have Ct:=Ct rfl
      simp only[fM,dL,e1,e2,e3,e4,c1,dN,Ct,aNO,aNP,aH,aW,aV,aR,fZ,Nat.reduceLeDiff,Nat.reduceLT,Nat.reduceSub,VX,Nat.reduceEqDiff,Nat.reduceAdd]
      exact bO (d:=6) iI (aN (v:=VB false) rfl)
    |
     true =>
     have Oe:=AZ ht
     unfold DG at e4
     rw[ht,if_pos rfl] at e4
     have c2:=lX (cA t) 1 (gN (by omega)) (gN (aKC (zO (n:=1) (k:=1) (by decide)) (by decide)))
     have c3:=FY (cA d) (cA t) (gN (by omega)) (gN (by omega))
     by_cases h1:gH (cA t) 1≤0
     ·have hle:¬1<cA t:=fun h=>by unfold gH at h1;rw[if_neg (by omega),if_neg (by omega)] at h1;exact absurd h1 (by decide)
      rw[if_neg (fun h=>hle h.2.1)]
      cases neg with
      |
       false =>
       simp only[fM,dL,e1,e2,e3,e4,c1,c2,h1,aNO,aNP,aH,aW,aV,aR,fZ,Nat.reduceLeDiff,Nat.reduceLT,Nat.reduceSub,VX,Nat.reduceEqDiff,Nat.reduceAdd]
       exact bO (d:=6) iI (aN (v:=VB false) rfl)
      |
       true =>
       have Ct:=Ct rfl
       simp only[fM,dL,e1,e2,e3,e4,c1,c2,h1,dN,Ct,aNO,aNP,aH,aW,aV,aR,fZ,Nat.reduceLeDiff,Nat.reduceLT,Nat.reduceSub,VX,Nat.reduceEqDiff,Nat.reduceAdd]
       exact bO (d:=6) iI (aN (v:=VB false) rfl)
     ·have bI:1<cA t:=by
       rcases Nat.lt_or_ge 1 (cA t) with h | h
       ·exact h
       ·exfalso
        apply h1
        unfold gH
        split
        ·decide
        ·rw[if_pos (by omega)];decide
      have hgl:bl (aNj (cA d) (cA t))≤665:=aKC (mA (Nat.le_of_dvd (by omega) (Nat.gcd_dvd_right _ _))) Oe
      have c4:=lX (aNj (cA d) (cA t)) 1 (gN (by omega)) (gN (aKC (zO (n:=1) (k:=1) (by decide)) (by decide)))
      by_cases hg:aNj (cA d) (cA t)=1
      ·have h4:gH (aNj (cA d) (cA t)) 1=0:=by rw[hg];rfl
       rw[if_pos ⟨rfl,bI,hg⟩]
       simp only[]
       rw[P0 (by omega) hg hz]
       cases neg with
       |
        false =>
        simp only[fM,dL,e1,e2,e3,e4,c1,c2,c3,c4,h1,h4,aNO,aNP,aH,aW,aV,aR,fZ,Nat.reduceLeDiff,Nat.reduceLT,Nat.reduceSub,VX,Nat.reduceEqDiff,Nat.reduceAdd]
        exact bO (d:=6) (uI (aN (v:=VB false) rfl) (aN (bW _)) (aN (bW _))) (aN (v:=VB true) rfl)
       |
        true =>
        have Ct:=Ct rfl
        simp only[fM,dL,e1,e2,e3,e4,c1,c2,c3,c4,h1,h4,dN,Ct,aNO,aNP,aH,aW,aV,aR,fZ,Nat.reduceLeDiff,Nat.reduceLT,Nat.reduceSub,VX,Nat.reduceEqDiff,Nat.reduceAdd]
        exact bO (d:=6) (uI (aN (v:=VB true) rfl) (aN (bW _)) (aN (bW _))) (aN (v:=VB true) rfl)
      ·have h4:¬gH (aNj (cA d) (cA t)) 1=0:=by
        unfold gH
        split<;>(try split)<;>first | decide | omega
       rw[if_neg (fun h=>hg h.2.2)]
       cases neg with
       |
        false =>
        simp only[fM,dL,e1,e2,e3,e4,c1,c2,c3,c4,h1,h4,aNO,aNP,aH,aW,aV,aR,fZ,Nat.reduceLeDiff,Nat.reduceLT,Nat.reduceSub,VX,Nat.reduceEqDiff,Nat.reduceAdd]
        exact bO (d:=6) iI (aN (v:=VB false) rfl)
       |
        true =>
        have Ct:=Ct rfl
        simp only[fM,dL,e1,e2,e3,e4,c1,c2,c3,c4,h1,h4,dN,Ct,aNO,aNP,aH,aW,aV,aR,fZ,Nat.reduceLeDiff,Nat.reduceLT,Nat.reduceSub,VX,Nat.reduceEqDiff,Nat.reduceAdd]
        exact bO (d:=6) iI (aN (v:=VB false) rfl)
end Go.PM
namespace Go.PM
open Go.Lib
theorem Wh {l:List UInt8} {q:Rat} (h:Bu l=some q):Gq l = .eJ [aF q,VB true]:=by unfold Gq;rw[h]
theorem Wx {l:List UInt8} (h:Bu l=none):Gq l = .eJ [Pr,VB false]:=by unfold Gq;rw[h]
theorem Md:aB Pr=[VB false,bR 0,bR 0]:=rfl
theorem PZ:isAny Pr=false:=rfl
theorem W2:dP true 3 Pr 0=some Pr:=rfl
theorem R1 (q:Rat):∃s k,B3 q = .eJ [bD s,VB k]:=by
 unfold B3
 split<;>exact⟨_,_,rfl⟩
end Go.PM
namespace Go.PM
open Go.Lib
theorem zF {q:Rat}:jL q=0↔q=0:=by
 rw[←Rat.num_eq_zero]
 rcases Int.lt_trichotomy q.num 0 with h | h | h
 ·rw[oX h];omega
 ·rw[lC h];simp[h]
 ·rw[pE h];omega
end Go.PM
namespace Go.PM
open Go.Lib
theorem UB {α:Type} {f:α→VV} {d e b g c:Nat} {xs:List α} {H:aA} {w:Bool} (hp:∀x,bA (f x)=true) (h:aG H b g=some (xs.map f,e,w)) (hc:xs.length≤c):fz (d+2) H (.ref b g 0 xs.length c)=some (aC f xs):=by
 have:bA (.ref b g 0 xs.length c)=false:=rfl
 unfold PM.fz
 simp only[this,h,aLd,if_false]
 rw[if_pos ⟨by simp,hc⟩,aLN,aLu (by simp),mapM_pure (fQ hp)]
 rfl
theorem Ca {d:Nat} {H:aA}:fz (d+1) H (.tree [] .nil)=some (.tree [] .op):=by
 unfold PM.fz
 have:bA (.tree [] .nil)=false:=by simp[bA]
 simp[this]
theorem IB {H:aA}:fz depth H (.eJ [.tree [] .nil,VB false])=some (.eJ [.tree [] .op,VB false]):=bO (d:=6) Ca (aN (v:=VB false) rfl)
theorem zI {u v:VV} (hu:hJ u=true) (hv:hJ v=true):hJ (.eJ [u,v])=true:=by simp only[hJ,sR,hu,hv,aLZ]
theorem acC {u v:VV} (hu:bA u=true) (hv:bA v=true):bA (.eJ [u,v])=true:=by simp only[bA,aO,hu,hv,aLZ]
theorem Ap {u:VV} (hu:bA u=true):aO [u]=true:=by simp only[aO,hu,aLZ]
theorem Lw {u v:VV} (hu:bA u=true) (hv:bA v=true):aO [u,v]=true:=by simp only[aO,hu,hv,aLZ]
def pQ (s:ByteArray):Option Rat:=Bu s.data.toList
theorem akV (s:ByteArray):sV s=bD s.data.toList:=rfl
def tB (xs:List ByteArray):Option (List Rat):=if xs.length≤300 then xs.mapM pQ else none
def QX (o:Option (List Rat)):VV:=match o with
 | some qs => .eJ [aC aF qs,VB true]
 | none => .eJ [aC aF [],VB false]
theorem dC (q:Rat):(aB (aF q)).length=3:=rfl
theorem gR (qs:List Rat):bA (aC aF qs)=true:=mO dC eR
theorem afN (q:Rat):CM (aF q)=true:=by simp[CM,aF,bR]
theorem GF (qs:List Rat):hJ (aC aF qs)=true:=zY dC oF afN
theorem Se (o:Option (List Rat)):hJ (QX o)=true:=by
 unfold QX
 split
 ·exact zI (GF _) rfl
 ·exact zI (GF []) rfl
theorem RT {α β:Type} {f:α→Option β} {xs:List α} {ys:List β} {x:α} {y:β} (h:xs.mapM f=some ys) (hx:f x=some y):(xs++[x]).mapM f=some (ys++[y]):=by
 rw[List.mapM_append,h]
 simp[hx]
theorem mapM_none {α β:Type} {f:α→Option β} {x:α} (hx:f x=none):∀ {xs:List α},x∈xs→xs.mapM f=none
 | [],h=>by cases h
 |
  y::xs,h=>by
  rw[aLY]
  cases hy:f y with
  | none=>rfl
  |
   some z =>
   rcases aLP.1 h with rfl | h
   ·rw[hx] at hy;cases hy
   ·show ((xs.mapM f).bind fun zs=>some (z::zs))=none
    rw[mapM_none hx h];rfl
theorem mapM_mem {α β:Type} {f:α→Option β} {P:β→Prop} (hP:∀x y,f x=some y→P y):∀ {xs:List α} {ys:List β},xs.mapM f=some ys→∀y∈ys,P y
 | [],ys,h,y,hy=>by simp at h;subst h;cases hy
 |
  x::xs,ys,h,y,hy=>by
  rw[aLY] at h
  cases hx:f x with
  | none=>rw[hx] at h;cases h
  |
   some z =>
   rw[hx] at h
   cases hs:xs.mapM f with
   | none=>rw[hs] at h;cases h
   |
    some zs =>
    rw[hs] at h
    cases h
    rcases aLP.1 hy with rfl | hy
    ·exact hP _ _ hx
    ·exact mapM_mem hP hs _ hy
theorem sH {α:Type} {xs:List α} {i:Nat} {x:α} (h:xs[i]? = some x):xs.take (i+1)=xs.take i++[x]:=by rw[aMr,h];rfl
theorem nD {xs:List ByteArray} {qs:List Rat} (h:tB xs=some qs):(∀q∈qs,aK q≤665)∧qs.length≤300∧qs.length=xs.length:=by
 unfold tB at h
 split at h
 ·rename_i hl
  have:=BV h
  exact⟨mapM_mem (fun _ _ h=>Xm h) h,by omega,this⟩
 ·cases h
set_option maxHeartbeats 1000000 in
theorem Fs (xs:List ByteArray) (hn:xs.length≤1000000000) (hs:∀s∈xs,s.size≤1000000000):TC 65 [gM xs] (QX (tB xs)):=by
 refine TC.walk ⟨true,false⟩ WD rfl (aMp rfl) (by simp[aO,kQ]) (Se _) ?_
 unfold tB
 by_cases Yb:(300:Int)<(xs.length:Int)
 ·rw[if_neg (by omega)]
  simp only[KL,Gf,Yb,VX,Nat.reduceEqDiff,Nat.reduceAdd]
  exact IB
 rw[if_pos (by omega)]
 have e0:=fun H=>mX (H:=H) (lr:=false) (z:=[.bool false,.slice none 0 0,.slice none 0 0]) rfl
 simp only[KL,Gf,Yb,e0,VX,Nat.reduceEqDiff,Nat.reduceAdd]
 refine OS (fun(s:Nat×List Rat) ρ H=>s.1≤xs.length∧(xs.take s.1).mapM pQ=some s.2∧H=[.row s.1 (s.2.map aF) 3 true]∧ρ 4 = .ref 0 s.1 0 s.1 s.1∧ρ 13=gM xs∧ρ 14=VI xs.length∧ρ 15=VI s.1) (fun s=>xs.length-s.1) (0,[]) ⟨aK5 _,rfl,rfl,rfl,rfl,rfl,rfl⟩ ?_
 rintro⟨i,out⟩ ρ H ⟨hi,wA,rfl,g4,g13,g14,g15⟩
 simp only at hi wA g4 g15
 have iB:out.length=i:=by rw[BV wA,aMa];omega
 by_cases bZ:(i:Int)<(xs.length:Int)
 ·obtain⟨x,hx⟩:∃x,xs[i]? = some x:=⟨_,aKI (by omega)⟩
  have hxm:=aLv hx
  have e1:=fun H=>aI (f:=sV) (t := .op) (H:=H) (size:=1) (k := .i64) hx rfl
  have wi:IntKind.i64.wrap ((i:Int)+1)=((i+1:Nat):Int):=wrapN (i+1) (by omega) (by omega)
  have e2:=P8 x.data.toList (by have:=hs x hxm;rw[Array.length_toList];show x.size≤_;omega)
  rw[←akV] at e2
  cases hp:pQ x with
  |
   none =>
   rw[Wx hp] at e2
   rw[mapM_none hp hxm]
   simp only[AM,g4,g13,g14,g15,bZ,e1,e2,Md,PZ,W2,aV,aW,aR,fZ,Nat.reduceLeDiff,Nat.reduceLT,Nat.reduceSub,lU,bT,cK,fI,kA,nR,bne_iff_ne,ne_eq,not_false_eq_true,not_true_eq_false,VX,Nat.reduceEqDiff,Nat.reduceAdd]
   exact IB
  |
   some q =>
   rw[Wh hp] at e2
   have eL:∀H,mW false [.bool false,.slice none 0 0,.slice none 0 0] 1 [(0,aF q)] H=some (.tree [aF q] (.cl 3),H):=fun H=>iY rfl rfl rfl
   have eS:∀H,cZ 3 (.tree [aF q] (.cl 3)) H=some [aF q]:=fun H=>eV rfl rfl
   have eP:dR 0 3 56 (.ref 0 i 0 i i) [aF q] [.row i (out.map aF) 3 true,.row 0 [aF q] 3 true]=some (.ref 0 (i+1) 0 (i+1) (i+1),[.row (i+1) ((out++[q]).map aF) 3 true,.row 0 [aF q] 3 true]):=by
    rw[jT (f:=aF) (xs:=out) (by rw[aT]) iB.symm (aKB _) (by decide) (by decide) (by omega),aMf]
   simp only[AM,g4,g13,g14,g15,bZ,e1,e2,eL,eS,eP,wi,aH,cF,bF,aV,aW,aR,fZ,Nat.reduceLeDiff,Nat.reduceLT,Nat.reduceSub,lU,bT,cK,fI,kA,nR,bne_iff_ne,ne_eq,not_false_eq_true,not_true_eq_false,VX,Nat.reduceEqDiff,Nat.reduceAdd]
   refine⟨(i+1,out++[q]),by simp only;omega,?_,by simp only;omega,by simp only[sH hx];exact RT wA hp,rfl,?_⟩
   ·rw[DP (oP _ (fQ eR)),LD]
   ·simp only[Bs,g13,g14,Da (kQ _),KV (Nat.lt_succ_self 0),VX,Nat.reduceEqDiff,Nat.reduceAdd,aNQ,oA,List.all_nil,aMe,Bs,Pm,Da]
 ·have mC:i=xs.length:=by omega
  subst mC
  rw[aLO] at wA
  rw[wA]
  simp only[AM,g4,g13,g14,g15,bZ,VX,Nat.reduceEqDiff,Nat.reduceAdd]
  refine bO (d:=6) ?_ (aN (v:=VB true) rfl)
  have:=UB (d:=5) (w:=true) (f:=aF) (e:=3) (b:=0) (g:=xs.length) (c:=xs.length) (xs:=out) (H:=[.row xs.length (out.map aF) 3 true]) eR (by rw[aT]) (by omega)
  rw[iB] at this
  exact this
end Go.PM
namespace Go.PM
open Go.Lib
theorem amV {α:Type} {l:List α} (h:l.Nodup) {i j:Nat} {x:α} (hi:l[i]? = some x) (hj:l[j]? = some x):i=j:=by
 obtain⟨hi,qL⟩:=aKA.1 hi
 obtain⟨hj,hj'⟩:=aKA.1 hj
 have h:=List.pairwise_iff_getElem.1 h
 rcases Nat.lt_trichotomy i j with bI | heq | hgt
 ·exact absurd (qL.trans hj'.symm) (h i j hi hj bI)
 ·exact heq
 ·exact absurd (hj'.trans qL.symm) (h j i hj hi hgt)
section
variable {α:Type} {f:α→VV} {e lo hi:Nat} {H H':aA} {v:VV}
def jY (lo hi:Nat) (H H':aA):Prop:=∀b g x,lo≤b→b<hi→aG H b g=some x→aG H' b g=some x
theorem jY.pre (h:H <+: H'):jY lo hi H H':=fun _ _ _ _ _=>cL h
theorem jY.refl:jY lo hi H H:=fun _ _ _ _ _ h=>h
theorem jY.trans {W4:aA} (h:jY lo hi H H') (h':jY lo hi H' W4):jY lo hi H W4:=fun b g x h1 h2 h3=>h' b g x h1 h2 (h b g x h1 h2 h3)
theorem jY.sub {l h':Nat} (h:jY lo hi H H') (hl:lo≤l) (hh:h'≤hi):jY l h' H H':=fun b g x h1 h2=>h b g x (by omega) (by omega)
theorem jY.set {b:Nat} {x:fC} (hb:b<lo∨hi≤b):jY lo hi H (H.set b x):=fun _ _ _ h1 h2=>aZ (by omega)
theorem jY.move {L:aA}:jY H.length hi (List.replicate H.length .dead++L) (H++L):=fun _ _ _ h1 _=>LU h1
def Xe (f:α→VV) (e:Nat) (cH:List α) (lo hi:Nat) (H:aA) (v:VV):Prop :=
 (v = .tree [] .nil∧cH=[])∨∃b g c,lo≤b∧b<hi∧v = .ref b g 0 cH.length c∧cH.length≤c∧aG H b g=some (cH.map f,e,true)
theorem Xe.dB {cH:List α} (h:Xe f e cH lo hi H v) (hk:jY lo hi H H'):Xe f e cH lo hi H' v:=by
 rcases h with h | ⟨b,g,c,h1,h2,h3,h4,h5⟩
 ·exact .inl h
 ·exact .inr ⟨b,g,c,h1,h2,h3,h4,hk _ _ _ h1 h2 h5⟩
theorem Xe.wide {cH:List α} {gF qL:Nat} (h:Xe f e cH lo hi H v) (hl:gF≤lo) (hh:hi≤qL):Xe f e cH gF qL H v:=by
 rcases h with h | ⟨b,g,c,h1,h2,h3⟩
 ·exact .inl h
 ·exact .inr ⟨b,g,c,by omega,by omega,h3⟩
theorem GQ {d b g c:Nat} {xs:List α} {w:Bool} (hp:∀x,bA (f x)=true) (h:aG H b g=some (xs.map f,e,w)) (hc:xs.length≤c):fz (d+2) H (.ref b g 0 xs.length c)=some (aC f xs):=by
 have:bA (.ref b g 0 xs.length c)=false:=rfl
 show PM.fz ((d+1)+1) H _=_
 unfold PM.fz
 simp only[this,h,aLd,if_false]
 rw[if_pos ⟨by simp,hc⟩,aLN,aLu (by simp),mapM_pure (n:=d) (fQ hp)]
 rfl
theorem Xe.fz {d:Nat} {cH:List α} (h:Xe f e cH lo hi H v) (hp:∀x,bA (f x)=true):PM.fz (d+2) H v=some (aC f cH):=by
 rcases h with⟨rfl,rfl⟩ | ⟨b,g,c,h1,h2,rfl,h4,h5⟩
 ·exact PW
 ·exact GQ hp h5 h4
structure CQ (α:Type) where
 b:Nat
 g:Nat
 c:Nat
 xs:List α
def tR (r:CQ α):VV := .ref r.b r.g 0 r.xs.length r.c
structure Zj (f:α→VV) (e lo hi b:Nat) (H:aA) (rs:List (CQ α)):Prop where
 nd:(rs.map (·.b)).Nodup
 row:∀r∈rs,lo≤r.b∧r.b<hi∧r.b≠b∧r.xs.length≤r.c∧aG H r.b r.g=some (r.xs.map f,e,true)
def RG (f:α→VV) (e:Nat) (cH:List (List α)) (lo hi:Nat) (H:aA) (v:VV):Prop :=
 (v = .tree [] .nil∧cH=[])∨∃b g c rs,lo≤b∧b<hi∧v = .ref b g 0 cH.length c∧cH.length≤c∧aG H b g=some (rs.map tR,1,true)∧rs.map (·.xs)=cH∧Zj f e lo hi b H rs
theorem RG.dB {cH:List (List α)} (h:RG f e cH lo hi H v) (hk:jY lo hi H H'):RG f e cH lo hi H' v:=by
 rcases h with h | ⟨b,g,c,rs,h1,h2,h3,h4,h5,h6,h7⟩
 ·exact .inl h
 ·exact .inr ⟨b,g,c,rs,h1,h2,h3,h4,hk _ _ _ h1 h2 h5,h6,h7.nd,fun r hr=>by
   obtain⟨k1,k2,k3,k4,k5⟩:=h7.row r hr
   exact⟨k1,k2,k3,k4,hk _ _ _ k1 k2 k5⟩⟩
theorem RG.wide {cH:List (List α)} {gF qL:Nat} (h:RG f e cH lo hi H v) (hl:gF≤lo) (hh:hi≤qL):RG f e cH gF qL H v:=by
 rcases h with h | ⟨b,g,c,rs,h1,h2,h3,h4,h5,h6,h7⟩
 ·exact .inl h
 ·exact .inr ⟨b,g,c,rs,by omega,by omega,h3,h4,h5,h6,h7.nd,fun r hr=>by
   obtain⟨k1,k2,k3,k4,k5⟩:=h7.row r hr
   exact⟨by omega,by omega,k3,k4,k5⟩⟩
theorem Z0 {d b g c lo hi:Nat} {rs:List (CQ α)} {w:Bool} (hp:∀x,bA (f x)=true) (h:aG H b g=some (rs.map tR,1,w)) (hc:rs.length≤c) (hR:Zj f e lo hi b H rs) :
  fz (d+3) H (.ref b g 0 rs.length c)=some (aC (aC f) (rs.map (·.xs))):=by
 have:bA (.ref b g 0 rs.length c)=false:=rfl
 show PM.fz ((d+2)+1) H _=_
 unfold PM.fz
 simp only[this,h,aLd,if_false]
 rw[if_pos ⟨by simp,hc⟩,aLN,aLu (by simp),mapM_map (f:=tR) (f':=fun r=>aC f r.xs) fun r hr=>GQ hp (hR.row r hr).2.2.2.2 (hR.row r hr).2.2.2.1]
 simp[aC,List.map_map]
theorem RG.fz {d:Nat} {cH:List (List α)} (h:RG f e cH lo hi H v) (hp:∀x,bA (f x)=true):PM.fz (d+3) H v=some (aC (aC f) cH):=by
 rcases h with⟨rfl,rfl⟩ | ⟨b,g,c,rs,h1,h2,rfl,h4,h5,rfl,h7⟩
 ·exact PW
 ·rw[aMi] at h4 ⊢
  exact Z0 hp h5 h4 h7
theorem He {d:Nat} {us IQ:List VV} (h:us.mapM (PM.fz (d+1) H)=some IQ):PM.fz (d+2) H (.agg us)=some (.agg IQ):=by
 have e:PM.fz (d+2) H (.agg us)=if bA (.agg us)=true then some (.agg us) else (us.mapM (PM.fz (d+1) H)).map .agg:=rfl
 rw[e]
 by_cases hq:bA (.agg us)=true
 ·rw[if_pos hq]
  have:us.mapM (PM.fz (d+1) H)=some us:=mapM_pure hq
  rw[this] at h
  cases h
  rfl
 ·rw[if_neg hq,h]
  rfl
end
def I8 (T:VV) (lo hi:Nat) (H:aA) (v:VV):Prop:=∀H',jY lo hi H H'→fz depth H' v=some T
theorem I8.dB {T:VV}:∀ {lo hi H H' v},I8 T lo hi H v→jY lo hi H H'→I8 T lo hi H' v:=fun h hk _ h'=>h _ (hk.trans h')
theorem I8.now {T v:VV} {lo hi:Nat} {H:aA} (h:I8 T lo hi H v):fz depth H v=some T:=h H jY.refl
def CG (cH:List (List ByteArray)) (lo hi:Nat) (H:aA) (v:VV):Prop:=∃c,v = .agg [c]∧RG sV 1 cH lo hi H c
theorem CG.dB {cH:List (List ByteArray)}:∀ {lo hi H H' v},CG cH lo hi H v→jY lo hi H H'→CG cH lo hi H' v:=by
 rintro lo hi H H' v ⟨c,h1,h2⟩ hk
 exact⟨c,h1,h2.dB hk⟩
theorem CG.fz {cH:List (List ByteArray)} {lo hi:Nat} {H:aA} {v:VV} (h:CG cH lo hi H v):PM.fz depth H v=some (chV cH):=by
 obtain⟨c,rfl,h⟩:=h
 refine He (d:=6) ?_
 rw[aLY,h.fz (d:=4) fun _=>rfl]
 rfl
theorem CG.seen {cH:List (List ByteArray)} {lo hi:Nat} {H:aA} {v:VV} (h:CG cH lo hi H v):I8 (chV cH) lo hi H v:=fun _ hk=>(h.dB hk).fz
def SvG (s:vJ) (lo hi:Nat) (H:aA) (v:VV):Prop:=∃a b c m1 m2,v = .agg [a,b,c]∧lo≤m1∧m1≤m2∧m2≤hi∧Xe sV 1 s.b lo m1 H a∧RG sV 1 s.g m1 m2 H b∧Xe sV 1 s.e m2 hi H c
theorem SvG.dB {s:vJ}:∀ {lo hi H H' v},SvG s lo hi H v→jY lo hi H H'→SvG s lo hi H' v:=by
 rintro lo hi H H' v ⟨a,b,c,m1,m2,h1,k1,k2,k3,h2,h3,h4⟩ hk
 exact⟨a,b,c,m1,m2,h1,k1,k2,k3,h2.dB (hk.sub (by omega) (by omega)),h3.dB (hk.sub (by omega) (by omega)),h4.dB (hk.sub (by omega) (by omega))⟩
theorem avU {s:vJ} {l1 h1 l2 h2 l3 h3:Nat} {H:aA} {a b c:VV} (ha:Xe sV 1 s.b l1 h1 H a) (hb:RG sV 1 s.g l2 h2 H b) (hc:Xe sV 1 s.e l3 h3 H c):PM.fz depth H (.agg [a,b,c])=some (vW s):=by
 refine He (d:=6) ?_
 rw[aLY,ha.fz (d:=5) fun _=>rfl]
 rw[aLY,hb.fz (d:=4) fun _=>rfl]
 rw[aLY,hc.fz (d:=5) fun _=>rfl]
 rfl
theorem SvG.fz {s:vJ} {lo hi:Nat} {H:aA} {v:VV} (h:SvG s lo hi H v):PM.fz depth H v=some (vW s):=by
 obtain⟨a,b,c,m1,m2,rfl,k1,k2,k3,h2,h3,h4⟩:=h
 exact avU h2 h3 h4
theorem SvG.seen {s:vJ} {lo hi:Nat} {H:aA} {v:VV} (h:SvG s lo hi H v):I8 (vW s) lo hi H v:=fun _ hk=>(h.dB hk).fz
theorem Xe.seen {cH:List ByteArray} {lo hi:Nat} {H:aA} {v:VV} (h:Xe sV 1 cH lo hi H v):I8 (gM cH) lo hi H v:=fun _ hk=>(h.dB hk).fz (d:=6) fun _=>rfl
end Go.PM
namespace Go.PM
section
variable {α:Type} {f:α→VV} {e:Nat}
structure Rd (f:α→VV) (e:Nat) (xs:List α) (H:aA) (v:VV):Prop where
 len:∀H',H <+: H'→rL v H'=some (VI xs.length)
 get:∀H',H <+: H'→∀(i:Nat) x,xs[i]? = some x→∃p,bK e v (VI i) H'=some p∧∀ag,bH ag e p H'=dP ag e (f x) 0
 cell:aB v=[v]∧bN v=true∧isAny v=false
theorem Rd.pre {xs:List α} {H H':aA} {v:VV} (h:Rd f e xs H v) (hh:H <+: H'):Rd f e xs H' v:=⟨fun H2 h2=>h.len H2 (hh.trans h2),fun H2 h2=>h.get H2 (hh.trans h2),h.cell⟩
theorem Rd.tree {xs:List α} {H:aA} {t:TK} (hs:∀x,(aB (f x)).length=e):Rd f e xs H (.tree (xs.map f) t) :=
 ⟨fun _ _=>eW,fun _ _ i x hx=>⟨_,aI hx (hs x),fun ag=>NP⟩,rfl,rfl,rfl⟩
theorem Rd.row {xs:List α} {H:aA} {b g n c:Nat} {w:Bool} (h:aG H b g=some (xs.map f,e,w)) (hn:n=xs.length):Rd f e xs H (.ref b g 0 n c):=by
 subst hn
 refine⟨fun H' hh=>eK (cL hh h),fun H' hh i x hx => ?_,rfl,rfl,rfl⟩
 have hi:=(aKA.1 hx).1
 have e1:=bB (o:=0) (n:=xs.length) (c:=c) (i:=i) (k := .i64) (cL hh h) hi
 rw[aL9] at e1
 exact⟨_,e1,fun ag=>qC (f:=f) (cL hh h) hx⟩
structure MG (f:α→VV) (e lo hi b g:Nat) (H:aA) (rs:List (CQ α)):Prop where
 out:aG H b g=some (rs.map tR,1,true)
 blo:lo≤b
 bhi:b<hi
 rows:Zj f e lo hi b H rs
variable {lo hi b g:Nat} {H H':aA} {rs:List (CQ α)}
theorem MG.dB (h:MG f e lo hi b g H rs) (hk:jY lo hi H H'):MG f e lo hi b g H' rs :=
 ⟨hk _ _ _ h.blo h.bhi h.out,h.blo,h.bhi,h.rows.nd,fun r hr=>by
  obtain⟨k1,k2,k3,k4,k5⟩:=h.rows.row r hr
  exact⟨k1,k2,k3,k4,hk _ _ _ k1 k2 k5⟩⟩
theorem MG.pre (h:MG f e lo hi b g H rs) (hh:H <+: H'):MG f e lo hi b g H' rs:=h.dB (jY.pre hh)
theorem MG.len {n c:Nat} (h:MG f e lo hi b g H rs):rL (.ref b g 0 n c) H=some (VI n):=eK h.out
theorem MG.addr {i n c:Nat} (h:MG f e lo hi b g H rs) (hi:i<n):bK 1 (.ref b g 0 n c) (VI i) H=some (.ptr b g i 0):=by
 have:=bB (o:=0) (n:=n) (c:=c) (i:=i) (k := .i64) h.out hi
 rwa [aL9] at this
theorem MG.cell {i:Nat} {r:CQ α} (h:MG f e lo hi b g H rs) (hr:rs[i]? = some r):bH false 1 (.ptr b g i 0) H=some (.ref r.b r.g 0 r.xs.length r.c):=by
 rw[qC (f:=tR) h.out hr]
 rfl
theorem MG.row {i:Nat} {r:CQ α} (h:MG f e lo hi b g H rs) (hr:rs[i]? = some r):aG H r.b r.g=some (r.xs.map f,e,true):=(h.rows.row r (aLv hr)).2.2.2.2
theorem MG.at {i j n c:Nat} {r:CQ α} (h:MG f e lo hi b g H rs) (hr:rs[i]? = some r) (hj:j<n):bK e (.ref r.b r.g 0 n c) (VI j) H=some (.ptr r.b r.g j 0):=by
 have:=bB (o:=0) (n:=n) (c:=c) (i:=j) (k := .i64) (h.row hr) hj
 rwa [aL9] at this
theorem MG.get {i j:Nat} {ag:Bool} {r:CQ α} {x:α} (h:MG f e lo hi b g H rs) (hr:rs[i]? = some r) (hx:r.xs[j]? = some x):bH ag e (.ptr r.b r.g j 0) H=dP ag e (f x) 0:=qC (f:=f) (h.row hr) hx
theorem MG.inj {i j:Nat} {r s:CQ α} (h:MG f e lo hi b g H rs) (hr:rs[i]? = some r) (hs:rs[j]? = some s) (he:r.b=s.b):i=j:=by
 have h1:(rs.map (·.b))[i]? = some r.b:=by simp[hr]
 have h2:(rs.map (·.b))[j]? = some r.b:=by simp[hs,he]
 exact amV h.rows.nd h1 h2
theorem Pf {β γ:Type} {F:β→γ} {l:List β} {i:Nat} {x y:β} (hx:l[i]? = some x) (he:F y=F x):(l.set i y).map F=l.map F:=by
 apply List.ext_getElem?
 intro j
 rw[List.getElem?_map,List.getElem?_map,aNR]
 split
 ·rename_i Qn
  subst Qn
  split
  ·rw[hx,aLW,aLW,he]
  ·rename_i hn
   rw[(List.getElem?_eq_none (by omega))] at hx
   cases hx
 ·rfl
theorem MG.set {i:Nat} {r:CQ α} {ys:List α} (h:MG f e lo hi b g H rs) (hr:rs[i]? = some r) (hl:ys.length=r.xs.length):MG f e lo hi b g (H.set r.b (.row r.g (ys.map f) e true)) (rs.set i { r with xs:=ys }):=by
 have Mm:=h.rows.row r (aLv hr)
 refine⟨?_,h.blo,h.bhi,?_,fun s hs => ?_⟩
 ·rw[Pf hr (by simp[tR,hl])]
  exact aZ Mm.2.2.1 h.out
 ·rw[Pf (F:=fun r:CQ α=>r.b) (y:={ r with xs:=ys }) hr rfl]
  exact h.rows.nd
 ·obtain⟨j,hj⟩:=aMw hs
  rw[aNR] at hj
  split at hj
  ·rename_i Qn
   split at hj
   ·cases hj
    exact⟨Mm.1,Mm.2.1,Mm.2.2.1,by rw[hl];exact Mm.2.2.2.1,bQ Mm.2.2.2.2⟩
   ·cases hj
  ·rename_i Qn
   have hsm:=h.rows.row s (aLv hj)
   exact⟨hsm.1,hsm.2.1,hsm.2.2.1,hsm.2.2.2.1,aZ (fun he=>Qn (h.inj hr hj he)) hsm.2.2.2.2⟩
theorem MG.put {i j gF:Nat} {r:CQ α} {y:α} (h:MG f e lo hi b g H rs) (hr:rs[i]? = some r) (hj:j<r.xs.length) (dS:gF≤lo) (hv:(aB (f y)).length=e) (hs:(aB (f y)).all bN=true) :
  bL gF e (.ptr r.b r.g j 0) (f y) H=some (H.set r.b (.row r.g ((r.xs.set j y).map f) e true)) :=
 dQ (f:=f) (h.row hr) hj (aKC dS (h.rows.row r (aLv hr)).1) hv hs
theorem MG.lt {i:Nat} {r:CQ α} (h:MG f e lo hi b g H rs) (hr:rs[i]? = some r):lo≤r.b∧r.b<hi∧r.b<H.length:=⟨(h.rows.row r (aLv hr)).1,(h.rows.row r (aLv hr)).2.1,iT (h.row hr)⟩
theorem MG.cH {c:Nat} (h:MG f e lo hi b g H rs) (hc:rs.length≤c):RG f e (rs.map (·.xs)) lo hi H (.ref b g 0 rs.length c) := .inr ⟨b,g,c,rs,h.blo,h.bhi,by rw[aMi],by rw[aMi];exact hc,h.out,rfl,h.rows⟩
theorem MG.fz {d c:Nat} (h:MG f e lo hi b g H rs) (hc:rs.length≤c) (hp:∀x,bA (f x)=true):PM.fz (d+3) H (.ref b g 0 rs.length c)=some (aC (aC f) (rs.map (·.xs))):=Z0 hp h.out hc h.rows
theorem MG.wide {gF qL:Nat} (h:MG f e lo hi b g H rs) (hl:gF≤lo) (hh:hi≤qL):MG f e gF qL b g H rs:=⟨h.out,by have:=h.blo;omega,by have:=h.bhi;omega,h.rows.nd,fun r hr=>by
 obtain⟨k1,k2,k3,k4,k5⟩:=h.rows.row r hr
 exact⟨by omega,by omega,k3,k4,k5⟩⟩
end
theorem dT:type_of% (aMh @uL<|aMh @rD<|aMh @pJ.eq_1<|aMh @sW.eq_1<|aMh @sW.eq_2<|aMh @Fk.eq_1<|aMh @Fk.eq_2<|aMh @AX.eq_1<|aMh @AX.eq_2<|aMh @I4<|aMh @D1<|aMh @GU<|aMh @Gw<|aMh @aNQ.{0}<|aMh @aLo.{0}<|aMh @List.take_nil.{0}<|aMh @aLN.{0}<|aMh @aMm.{0}<|aMh @List.drop_nil.{0}<|aMh @aLJ.{0} <| @aKB):=aMh @uL<|aMh @rD<|aMh @pJ.eq_1<|aMh @sW.eq_1<|aMh @sW.eq_2<|aMh @Fk.eq_1<|aMh @Fk.eq_2<|aMh @AX.eq_1<|aMh @AX.eq_2<|aMh @I4<|aMh @D1<|aMh @GU<|aMh @Gw<|aMh @aNQ.{0}<|aMh @aLo.{0}<|aMh @List.take_nil.{0}<|aMh @aLN.{0}<|aMh @aMm.{0}<|aMh @List.drop_nil.{0}<|aMh @aLJ.{0} <| @aKB
def Q3 (P:Nat→Nat→aA→VV→Prop) (H:aA) (r:VV) (H':aA):Prop:=H <+: H'∧P H.length H'.length H' r
theorem rK {F lo:Nat} {args:List VV} {P:Nat→Nat→aA→VV→Prop} {H:aA} {K:VV→aA→Prop} (CF:FH.contains F=true) (h:jH F args lo H (Q3 P H)) (hk:∀r L,P H.length (H++L).length (H++L) r→K r (H++L)):dI F args lo H K:=by
 refine gC CF (h.mono ?_)
 rintro r H' ⟨⟨L,rfl⟩,hP⟩
 exact hk r L hP
end Go.PM
namespace Go.PM
open Go.Lib
abbrev cell0:fC := .row 0 [.agg [VB false,.tree [] .nil,.tree [] .nil]] 3 true
def dM (qs:List Rat):Rat:=qs.foldl (· + ·) 0
theorem DO {qs:List Rat} {i:Nat} {q:Rat} (h:qs[i]? = some q):dM (qs.take (i+1))=dM (qs.take i)+q:=by
 rw[sH h,dM,aNM];rfl
theorem Rr {B:Nat}:∀ {qs:List Rat},(∀q∈qs,aK q≤B)→∀a:Rat,aK (qs.foldl (· + ·) a)≤qs.length*(B+1)+aK a
 | [],_,a=>by simp
 |
  q::qs,h,a=>by
  have h1:=Rr (fun x hx=>h x (aLa _ hx)) (a+q)
  have h2:=vE a q
  have h3:=h q aLb
  rw[aNS,aKL,Nat.succ_mul]
  omega
theorem Bc {B:Nat} {qs:List Rat} (h:∀q∈qs,aK q≤B) (i:Nat):aK (dM (qs.take i))≤qs.length*(B+1)+1:=by
 have h1:=Rr (qs:=qs.take i) (fun q hq=>h q (aLy hq)) 0
 have h2:(qs.take i).length*(B+1)≤qs.length*(B+1):=aK2 _ (by rw[aMa];omega)
 rw[rZ] at h1
 unfold dM
 omega
set_option maxHeartbeats 1000000 in
abbrev rz:VV := .agg [VB false,.tree [] .nil,.tree [] .nil]
theorem lR {H H1:aA} {b:Nat} {x:fC} (h:H <+: H1) (hb:H.length≤b):H <+: H1.set b x:=by
 obtain⟨L,rfl⟩:=h
 rw[List.set_append_right _ _ hb]
 exact aMv _ _
theorem FT {H H1 L:aA} (h:H <+: H1):H <+: H1++L:=h.trans (aMv _ _)
theorem JK {lo:Nat} {H:aA} {q:Rat} (h:lo≤H.length):bL lo 3 (.ptr H.length 0 0 0) (aF q) (H++[cell0])=some (H++[.row 0 [aF q] 3 true]):=by
 rw[bS (g:=0) (e:=3) (j:=0) jD (by exact aNT) h rfl rfl,Ou]
 rfl
theorem Y5 {H K:aA} {q:Rat}:bH true 3 (.ptr H.length 0 0 0) (H ++ .row 0 [aF q] 3 true::K)=some (aF q):=by
 rw[bJ,Cd,aT]
 exact bF _
theorem Pk {lo:Nat} {H:aA} {v:VV} (qs:List Rat) {B:Nat} (hv:Rd aF 3 qs H v) (dS:lo≤H.length) (hb:∀q∈qs,aK q≤B) (hk:qs.length*(B+1)+1≤1099511627776) (hB:B≤1099511627776) (hn:qs.length≤1000000000) :
  jH 70 [v] lo H (Q3 (fun _ _ _ r=>r=aF (dM qs)) H):=by
 refine jH.walk ⟨true,false⟩ YM (aMp rfl) ?_
 have e1:TC 64 [VI 0] (aF 0):=kY 0 (by decide) (by decide)
 have e2:=hv.len (H++[cell0,.row 0 [aF 0] 3 true]) (aMv _ _)
 have s0:bL lo 3 (.ptr (H.length+1) 0 0 0) (aF 0) (H++[cell0,cell0])=some (H++[cell0,.row 0 [aF 0] 3 true]):=by
  have:=JK (lo:=lo) (H:=H++[cell0]) (q:=0) (by rw[aKM];omega)
  simpa only[aKM,aKL,aMe,aL9,aMn,List.cons_append,aLT] using this
 simp only[UE,OD,e1,e2,s0,aKM,aKL,aMe,aMn,List.cons_append,aLT,dT,VX,Nat.reduceEqDiff,Nat.reduceAdd,Nat.reduceLeDiff,Nat.reduceLT,Nat.reduceSub]
 refine aP (fun(i:Nat) ρ H1=>i≤qs.length∧H <+: H1∧aG H1 H.length 0=some ([rz],3,true)∧aG H1 (H.length+1) 0=some ([aF (dM (qs.take i))],3,true)∧ρ 2 = .ptr H.length 0 0 0∧ρ 3 = .ptr (H.length+1) 0 0 0∧ρ 7=v∧ρ 8=VI qs.length∧ρ 9=VI i) (fun i=>qs.length-i) 0 ⟨aK5 _,aMv _ _,Cd.trans aT,NO.trans (dZ.trans aT),rfl,rfl,rfl,rfl,rfl⟩ ?_
 rintro i ρ H1 ⟨hi,hp,Kp,T4,g2,g3,g7,g8,g9⟩
 have CU:=iT T4
 by_cases bZ:(i:Int)<(qs.length:Int)
 ·obtain⟨q,hq⟩:∃q,qs[i]? = some q:=⟨_,aKI (by omega)⟩
  obtain⟨p,a1,a2⟩:=hv.get H1 hp i q hq
  have a2':=(a2 true).trans (bF _)
  have wi:IntKind.i64.wrap ((i:Int)+1)=((i+1:Nat):Int):=wrapN (i+1) (by omega) (by omega)
  have h1:=Bc hb i
  have h2:=hb q (aLv hq)
  have h3:(i+1)*(B+1)≤qs.length*(B+1):=aK2 _ (by omega)
  have e3:=nQ (dM (qs.take i)) q (by omega) (by omega)
  rw[←DO hq] at e3
  have s1:=JK (lo:=lo) (H:=H1) (q:=q) (by omega)
  have s2:=Y5 (H:=H1) (K:=[]) (q:=q)
  have s3:bH true 3 (.ptr (H.length+1) 0 0 0) (H1++[.row 0 [aF q] 3 true])=some (aF (dM (qs.take i))):=by
   rw[bJ,dU T4]
   exact bF _
  have s4:=bS (lo:=lo) (v:=aF (dM (qs.take (i+1)))) (j:=0) (dU (L:=[.row 0 [aF q] 3 true]) T4) (by exact aNT) (by omega) rfl rfl
  rw[aMf] at s4
  simp only[F1,g2,g3,g7,g8,g9,bZ,a1,a2',e3,s1,s2,s3,s4,wi,bF,dT,VX,Nat.reduceEqDiff,Nat.reduceAdd,Nat.reduceLeDiff,Nat.reduceLT,Nat.reduceSub]
  exact⟨i+1,by omega,by omega,lR (FT hp) (by omega),aZ (by omega) (dU Kp),bQ (dU T4),by (repeat' apply aMh)<;>first | rfl | trivial | assumption⟩
 ·have mC:i=qs.length:=by omega
  subst mC
  rw[aLO] at T4
  have s3:bH true 3 (.ptr (H.length+1) 0 0 0) H1=some (aF (dM qs)):=by
   rw[bJ,T4]
   exact bF _
  have s4:=bS (lo:=lo) (v:=aF (dM qs)) (j:=0) Kp (by exact aNT) dS rfl rfl
  rw[aMf] at s4
  have s5:bH true 3 (.ptr H.length 0 0 0) (H1.set H.length (.row 0 [aF (dM qs)] 3 true))=some (aF (dM qs)):=by
   rw[bJ,bQ Kp]
   exact bF _
  simp only[F1,g2,g3,g8,g9,bZ,s3,s4,s5,dT,VX,Nat.reduceEqDiff,Nat.reduceAdd,Nat.reduceLeDiff,Nat.reduceLT,Nat.reduceSub]
  exact⟨lR hp (aKB _),rfl⟩
theorem RA {q:Rat}:jL q<0↔q<0:=by
 have e:q.num<0↔q<0:=by rw[←Int.not_le,Rat.num_nonneg];constructor<;>intro h<;>grind
 rw[←e]
 rcases Int.lt_trichotomy q.num 0 with h | h | h
 ·rw[oX h];omega
 ·rw[lC h];omega
 ·rw[pE h];omega
theorem A8 (q:Rat):TC 67 [aF q] (VB (decide (q<0))):=by
 refine TC.walk ⟨true,false⟩ Od rfl (aMp rfl) (by simp[aO,eR]) rfl ?_
 have e1:=dJ q
 by_cases h:jL q<0
 ·rw[decide_eq_true (RA.1 h)]
  simp only[EB,Bg,e1,h,aH,cF,bF,aV,aW,aR,fZ,Nat.reduceLeDiff,Nat.reduceLT,Nat.reduceSub,lU,bT,cK,fI,kA,nR,bne_iff_ne,ne_eq,not_false_eq_true,not_true_eq_false,VX,Nat.reduceEqDiff,Nat.reduceAdd]
  exact aL rfl
 ·rw[decide_eq_false (mt RA.2 h)]
  simp only[EB,Bg,e1,h,aH,cF,bF,aV,aW,aR,fZ,Nat.reduceLeDiff,Nat.reduceLT,Nat.reduceSub,lU,bT,cK,fI,kA,nR,bne_iff_ne,ne_eq,not_false_eq_true,not_true_eq_false,VX,Nat.reduceEqDiff,Nat.reduceAdd]
  exact aL rfl
theorem EA (xs:List Rat) (g:Nat) (p:Rat→Bool) (hg:∀x∈xs,TC g [aF x] (VB (p x))) (hn:xs.length≤1000000000) :
  ∃k:Int,(0≤k↔xs.any p=true)∧TC 141 [aC aF xs,.xU g []] (VI k):=by
 refine⟨match xs.findIdx? p with | some i=>i | none => -1,?_,?_⟩
 ·cases h:xs.findIdx? p with
  |
   none =>
   rw[aNU] at h
   simp only[List.any_eq_true]
   constructor
   ·intro h';omega
   ·rintro⟨x,hx,hp⟩;rw[h x hx] at hp;cases hp
  |
   some i =>
   simp only[List.any_eq_true]
   obtain⟨hi,hp,_⟩:=aNV.1 h
   exact⟨fun _=>⟨_,aKO hi,hp⟩,fun _=>by omega⟩
 ·refine TC.walk ⟨true,false⟩ qY rfl (aMp rfl) (by simp[aO,gR];rfl) rfl ?_
  simp only[kH,jJ,VX,Nat.reduceEqDiff,Nat.reduceAdd]
  refine aP (fun(i:Nat) ρ H=>i≤xs.length∧H=[]∧(∀j x,j<i→xs[j]? = some x→p x=false)∧ρ 0=aC aF xs∧ρ 1 = .xU g []∧ρ 7=VI xs.length∧ρ 8=VI i) (fun i=>xs.length-i) 0 ⟨aK5 _,rfl,fun j x h=>by omega,rfl,rfl,rfl,rfl⟩ ?_
  rintro i ρ H ⟨hi,rfl,jP,h0,h1,h7,h8⟩
  by_cases bZ:(i:Int)<(xs.length:Int)
  ·obtain⟨x,hx⟩:∃x,xs[i]? = some x:=⟨_,aKI (by omega)⟩
   have e1:=aI (f:=aF) (t := .op) (H:=[]) (size:=3) (k := .i64) hx rfl
   have wi:IntKind.i64.wrap ((i:Int)+1)=((i+1:Nat):Int):=wrapN (i+1) (by omega) (by omega)
   have e2:=hg x (aLv hx)
   cases hp:p x with
   |
    false =>
    rw[hp] at e2
    simp only[cV,h0,h1,h7,h8,bZ,e1,e2,wi,D0,aLJ,aH,cF,bF,aV,aW,aR,VX,Nat.reduceEqDiff,Nat.reduceAdd]
    refine⟨i+1,by omega,by omega,fun j y hj hy => ?_,by (repeat' apply aMh)<;>first | rfl | trivial⟩
    rcases Nat.lt_or_ge j i with Ed | Ed
    ·exact jP j y Ed hy
    ·have:j=i:=by omega
     subst this
     rw[hx] at hy
     injection hy with hy
     exact hy▸hp
   |
    true =>
    rw[hp] at e2
    simp only[cV,h0,h1,h7,h8,bZ,e1,e2,wi,D0,aLJ,aH,cF,bF,aV,aW,aR,VX,Nat.reduceEqDiff,Nat.reduceAdd]
    have:xs.findIdx? p=some i:=by
     rw[aNV]
     obtain⟨bI,Hl⟩:=aKA.1 hx
     exact⟨bI,by rw[Hl];exact hp,fun j hj=>by
      have:=jP j _ hj (aKI (by omega))
      simp[this]⟩
    rw[this]
    exact aL rfl
  ·simp only[cV,h0,h1,h7,h8,bZ,VX,Nat.reduceEqDiff,Nat.reduceAdd]
   have:xs.findIdx? p=none:=by
    rw[aNU]
    intro x hx
    obtain⟨j,hj⟩:=aMw hx
    exact jP j x (by have:=(aKA.1 hj).1;omega) hj
   rw[this]
   exact aL rfl
theorem mJ (xs:List Rat) (g:Nat) (p:Rat→Bool) (hg:∀x∈xs,TC g [aF x] (VB (p x))) (hn:xs.length≤1000000000):TC 66 [aC aF xs,.xU g []] (VB (xs.any p)):=by
 refine TC.walk ⟨true,false⟩ oT rfl (aMp rfl) (by simp[aO,gR];rfl) rfl ?_
 obtain⟨k,hk,hc⟩:=EA xs g p hg hn
 have e:decide (0≤k)=xs.any p:=by
  cases h:xs.any p with
  | true=>rw[decide_eq_true (hk.2 h)]
  | false=>rw[decide_eq_false fun h'=>by rw[hk.1 h'] at h;cases h]
 simp only[iU,iM,hc,e,VX,Nat.reduceEqDiff,Nat.reduceAdd]
 exact aL rfl
def jB (qs:List Rat):Bool := !(qs.any fun q=>decide (q<0))&&decide (dM qs=1)
def mU (xs:List ByteArray):Option (List Rat):=match tB xs with
 | some qs=>if jB qs=true then some qs else none
 | none=>none
theorem QF {xs:List ByteArray} {qs:List Rat} (h:mU xs=some qs):tB xs=some qs∧jB qs=true:=by
 unfold mU at h
 split at h
 ·rename_i ps hp
  split at h
  ·rename_i hw
   cases h
   exact⟨hp,hw⟩
  ·cases h
 ·cases h
theorem N9 {n:Nat} (h:n≤300):n*(665+1)+1≤1099511627776:=by omega
theorem FD {xs:List ByteArray} {qs:List Rat} (h:tB xs=some qs):mU xs=if jB qs=true then some qs else none:=by unfold mU;rw[h]
theorem Mh {xs:List ByteArray} (h:tB xs=none):mU xs=none:=by unfold mU;rw[h]
theorem rC:QX none = .eJ [aC aF [],VB false]:=rfl
theorem xZ (qs:List Rat):QX (some qs) = .eJ [aC aF qs,VB true]:=rfl
set_option maxHeartbeats 1000000 in
theorem KE (xs:List ByteArray) (hn:xs.length≤1000000000) (hs:∀s∈xs,s.size≤1000000000):TC 98 [gM xs] (QX (mU xs)):=by
 refine TC.walk ⟨true,false⟩ KG rfl (aMp rfl) (by simp[aO,kQ]) (Se _) ?_
 have e1:=Fs xs hn hs
 cases h:tB xs with
 |
  none =>
  rw[h,rC] at e1
  rw[Mh h,rC]
  simp only[rP,oB,e1,VX,Nat.reduceEqDiff,Nat.reduceAdd]
  exact IB
 |
  some qs =>
  rw[h,xZ] at e1
  rw[FD h]
  obtain⟨hb,hl,_⟩:=nD h
  have e2:=mJ qs 67 (fun q=>decide (q<0)) (fun q _=>A8 q) (by omega)
  have hm:qs.length*666≤199800:=by omega
  have e3:=fun(K:aA)=>Pk (lo:=0) (H:=K) (v:=aC aF qs) qs (B:=665) (Rd.tree dC) (aK5 _) hb (N9 hl) (by decide) (by omega)
  have hsb:=Bc hb qs.length
  rw[aLO] at hsb
  have e4:=Kz (dM qs) (by omega)
  cases An:qs.any (fun q=>decide (q<0)) with
  |
   true =>
   rw[An] at e2
   have hw:¬jB qs=true:=by unfold jB;rw[An];simp
   rw[if_neg hw,rC]
   simp only[rP,oB,e1,e2,VX,Nat.reduceEqDiff,Nat.reduceAdd]
   exact IB
  |
   false =>
   rw[An] at e2
   by_cases abZ:dM qs=1
   ·rw[decide_eq_true abZ] at e4
    have hw:jB qs=true:=by unfold jB;rw[An,decide_eq_true abZ];rfl
    rw[if_pos hw,xZ]
    simp only[rP,oB,e1,e2,VX,Nat.reduceEqDiff,Nat.reduceAdd]
    refine rK rfl (e3 _) fun r L hr => ?_
    subst hr
    simp only[e4,VX,Nat.reduceEqDiff,Nat.reduceAdd]
    exact aL (acC (gR _) rfl)
   ·rw[decide_eq_false abZ] at e4
    have hw:¬jB qs=true:=by unfold jB;rw[An,decide_eq_false abZ];simp
    rw[if_neg hw,rC]
    simp only[rP,oB,e1,e2,VX,Nat.reduceEqDiff,Nat.reduceAdd]
    refine rK rfl (e3 _) fun r L hr => ?_
    subst hr
    simp only[e4,VX,Nat.reduceEqDiff,Nat.reduceAdd]
    exact IB
end Go.PM
namespace Go.PM
open Go.Lib
def UM (qs:List Rat) (n:Nat):Nat→Rat
 | 0=>0
 | i+1=>UM qs n i+qs.getD i 0*(i:Rat)^n
theorem WO {i:Nat} (h:i≤300) (n:Nat) (hn:n≤10):aK (((i:Int):Rat))≤9∧aK (((i:Int):Rat)^n)≤91:=by
 have h1:=G4 (i:Int)
 have h2:bl (i:Int).natAbs≤9:=by rw[Int.natAbs_natCast];exact zO (by omega)
 have h3:aK (((i:Int):Rat))≤9:=by omega
 have h4:=Ll (((i:Int):Rat)) n
 have h5:n*aK (((i:Int):Rat))≤10*9:=Nat.mul_le_mul hn h3
 exact⟨h3,by omega⟩
theorem zG {qs:List Rat} {n:Nat} (hb:∀q∈qs,aK q≤665) (hl:qs.length≤300) (hn:n≤10):∀i,i≤qs.length→aK (UM qs n i)≤1000*i+1
 | 0,_=>by rw[UM,rZ];omega
 |
  i+1,hi=>by
  have h1:=zG hb hl hn i (by omega)
  have hq:qs[i]? = some qs[i]:=aKI (by omega)
  have h2:=hb _ (aKO (by omega:i<qs.length))
  have h3:=(WO (i:=i) (by omega) n hn).2
  have h4:=gB qs[i] (((i:Int):Rat)^n)
  have h5:=vE (UM qs n i) (qs[i]*((i:Int):Rat)^n)
  have e:((i:Nat):Rat)=((i:Int):Rat):=rfl
  rw[UM,aKy,hq,aNP,e]
  omega
end Go.PM
namespace Go.PM
def Cx:aE:=(LS [LO 10 (.bin .lss (LT 9) (LT 8))] (.seq (.cond (LT 10) .skip (.exit 0)) (.seq (.block 1 (LS [LM 11 9,LM 4 11] (.cU [LM 12 3,LM 13 4,LO 14 (.call 64 [(LI 0)]),LO 15 (.lit [(.bool false),(.slice none 0 0),(.slice none 0 0)] 1 [(0,(LT 14))]),LM 16 0,LO 17 (.call 162 [(LT 15),(LT 16)]),LO 18 (.iaddr 1 (LT 12) (LT 13)),LN (.store 1 (LT 18) (LT 17))]))) (.cU [LO 19 (.bin .add (LT 9) (LI 1)),LM 9 19]))))
def JV:aE:=(LS [LO 2 (.mv (.const (.slice none 0 0)))] (LS [LM 5 0,LO 6 (.make [(.slice none 0 0)] 24 (LT 5) (LT 5)),LM 3 6] (.seq (LS [LM 7 3,LO 8 (.len (LT 7)),LO 9 (.mv (LI 0))] (.block 0 (.loop Cx))) (LS [LM 20 3,LM 2 20] .ret))))
def OH:aU:=⟨21,[(.tmp 2)],JV⟩
theorem TF:fT 99=some OH:=by kernel_rfl
def CL:aE:=(.seq (LS [LM 21 8,LM 22 6,LO 23 (.bin .lss (LT 21) (LT 22)),LM 24 23,LY 24 25 (.mv (LT 0)),LY 24 26 (.mv (LT 8)),LY 24 27 (.iaddr 1 (LT 25) (LT 26)),LY 24 28 (LL 27),LY 24 29 (.mv (LT 7)),LY 24 30 (.iaddr 3 (LT 28) (LT 29)),LY 24 31 (LK 30),LY 24 32 (.call 68 [(LT 31)]),LY 24 33 (.bin .eql (LT 32) (LI 0)),LO 34 (.pick (LT 24) (LT 33) LF)] (.cond (LT 34) .skip (.exit 2))) (.block 3 (.cU [LM 35 8,LO 36 (.bin .add (LT 35) (LI 1)),LM 8 36])))
def CN:aE:=(.seq (LS [LM 100 11,LM 101 6,LO 102 (.bin .lss (LT 100) (LT 101))] (.cond (LT 102) .skip (.exit 6))) (.seq (.block 7 (.cU [LM 105 0,LM 106 9,LO 107 (.iaddr 1 (LT 105) (LT 106)),LO 108 (LL 107),LM 109 11,LM 110 0,LM 111 9,LO 112 (.iaddr 1 (LT 110) (LT 111)),LO 113 (LL 112),LM 114 11,LO 115 (.iaddr 3 (LT 113) (LT 114)),LO 116 (LK 115),LO 117 (LK 10),LM 118 0,LM 119 7,LO 120 (.iaddr 1 (LT 118) (LT 119)),LO 121 (LL 120),LM 122 11,LO 123 (.iaddr 3 (LT 121) (LT 122)),LO 124 (LK 123),LQ 125 (.call 132 [(LT 117),(LT 124)]),LQ 126 (.call 128 [(LT 116),(LT 125)]),LO 127 (.iaddr 3 (LT 108) (LT 109)),LN (.store 3 (LT 127) (LT 126))])) (.cU [LM 103 11,LO 104 (.bin .add (LT 103) (LI 1)),LM 11 104])))
def zA:aE:=(.seq (LS [LM 70 9,LM 71 6,LO 72 (.bin .lss (LT 70) (LT 71))] (.cond (LT 72) .skip (.exit 4))) (.seq (.block 5 (.seq (LS [LM 75 0,LM 76 9,LO 77 (.iaddr 1 (LT 75) (LT 76)),LO 78 (LL 77),LM 79 7,LO 80 (.iaddr 3 (LT 78) (LT 79)),LO 81 (LK 80),LO 82 (.call 68 [(LT 81)]),LO 83 (.bin .eql (LT 82) (LI 0))] (.cond (LT 83) (.exit 5) .skip)) (LS [LM 84 0,LM 85 9,LO 86 (.iaddr 1 (LT 84) (LT 85)),LO 87 (LL 86),LM 88 7,LO 89 (.iaddr 3 (LT 87) (LT 88)),LO 90 (LK 89),LM 91 0,LM 92 7,LO 93 (.iaddr 1 (LT 91) (LT 92)),LO 94 (LL 93),LM 95 7,LO 96 (.iaddr 3 (LT 94) (LT 95)),LO 97 (LK 96),LQ 98 (.call 129 [(LT 90),(LT 97)]),LQ 10 (.new [(.bool false),(.slice none 0 0),(.slice none 0 0)]),LN (.store 3 (LT 10) (LT 98))] (.seq (LS [LM 99 7,LM 11 99] (.block 6 (.loop CN))) (.cU [LM 128 1,LM 129 9,LM 130 1,LM 131 9,LO 132 (.iaddr 3 (LT 130) (LT 131)),LO 133 (LK 132),LO 134 (LK 10),LM 135 1,LM 136 7,LO 137 (.iaddr 3 (LT 135) (LT 136)),LO 138 (LK 137),LQ 139 (.call 132 [(LT 134),(LT 138)]),LQ 140 (.call 128 [(LT 133),(LT 139)]),LO 141 (.iaddr 3 (LT 128) (LT 129)),LN (.store 3 (LT 141) (LT 140))]))))) (.cU [LM 73 9,LO 74 (.bin .add (LT 73) (LI 1)),LM 9 74])))
def CA:aE:=(LS [LO 18 (.bin .lss (LT 17) (LT 16))] (.seq (.cond (LT 18) .skip (.exit 0)) (.seq (.block 1 (LS [LM 19 17,LM 7 19] (LS [LM 20 7,LM 8 20] (.seq (.block 2 (.loop CL)) (.seq (LS [LM 37 8,LM 38 6,LO 39 (.bin .eql (LT 37) (LT 38))] (.cond (LT 39) (LS [LO 4 (.mv (.const (.slice none 0 0))),LO 5 (.mv LF)] .ret) .skip)) (LS [LM 40 0,LM 41 7,LM 42 0,LM 43 8,LM 44 1,LM 45 7,LM 46 1,LM 47 8,LM 48 0,LM 49 8,LO 50 (.iaddr 1 (LT 48) (LT 49)),LO 51 (LL 50),LM 52 0,LM 53 7,LO 54 (.iaddr 1 (LT 52) (LT 53)),LO 55 (LL 54),LM 56 1,LM 57 8,LO 58 (.iaddr 3 (LT 56) (LT 57)),LO 59 (LK 58),LM 60 1,LM 61 7,LO 62 (.iaddr 3 (LT 60) (LT 61)),LO 63 (LK 62),LO 64 (.iaddr 1 (LT 40) (LT 41)),LN (.store 1 (LT 64) (LT 51)),LO 65 (.iaddr 1 (LT 42) (LT 43)),LN (.store 1 (LT 65) (LT 55)),LO 66 (.iaddr 3 (LT 44) (LT 45)),LN (.store 3 (LT 66) (LT 59)),LO 67 (.iaddr 3 (LT 46) (LT 47)),LN (.store 3 (LT 67) (LT 63))] (LS [LM 68 7,LO 69 (.bin .add (LT 68) (LI 1)),LM 9 69] (.block 4 (.loop zA))))))))) (.cU [LO 142 (.bin .add (LT 17) (LI 1)),LM 17 142]))))
def CJ:aE:=(.seq (LS [LM 151 13,LM 152 6,LO 153 (.bin .lss (LT 151) (LT 152))] (.cond (LT 153) .skip (.exit 10))) (.seq (.block 11 (.cU [LM 156 1,LM 157 12,LM 158 1,LM 159 12,LO 160 (.iaddr 3 (LT 158) (LT 159)),LO 161 (LK 160),LM 162 0,LM 163 12,LO 164 (.iaddr 1 (LT 162) (LT 163)),LO 165 (LL 164),LM 166 13,LO 167 (.iaddr 3 (LT 165) (LT 166)),LO 168 (LK 167),LM 169 1,LM 170 13,LO 171 (.iaddr 3 (LT 169) (LT 170)),LO 172 (LK 171),LQ 173 (.call 132 [(LT 168),(LT 172)]),LQ 174 (.call 128 [(LT 161),(LT 173)]),LO 175 (.iaddr 3 (LT 156) (LT 157)),LN (.store 3 (LT 175) (LT 174))])) (.cU [LM 154 13,LO 155 (.bin .add (LT 154) (LI 1)),LM 13 155])))
def CS:aE:=(.seq (LS [LM 145 12,LO 146 (.bin .geq (LT 145) (LI 0))] (.cond (LT 146) .skip (.exit 8))) (.seq (.block 9 (.seq (LS [LM 149 12,LO 150 (.bin .add (LT 149) (LI 1)),LM 13 150] (.block 10 (.loop CJ))) (.cU [LM 176 1,LM 177 12,LM 178 1,LM 179 12,LO 180 (.iaddr 3 (LT 178) (LT 179)),LO 181 (LK 180),LM 182 0,LM 183 12,LO 184 (.iaddr 1 (LT 182) (LT 183)),LO 185 (LL 184),LM 186 12,LO 187 (.iaddr 3 (LT 185) (LT 186)),LO 188 (LK 187),LQ 189 (.call 129 [(LT 181),(LT 188)]),LO 190 (.iaddr 3 (LT 176) (LT 177)),LN (.store 3 (LT 190) (LT 189))]))) (.cU [LM 147 12,LO 148 (.bin .sub (LT 147) (LI 1)),LM 12 148])))
def Jh:aE:=(LS [LO 4 (.mv (.const (.slice none 0 0))),LO 5 (.mv LF)] (LS [LM 14 0,LO 15 (.len (LT 14)),LM 6 15] (.seq (LS [LM 16 6,LO 17 (.mv (LI 0))] (.block 0 (.loop CA))) (.seq (LS [LM 143 6,LO 144 (.bin .sub (LT 143) (LI 1)),LM 12 144] (.block 8 (.loop CS))) (LS [LM 191 1,LM 4 191,LO 5 (.mv LG)] .ret)))))
def OV:aU:=⟨192,[(.tmp 4),(.tmp 5)],Jh⟩
theorem Ti:fT 118=some OV:=by kernel_rfl
end Go.PM
namespace Go.PM
open Go.Lib
theorem QU (x:List Rat):(aB (aC aF x)).length=1:=rfl
theorem Jb (m:List (List Rat)):bA (aC (aC aF) m)=true:=mO QU gR
theorem asD (m:List (List Rat)):hJ (aC (aC aF) m)=true:=zY QU GF fun _=>rfl
end Go.PM
namespace Go.PM
theorem S6 (n:Nat) (h:n<18446744073709551616):dK .and (.int .u64 (n:Int)) (.int .u64 4294967295)=some (.int .u64 ((n % 4294967296:Nat):Int)):=by
 simp only[dK,if_true]
 have h1:(BitVec.ofInt IntKind.u64.bits (n:Int) &&& BitVec.ofInt IntKind.u64.bits 4294967295).toNat=n % 4294967296:=by
  rw[BitVec.toNat_and]
  have e1:(BitVec.ofInt IntKind.u64.bits (n:Int)).toNat=n:=by
   rw[BitVec.toNat_ofInt]
   simp only[IntKind.bits]
   omega
  have e2:(BitVec.ofInt IntKind.u64.bits 4294967295).toNat=2^32-1:=by
   rw[BitVec.toNat_ofInt]
   simp only[IntKind.bits]
   omega
  rw[e1,e2,Nat.and_two_pow_sub_one_eq_mod]
 rw[h1,eZ _ (by omega)]
end Go.PM
namespace Go.PM
def Qk (cs:List lS) (i:Nat):Int:=((cs[i]?).map (·.t)).getD 0
def wkC (cs:List lS) (i:Nat):Int:=((cs[i]?).map (·.w)).getD 0
def klC (cs:List lS) (i:Nat):Int:=((cs[i]?).map (·.k)).getD 0
def K9 (st:List Int) (i:Nat):Int:=(st[i]?).getD 0
theorem Y3 {cs:List lS} {i:Nat} {x:lS} (h:cs[i]? = some x):Qk cs i=x.t:=by simp[Qk,h]
theorem ayC {cs:List lS} {i:Nat} {x:lS} (h:cs[i]? = some x):wkC cs i=x.w:=by simp[wkC,h]
theorem akQ {st:List Int} {i:Nat} {x:Int} (h:st[i]? = some x):K9 st i=x:=by simp[K9,h]
def inS (cs:List lS) (st:List Int) (t:Int) (i:Nat):Bool:=decide (0≤K9 st i)&&decide (K9 st i≤t)&&decide (t<K9 st i+wkC cs i)
def bz (cs:List lS) (st:List Int) (t:Int):Nat:=(aKx cs.length).countP (inS cs st t)
def isW (cs:List lS) (st:List Int) (t:Int) (i:Nat):Bool:=decide (K9 st i<0)&&decide (Qk cs i≤t)
def wt (cs:List lS) (st:List Int) (t:Int):List Nat:=(aKx cs.length).filter (isW cs st t)
def M9 (cO:Int) (cs:List lS) (i k:Nat):Bool :=
 if cO=1 then true else if cO=2 then decide (wkC cs i<wkC cs k) else if cO=3 then decide (klC cs i<klC cs k) else false
def Cl (cO:Int) (cs:List lS) (b:Option Nat) (i:Nat):Option Nat:=match b with
 | none=>some i
 | some k=>if M9 cO cs i k then some i else some k
def nxt (cO:Int) (cs:List lS) (st:List Int) (t:Int):Option Nat:=(wt cs st t).foldl (Cl cO cs) none
def fill (cO wK:Int) (cs:List lS) (t:Int):Nat→List Int→List Int
 | 0,st=>st
 |
  n+1,st=>if (bz cs st t:Int)<wK then (match nxt cO cs st t with
  | none=>st
  | some k=>fill cO wK cs t n (st.set k t)) else st
def full (cO wK:Int) (cs:List lS) (st:List Int) (t:Int):Prop:=wK≤(bz cs st t:Int)∨nxt cO cs st t=none
def runT (cO wK:Int) (cs:List lS):Int→Nat→List Int→List Int
 | _,0,st=>st
 | t,n+1,st=>runT cO wK cs (t+1) n (fill cO wK cs t cs.length st)
def stL (cO wK:Int) (cs:List lS):List Int:=runT cO wK cs 0 100000 (List.replicate cs.length (-1))
section
variable {cO wK:Int} {cs:List lS} {st:List Int} {t:Int}
theorem AR (h:full cO wK cs st t) (n:Nat):fill cO wK cs t n st=st:=by
 cases n with
 | zero=>rfl
 |
  succ n =>
  rw[fill]
  rcases h with h | h
  ·rw[if_neg (by omega)]
  ·split
   ·rw[h]
   ·rfl
theorem QY (m:Nat):∀(t:Int) (n:Nat),(∀u,t≤u→u<t+m→full cO wK cs st u)→m≤n→runT cO wK cs t n st=runT cO wK cs (t+m) (n-m) st:=by
 induction m with
 | zero=>intro t n _ _;simp
 |
  succ m ih =>
  intro t n h hm
  obtain⟨n,rfl⟩:∃k,n=k+1:=⟨n-1,by omega⟩
  rw[runT,AR (h t (Int.le_refl _) (by omega)),ih (t+1) n (fun u h1 h2=>h u (by omega) (by omega)) (by omega)]
  congr 1
  ·omega
  ·omega
theorem aeM (n:Nat):∀(t:Int),(∀u,t≤u→full cO wK cs st u)→runT cO wK cs t n st=st:=by
 intro t h
 rw[QY n t n (fun u h1 _=>h u h1) (aKB _),Nat.sub_self]
 rfl
theorem aaV {a b:Int} (ha:0≤a) (I0:a≤b) (hb:b≤100000) (h:∀u,a≤u→u<b→full cO wK cs st u):runT cO wK cs a (100000-a).toNat st=runT cO wK cs b (100000-b).toNat st:=by
 rw[QY (b-a).toNat a _ (fun u h1 h2=>h u h1 (by omega)) (by omega)]
 congr 1
 ·omega
 ·omega
theorem amL {a:Int} (ha:0≤a) (hb:a<100000):runT cO wK cs a (100000-a).toNat st=runT cO wK cs (a+1) (100000-(a+1)).toNat (fill cO wK cs a cs.length st):=by
 rw[show (100000-a).toNat=(100000-(a+1)).toNat+1 by omega,runT]
theorem Q7 {ws:List Nat} {k:Nat}:∃j,(ws.foldl (Cl cO cs) (some k))=some j∧(j=k∨j∈ws):=by
 induction ws generalizing k with
 | nil=>exact⟨k,rfl,.inl rfl⟩
 |
  cons i ws ih =>
  rw[aNS]
  have:∃q,Cl cO cs (some k) i=some q∧(q=k∨q=i):=by
   unfold Cl
   simp only
   split
   ·exact⟨i,rfl,.inr rfl⟩
   ·exact⟨k,rfl,.inl rfl⟩
  obtain⟨q,hq,hqq⟩:=this
  rw[hq]
  obtain⟨j,h1,h2⟩:=ih (k:=q)
  refine⟨j,h1,?_⟩
  rcases h2 with rfl | h2
  ·rcases hqq with rfl | rfl
   ·exact .inl rfl
   ·exact .inr aLb
  ·exact .inr (aLa _ h2)
theorem BC:nxt cO cs st t=none↔wt cs st t=[]:=by
 unfold nxt
 cases h:wt cs st t with
 | nil=>exact⟨fun _=>rfl,fun _=>rfl⟩
 |
  cons i ws =>
  refine⟨fun h2 => ?_,fun h2=>(by cases h2)⟩
  rw[aNS] at h2
  obtain⟨j,h3,_⟩:=Q7 (cO:=cO) (cs:=cs) (ws:=ws) (k:=i)
  rw[show Cl cO cs none i=some i from rfl,h3] at h2
  cases h2
theorem Sw {k:Nat} (h:nxt cO cs st t=some k):k∈wt cs st t:=by
 unfold nxt at h
 cases hw:wt cs st t with
 | nil=>rw[hw] at h;cases h
 |
  cons i ws =>
  rw[hw,aNS] at h
  obtain⟨j,h3,h4⟩:=Q7 (cO:=cO) (cs:=cs) (ws:=ws) (k:=i)
  rw[show Cl cO cs none i=some i from rfl,h3] at h
  injection h with h
  subst h
  rcases h4 with rfl | h4
  ·exact aLb
  ·exact aLa _ h4
theorem Pj {k:Nat}:k∈wt cs st t↔k<cs.length∧K9 st k<0∧Qk cs k≤t:=by
 simp[wt,isW]
theorem aiN:(wt cs st t).Nodup:=List.Pairwise.filter _ List.nodup_range
theorem Ja {k i:Nat} (hk:k<st.length):K9 (st.set k t) i=if i=k then t else K9 st i:=by
 unfold K9
 rw[aNR]
 by_cases h:i=k
 ·subst h
  simp[hk]
 ·rw[if_neg (fun h'=>h h'.symm),if_neg h]
theorem Sv {p q:Nat→Bool} {k:Nat} (hp:p k=false) (h:∀i,i≠k→q i=p i):∀n,(aKx n).countP q=(aKx n).countP p+if k<n∧q k=true then 1 else 0:=by
 intro n
 induction n with
 | zero=>simp
 |
  succ n ih =>
  rw[aNW,List.countP_append,List.countP_append,ih]
  by_cases hk:n=k
  ·subst hk
   simp only[aNX,hp]
   cases hq:q n<;>simp
  ·rw[aNX,aNX,h n hk]
   have:(k<n+1∧q k=true)↔(k<n∧q k=true):=by
    constructor
    ·rintro⟨h1,h2⟩;exact⟨by omega,h2⟩
    ·rintro⟨h1,h2⟩;exact⟨by omega,h2⟩
   simp only[this]
   omega
theorem azF {k:Nat} {u:Int} (hk:k<cs.length) (hl:st.length=cs.length) (hs:K9 st k<0) (h0:0≤t):bz cs (st.set k t) u=bz cs st u+if t≤u∧u<t+wkC cs k then 1 else 0:=by
 unfold bz
 rw[Sv (p:=inS cs st u) (q:=inS cs (st.set k t) u) (k:=k)]
 ·congr 1
  have:(k<cs.length∧inS cs (st.set k t) u k=true)↔(t≤u∧u<t+wkC cs k):=by
   simp only[inS,Ja (t:=t) (i:=k) (by omega:k<st.length),if_true,aK9,decide_eq_true_eq]
   constructor
   ·rintro⟨_,⟨_,h1⟩,h2⟩;exact⟨h1,h2⟩
   ·rintro⟨h1,h2⟩;exact⟨hk,⟨h0,h1⟩,h2⟩
  simp only[this]
 ·simp only[inS]
  rw[decide_eq_false (by omega)]
  rfl
 ·intro i hi
  simp only[inS,Ja (t:=t) (i:=i) (by omega:k<st.length),if_neg hi]
theorem awX {k:Nat} {u:Int} (hl:st.length=cs.length) (hk:k<cs.length) (h0:0≤t):wt cs (st.set k t) u=(wt cs st u).filter (· != k):=by
 unfold wt
 rw[List.filter_filter]
 refine List.filter_congr fun i hi => ?_
 simp only[isW,Ja (t:=t) (i:=i) (by omega:k<st.length)]
 by_cases h:i=k
 ·subst h
  simp
  omega
 ·simp[h]
def Ih (st:List Int):Nat:=st.countP (fun s=>decide (s<0))
theorem CZ {k:Nat} (hk:k<st.length) (hs:K9 st k<0) (h0:0≤t):Ih (st.set k t)+1=Ih st:=by
 unfold Ih
 rw[List.countP_set hk]
 have hx:st[k]=K9 st k:=by
  rw[akQ (x:=st[k]) (aKI hk)]
 have h1:decide (st[k]<0)=true:=by rw[hx];exact decide_eq_true hs
 have h2:decide (t<0)=false:=decide_eq_false (by omega)
 have h3:0<st.countP (fun s=>decide (s<0)):=by
  rw[List.countP_pos_iff]
  exact⟨st[k],aKO hk,h1⟩
 simp only[h1,h2,if_true,aLd,if_false]
 omega
theorem abL (hl:st.length=cs.length) (h0:0≤t):∀(n m:Nat),Ih st≤n→Ih st≤m→fill cO wK cs t n st=fill cO wK cs t m st:=by
 intro n
 induction n generalizing st with
 |
  zero =>
  intro m hn hm
  have hf:full cO wK cs st t:=by
   right
   rw[BC]
   cases hw:wt cs st t with
   | nil=>rfl
   |
    cons i ws =>
    have h1:i∈wt cs st t:=by rw[hw];exact aLb
    obtain⟨h2,h3,_⟩:=Pj.1 h1
    have:=CZ (t:=t) (by omega:i<st.length) h3 h0
    omega
  rw[AR hf,AR hf]
 |
  succ n ih =>
  intro m hn hm
  cases m with
  |
   zero =>
   have hf:full cO wK cs st t:=by
    right
    rw[BC]
    cases hw:wt cs st t with
    | nil=>rfl
    |
     cons i ws =>
     have h1:i∈wt cs st t:=by rw[hw];exact aLb
     obtain⟨h2,h3,_⟩:=Pj.1 h1
     have:=CZ (t:=t) (by omega:i<st.length) h3 h0
     omega
   rw[AR hf,AR hf]
  |
   succ m =>
   rw[fill,fill]
   split
   ·split
    ·rfl
    ·rename_i k hk
     obtain⟨h2,h3,_⟩:=Pj.1 (Sw hk)
     have:=CZ (t:=t) (by omega:k<st.length) h3 h0
     exact ih (by simp[hl]) m (by omega) (by omega)
   ·rfl
theorem aaE:Ih st≤st.length:=List.countP_le_length
theorem acP {k:Nat} (hl:st.length=cs.length) (h0:0≤t) (hb:(bz cs st t:Int)<wK) (hk:nxt cO cs st t=some k):fill cO wK cs t cs.length (st.set k t)=fill cO wK cs t cs.length st:=by
 obtain⟨h2,h3,_⟩:=Pj.1 (Sw hk)
 have h4:=CZ (t:=t) (by omega:k<st.length) h3 h0
 have h5:=aaE (st:=st)
 rw[abL (st:=st) hl h0 cs.length (cs.length+1) (by omega) (by omega)]
 conv=>rhs;rw[fill,if_pos hb,hk]
def evT (cs:List lS) (st:List Int) (i:Nat):Int:=if 0≤K9 st i then K9 st i+wkC cs i else Qk cs i
def ayT (cs:List lS) (st:List Int) (t:Int) (b:Int) (i:Nat):Int:=if t<evT cs st i∧(b<0∨evT cs st i<b) then evT cs st i else b
def later (cs:List lS) (st:List Int) (t:Int):Int:=(aKx cs.length).foldl (ayT cs st t) (-1)
structure Way (cs:List lS) (st:List Int) (t:Int):Prop where
 len:st.length=cs.length
 low:∀i,i<cs.length → -1≤K9 st i
 high:∀i,i<cs.length→K9 st i≤t
 bd:∀i,i<cs.length→K9 st i+1000*(Ih st:Int)≤10000+1000*(cs.length:Int)
 tm:0≤t∧t+1000*(Ih st:Int)≤11000+1000*(cs.length:Int)
theorem Way.set {k:Nat} (h:Way cs st t) (hk:k<cs.length) (hs:K9 st k<0):Way cs (st.set k t) t:=by
 have hl:=h.len
 have htm:=h.tm
 have h4:=CZ (t:=t) (by omega:k<st.length) hs htm.1
 refine⟨by simp[hl],fun i hi => ?_,fun i hi => ?_,fun i hi => ?_,htm.1,by omega⟩
 all_goals rw[Ja (by omega:k<st.length)]
 ·have:=h.low i hi
  split<;>omega
 ·have:=h.high i hi
  split<;>omega
 ·have:=h.bd i hi
  split<;>omega
theorem Way.le (h:Way cs st t) (hc:oR cs):t≤35000∧∀i,i<cs.length→K9 st i≤34000:=by
 have hlen:=hc.2
 have htm:=h.tm
 refine⟨by omega,fun i hi => ?_⟩
 have:=h.bd i hi
 omega
theorem oR.bnd (hc:oR cs) {i:Nat} (hi:i<cs.length):(0≤Qk cs i∧Qk cs i≤10000)∧(1≤wkC cs i∧wkC cs i≤1000):=by
 have hx:cs[i]? = some cs[i]:=aKI hi
 have:=hc.at hx
 rw[Y3 hx,ayC hx]
 exact⟨this.1,this.2.1⟩
def N8 (cO:Int) (cs:List lS) (ws:List Nat):Nat :=
 if cO=1 then ws.length-1 else if cO=2∨cO=3 then (aKx ws.length).foldl (fun b k=>if M9 cO cs (ws.getD k 0) (ws.getD b 0) then k else b) 0 else 0
theorem Y1 {ws:List Nat} {k:Nat} (h:∀i j,M9 cO cs i j=false):ws.foldl (Cl cO cs) (some k)=some k:=by
 induction ws with
 | nil=>rfl
 |
  cons i ws ih =>
  rw[aNS]
  have:Cl cO cs (some k) i=some k:=by
   unfold Cl
   simp only[h]
   rfl
  rw[this,ih]
theorem alB {ws:List Nat} (fW:ws≠[]) (hr:0≤cO∧cO≤3):N8 cO cs ws<ws.length∧ws[N8 cO cs ws]? = ws.foldl (Cl cO cs) none:=by
 have hlen:0<ws.length:=aNz.2 fW
 unfold N8
 by_cases h1:cO=1
 ·rw[if_pos h1]
  rcases List.eq_nil_or_concat ws with rfl | ⟨xs,y,rfl⟩
  ·exact absurd rfl fW
  ·rw[List.concat_eq_append,aNM]
   refine⟨by simp,?_⟩
   simp only[aKM,aKL,aMe,aL9,Nat.add_sub_cancel,aNS,aNY]
   rw[List.getElem?_append_right (aKB _),Nat.sub_self]
   unfold Cl
   split
   ·rfl
   ·simp only[M9,if_pos h1,if_true]
    rfl
 ·rw[if_neg h1]
  by_cases h2:cO=2∨cO=3
  ·rw[if_pos h2]
   have aFe:∀i,M9 cO cs i i=false:=fun i=>by
    unfold M9
    rw[if_neg h1]
    split
    ·exact decide_eq_false (by omega)
    ·split
     ·exact decide_eq_false (by omega)
     ·rfl
   have key:∀n,n<ws.length→(aKx (n+1)).foldl (fun b k=>if M9 cO cs (ws.getD k 0) (ws.getD b 0) then k else b) 0<ws.length ∧
     ws[(aKx (n+1)).foldl (fun b k=>if M9 cO cs (ws.getD k 0) (ws.getD b 0) then k else b) 0]? = (ws.take (n+1)).foldl (Cl cO cs) none:=by
    intro n
    induction n with
    |
     zero =>
     intro _
     have:(aKx (0+1)).foldl (fun b k=>if M9 cO cs (ws.getD k 0) (ws.getD b 0) then k else b) 0=0:=by
      simp[aNW,aFe]
     rw[this]
     refine⟨hlen,?_⟩
     cases ws with
     | nil=>exact absurd rfl fW
     | cons i ws=>rfl
    |
     succ n ih =>
     intro hn
     obtain⟨g1,g2⟩:=ih (by omega)
     rw[aNW,aNM,aNS,aNY]
     generalize (aKx (n+1)).foldl (fun b k=>if M9 cO cs (ws.getD k 0) (ws.getD b 0) then k else b) 0=b at *
     obtain⟨x,hx⟩:∃x,ws[n+1]? = some x:=⟨_,aKI hn⟩
     obtain⟨y,hy⟩:∃y,ws[b]? = some y:=⟨_,aKI g1⟩
     rw[aMr,hx,aNM,←g2,hy]
     simp only[Option.toList_some,aNS,aNY,aKy,hx,hy,aNP,Cl]
     split
     ·exact⟨hn,hx⟩
     ·exact⟨g1,hy⟩
   have:=key (ws.length-1) (by omega)
   rw[show ws.length-1+1=ws.length by omega,aLu (aKB _)] at this
   exact this
  ·rw[if_neg h2]
   refine⟨hlen,?_⟩
   have hb:∀i j,M9 cO cs i j=false:=fun i j=>by
    unfold M9
    rw[if_neg h1,if_neg (by omega),if_neg (by omega)]
   cases ws with
   | nil=>exact absurd rfl fW
   |
    cons i ws =>
    rw[aNS,show Cl cO cs none i=some i from rfl,Y1 hb]
    rfl
end
end Go.PM