/- Texts of a claim, in one: part 11. -/
import Derived.Lib.Bytealg
import Derived.Lib.ParseIntB
import Derived.KernelRfl
import Derived.Test.YtjmflicajplclaaGreatDoorKCj
open And renaming intro → aMd
open Bool renaming and_eq_true → aK5,and_self → aLV,false_eq_true → aK9
open Int renaming tmod_eq_emod_of_nonneg → aMz,toNat_natCast → aLT
open List renaming all_append → aNJ,all_eq_true → aKL,append_assoc → aMj,append_nil → aLF,countP_singleton → aNT,drop_succ_cons → aMi,drop_zero → aLJ,findIdx?_eq_none_iff → aNQ,findIdx?_eq_some_iff_getElem → aNR,foldl_append → aNI,foldl_cons → aNO,foldl_nil → aNU,getD_eq_getElem?_getD → aKu,getElem?_eq_getElem → aKE,getElem?_eq_some_iff → aKw,getElem?_of_mem → aMs,getElem?_set → aNN,getElem_mem → aKK,length_append → aKI,length_cons → aKH,length_eq_zero_iff → aMF,length_map → aMe,length_nil → aMa,length_pos_iff → aNv,length_take → aL6,mapM_cons → aLU,mem_cons → aLL,mem_cons_of_mem → aK6,mem_cons_self → aK7,mem_of_getElem? → aLr,mem_of_mem_take → aLu,nil_append → aLP,prefix_append → aMr,range → aKt,range_succ → aNS,set_cons_zero → aMb,take_add_one → aMn,take_append_drop → aLG,take_length → aLK,take_of_length_le → aLq,take_succ_cons → aLk,take_zero → aNM
open Nat renaming gcd → aNf,le_of_ble_eq_true → aMl,le_refl → aKx,le_trans → aKy,lt_of_lt_of_le → aKz,mul_le_mul_right → aKY,pow_le_pow_right → aMA,pow_succ → aLY,zero_add → aL5,zero_le → aK1,zero_lt_one → aNP
open Option renaming getD_some → aNL,isSome_none → aLc,isSome_some → aNK,map_some → aLS
set_option linter.unusedSimpArgs false
set_option linter.unusedVariables false
namespace Go.PM
open Go.Lib
abbrev bV (b:UInt8):VV := .sc (.int .u8 (b.toNat:Int))
theorem Pn:∀bs:List UInt8,K2 (bs.map bV)=some bs
 | []=>rfl
 |
  b::bs=>by
  rw[List.map_cons]
  show (K2 (bs.map bV)).map (UInt8.ofNat ((b.toNat:Int)).toNat :: ·)=_
  rw[Pn bs]
  simp
structure Ke (v:VV) (H:aA) (bs:List UInt8):Prop where
 len:rW v H=some (VI bs.length)
 src:cW 1 v H=some (bs.map bV)
 nsc:∀x,v ≠ .sc x
theorem Ke.str {v:VV} {H:aA} {bs:List UInt8} (h:Ke v H bs) {fl:Fl} {lo:Nat} {x:Operand} {ρ:cV} (hx:fG ρ x=v):vop fl lo (.b2s x) ρ H=some (bD bs,H):=by
 have h1:=h.nsc
 have h2:=h.src
 unfold vop
 dsimp only
 rw[hx]
 cases v with
 | sc x=>exact absurd rfl (h1 x)
 | _=>simp only[h2,Pn,aLS]
theorem adE {bs:List UInt8} {k:TK} {H:aA}:cW 1 (.tree (bs.map bV) k) H=some (bs.map bV):=by
 have:((bs.map bV).all fun x=>(aB x).length == 1&&(aB x).all bO)=true:=by
  rw[aKL]
  intro x hx
  obtain⟨d,_,rfl⟩:=List.mem_map.1 hx
  rfl
 simp only[cW,this,if_true]
theorem Ke.tree {bs:List UInt8} {k:TK} {H:aA}:Ke (.tree (bs.map bV) k) H bs:=⟨eQ,adE,fun x=>by simp⟩
theorem Ke.row {bs:List UInt8} {H:aA} {b g:Nat} {w:Bool} (h:aG H b g=some (bs.map bV,1,w)):Ke (.ref b g 0 bs.length bs.length) H bs:=by
 refine⟨eH h,?_,fun x=>by simp⟩
 have jW:(((bs.map bV).drop 0).take bs.length).all (fun x=>(aB x).all bO)=true:=by
  rw[aKL]
  intro x hx
  obtain⟨d,_,rfl⟩:=List.mem_map.1 (List.mem_of_mem_drop (aLu hx))
  rfl
 simp only[cW,h]
 rw[if_pos ⟨trivial,by simp,jW⟩,aLJ,aLq (by simp)]
theorem Ke.cons {v:VV} {H:aA} {bs:List UInt8} (h:Ke v H bs) (x:UInt8) (hl:bs.length≤1000000) (lo:Nat):∃v' H',dP lo 1 1 (.tree [bV x] (.cl 1)) (bs.map bV) H=some (v',H')∧Ke v' H' (x::bs):=by
 by_cases hb:bs=[]
 ·subst hb
  exact⟨_,_,rfl,Ke.tree (bs:=[x])⟩
 ·have fS:bs.length≠0:=fun h=>hb (aMF.1 h)
  refine⟨.ref H.length 0 0 (x::bs).length (x::bs).length,H++[.row 0 ((x::bs).map bV) 1 true],?_,Ke.row (T8 rfl)⟩
  simp only[dP,aMe]
  rw[if_pos ⟨by decide,by decide⟩,if_pos trivial,if_neg fS,if_pos (by simp;omega)]
  simp[Nat.add_comm]
theorem ZL (r:Int):dK .rem (.int .i64 r) (.int .i64 10)=some (.int .i64 (r.tmod 10)):=rfl
theorem aAO (r:Int) (h0 : -9223372036854775808≤r) (h1:r≤9223372036854775807):dK .quo (.int .i64 r) (.int .i64 10)=some (.int .i64 (r.tdiv 10)):=by
 show some (Value.int .i64 (IntKind.i64.wrap (r.tdiv 10)))=_
 have h2:(r.tdiv 10).natAbs=r.natAbs / 10:=by rw[Int.natAbs_tdiv];rfl
 rw[wrap64 (by omega) (by omega)]
theorem aeF {d:Nat} (h:d<10):(d10 d).toNat=48+d:=by
 unfold d10
 simp
 omega
theorem Rq {n r:Nat} {bs:List UInt8} (h:decDigits n=decDigits r++bs):decDigits n=uR (r / 10)++d10 (r % 10)::bs:=by
 rw[h]
 by_cases hr:r<10
 ·rw[kG hr,uR,if_pos (by omega),Nat.mod_eq_of_lt hr];rfl
 ·rw[Cj hr,uR,if_neg (by omega),aMj];rfl
theorem Qh (n:Int) (h0 : -9223372036854775808≤n) (h1:n≤9223372036854775807):TC 219 [VI n] (bD ((if n<0 then [45] else [])++decDigits n.natAbs)):=by
 refine TC.walk ⟨true,false⟩ QD rfl (aMl rfl) rfl rfl ?_
 have e0:∀lr,mR lr [.int .u8 0] 0 [] []=some (.ref 0 0 0 0 0,[.row 0 (([]:List UInt8).map bV) 1 true]):=fun lr=>mT (H:=[]) rfl
 have e1:∀(x:UInt8) (H:aA),mR false [.int .u8 0] 1 [(0,bV x)] H=some (.tree [bV x] (.cl 1),H):=fun x H=>iX rfl rfl rfl
 have hdl:=D5 n.natAbs 19 (by omega)
 simp only[MD,HF,e0,VX,Nat.reduceEqDiff,Nat.reduceAdd]
 refine aP (fun(s:Int×List UInt8) ρ H => -9223372036854775808≤s.1∧s.1≤9223372036854775807∧(s.2=[]→s.1=n)∧(s.2≠[]→decDigits n.natAbs=uR s.1.natAbs++s.2)∧Ke (ρ 3) H s.2∧ρ 0=VI n∧ρ 4=VI s.1) (fun s=>s.1.natAbs+(if s.2=[] then 1 else 0)) (n,[]) ⟨h0,h1,fun _=>rfl,fun h=>absurd rfl h,by simp only[VX,Nat.reduceEqDiff,Nat.reduceAdd];exact Ke.row (bs:=[]) aT,rfl,rfl⟩ ?_
 rintro⟨r,bs⟩ ρ H ⟨Kh,TT,hn,hd,ho,g0,g4⟩
 simp only at Kh TT hn hd ho g4
 generalize hv3:ρ 3=v3 at ho
 have hlen:=ho.len
 have Dt:=ho.src
 by_cases Pt:bs≠[]∧r=0
 ·obtain⟨hb,hr⟩:=Pt
  subst hr
  have hl:¬(bs.length:Int)=0:=by have:=aNv.2 hb;omega
  have hdd:=hd hb
  simp only[uR,Int.natAbs_zero,if_true,aLP] at hdd
  by_cases mE:n<0
  ·obtain⟨v',H',ap,ho'⟩:=ho.cons 45 (by rw[←hdd];omega) 0
   have R6:mR false [.int .u8 0] 1 [(0,.sc (.int .u8 45))] H=some (.tree [bV 45] (.cl 1),H):=e1 45 H
   have bs2:=fun aQ (h:fG aQ (.tmp 34)=v')=>ho'.str (fl:=⟨true,false⟩) (lo:=0) h
   simp only[lR,g0,g4,hv3,hlen,hl,VX,Nat.reduceEqDiff,Nat.reduceAdd]
   simp only[g0,mE,hv3,R6,Dt,ap,ZM,VX,Nat.reduceEqDiff,Nat.reduceAdd]
   rw[bs2 _ (by rfl)]
   simp only[VX,Nat.reduceEqDiff,Nat.reduceAdd]
   rw[hdd]
   exact aL rfl
  ·have bs2:=fun aQ (h:fG aQ (.tmp 34)=v3)=>ho.str (fl:=⟨true,false⟩) (lo:=0) h
   simp only[lR,g0,g4,hv3,hlen,hl,VX,Nat.reduceEqDiff,Nat.reduceAdd]
   simp only[g0,mE,hv3,ZM,VX,Nat.reduceEqDiff,Nat.reduceAdd]
   rw[bs2 _ (by simp only[VX,Nat.reduceEqDiff,Nat.reduceAdd];try exact hv3)]
   simp only[VX,Nat.reduceEqDiff,Nat.reduceAdd]
   rw[hdd]
   exact aL rfl
 ·have hm:r.tmod 10=if r<0 then -((r.natAbs % 10:Nat):Int) else ((r.natAbs % 10:Nat):Int):=by
   have:=aMz (a:=r) (b:=10)
   by_cases h:r<0
   ·rw[if_pos h]
    have h2:=Int.neg_tmod (-r) 10
    rw[Int.neg_neg] at h2
    rw[h2,aMz (by omega)]
    omega
   ·rw[if_neg h,this (by omega)]
    omega
  have hq:(r.tdiv 10).natAbs=r.natAbs / 10:=by rw[Int.natAbs_tdiv];rfl
  have hmd:=Nat.mod_lt r.natAbs (show 0<10 by decide)
  have q1:=aAO r Kh TT
  have zB:bs.length≤19:=by
   by_cases hb:bs=[]
   ·subst hb;simp
   ·have h2:=hd hb
    have h3:=congrArg List.length h2
    rw[aKI] at h3
    have h4:r≠0:=fun h=>Pt ⟨hb,h⟩
    have h5:=aNv.2 (SS r.natAbs)
    rw[uR,if_neg (by omega)] at h3
    omega
  obtain⟨v',H',ap,ho'⟩:=ho.cons (d10 (r.natAbs % 10)) (by omega) 0
  have w2:IntKind.i64.wrap (48+((r.natAbs % 10:Nat):Int))=((48+r.natAbs % 10:Nat):Int):=wrapN _ (by omega) (by omega)
  have w3:IntKind.u8.wrap ((48+r.natAbs % 10:Nat):Int)=((48+r.natAbs % 10:Nat):Int):=by
   simp[IntKind.wrap,IntKind.bits,IntKind.signed]
   omega
  have hx:VV.sc (.int .u8 ((48+r.natAbs % 10:Nat):Int))=bV (d10 (r.natAbs % 10)):=by rw[bV,aeF hmd]
  have R6:=e1 (d10 (r.natAbs % 10)) H
  rw[←hx] at R6 ap
  have next:∃s':Int×List UInt8,s'.1.natAbs+(if s'.2=[] then 1 else 0)<r.natAbs+(if bs=[] then 1 else 0) ∧ -9223372036854775808≤s'.1∧s'.1≤9223372036854775807∧(s'.2=[]→s'.1=n)∧(s'.2≠[]→decDigits n.natAbs=uR s'.1.natAbs++s'.2)∧Ke v' H' s'.2∧r.tdiv 10=s'.1:=by
   refine⟨(r.tdiv 10,d10 (r.natAbs % 10)::bs),?_,by simp only;omega,by simp only;omega,fun h=>(by simp at h),fun _ => ?_,ho',rfl⟩
   ·simp only[hq,List.cons_ne_nil,if_false]
    by_cases hb:bs=[]
    ·rw[if_pos hb];omega
    ·have h4:r≠0:=fun h=>Pt ⟨hb,h⟩
     rw[if_neg hb];omega
   ·simp only[hq]
    by_cases hb:bs=[]
    ·subst hb
     refine Rq ?_
     rw[hn rfl,aLF]
    ·have h4:r≠0:=fun h=>Pt ⟨hb,h⟩
     have h2:=hd hb
     rw[uR,if_neg (by omega)] at h2
     exact Rq h2
  by_cases hrn:r.tmod 10<0
  ·have w1:IntKind.i64.wrap (0-r.tmod 10)=((r.natAbs % 10:Nat):Int):=by
    have:r.tmod 10 = -((r.natAbs % 10:Nat):Int):=by
     by_cases h:r<0
     ·rw[if_pos h] at hm;exact hm
     ·rw[if_neg h] at hm;omega
    rw[this]
    exact wrapN _ (by omega) (by omega)
   by_cases hb:bs=[]
   ·have hl:(bs.length:Int)=0:=by rw[hb];rfl
    simp only[lR,g0,g4,hv3,hlen,hl,ZL,q1,hrn,w1,w2,w3,R6,Dt,ap,VX,Nat.reduceEqDiff,Nat.reduceAdd]
    obtain⟨s',n1,n2,n3,n4,n5,n6,n7⟩:=next
    exact⟨s',n1,n2,n3,n4,n5,n6,by rw[n7]⟩
   ·have hl:¬(bs.length:Int)=0:=by have:=aNv.2 hb;omega
    have hr:¬r=0:=fun h=>Pt ⟨hb,h⟩
    simp only[lR,g0,g4,hv3,hlen,hl,hr,ZL,q1,hrn,w1,w2,w3,R6,Dt,ap,VX,Nat.reduceEqDiff,Nat.reduceAdd]
    obtain⟨s',n1,n2,n3,n4,n5,n6,n7⟩:=next
    exact⟨s',n1,n2,n3,n4,n5,n6,by rw[n7]⟩
  ·have hmm:r.tmod 10=((r.natAbs % 10:Nat):Int):=by
    rw[hm] at hrn ⊢
    split
    ·rename_i h;rw[if_pos h] at hrn;omega
    ·rfl
   have aAP:¬((r.natAbs % 10:Nat):Int)<0:=by omega
   by_cases hb:bs=[]
   ·have hl:(bs.length:Int)=0:=by rw[hb];rfl
    simp only[lR,g0,g4,hv3,hlen,hl,ZL,hmm,q1,aAP,w2,w3,R6,Dt,ap,VX,Nat.reduceEqDiff,Nat.reduceAdd]
    obtain⟨s',n1,n2,n3,n4,n5,n6,n7⟩:=next
    exact⟨s',n1,n2,n3,n4,n5,n6,by rw[n7]⟩
   ·have hl:¬(bs.length:Int)=0:=by have:=aNv.2 hb;omega
    have hr:¬r=0:=fun h=>Pt ⟨hb,h⟩
    simp only[lR,g0,g4,hv3,hlen,hl,hr,ZL,hmm,q1,aAP,w2,w3,R6,Dt,ap,VX,Nat.reduceEqDiff,Nat.reduceAdd]
    obtain⟨s',n1,n2,n3,n4,n5,n6,n7⟩:=next
    exact⟨s',n1,n2,n3,n4,n5,n6,by rw[n7]⟩
end Go.PM
namespace Go.PM
abbrev chV (c:List (List ByteArray)):VV := .agg [lQ c]
def DZ (n:Nat) (H:aA) (bare:Bool) (c:List (List ByteArray)) (r:VV):Prop:=∃c0,r = .agg [c0]∧vL n H bare c c0
theorem DZ.dC {n:Nat} {H H':aA} {bare:Bool} {s:List (List ByteArray)} {c:VV} (h:DZ n H bare s c) (hk:∀b g x,n<b→aG H b g=some x→aG H' b g=some x):DZ n H' bare s c:=by
 obtain⟨c0,rfl,h0⟩:=h
 exact⟨c0,rfl,h0.dC hk⟩
theorem DZ.pre {n:Nat} {H H':aA} {bare:Bool} {s:List (List ByteArray)} {c:VV} (h:DZ n H bare s c) (hh:H <+: H'):DZ n H' bare s c:=h.dC fun _ _ _ _=>cJ hh
theorem DZ.fz {n:Nat} {H:aA} {bare:Bool} {s:List (List ByteArray)} {c:VV} (h:DZ n H bare s c):PM.fz depth H c=some (chV s):=by
 obtain⟨c0,rfl,h0⟩:=h
 have f0:=h0.fz (d:=4)
 have e:PM.fz (7+1) H (.agg [c0])=if aY (.agg [c0])=true then some (.agg [c0]) else ([c0].mapM (PM.fz 7 H)).map .agg:=rfl
 show PM.fz (7+1) H (.agg [c0])=_
 rw[e]
 by_cases hp:aY (.agg [c0])=true
 ·rw[if_pos hp]
  have hu:aY c0=true:=by simpa[aY,aO] using hp
  rw[aN hu] at f0
  cases f0
  rfl
 ·rw[if_neg hp,aLU,f0]
  rfl
theorem ld1 {n b:Nat} {s:List (List ByteArray)} {bare:Bool} {H H':aA} {c:VV} (hc:DZ n H bare s c) (h:aG H' b 0=some ([c],1,true)):bF true 1 (.ptr b 0 0 0) H'=some c:=by
 obtain⟨c0,rfl,_⟩:=hc
 rw[bK,h]
 rfl
end Go.PM
namespace Go.PM
open Go.Lib
def jR (c:UInt8):Bool:=decide (48≤c.toNat)&&decide (c.toNat≤57)
def dv (c:UInt8):Nat:=c.toNat-48
def Pk (a:Nat) (l:List UInt8):Nat:=l.foldl (fun a c=>a*10+dv c) a
def bZ (l:List UInt8):Nat:=Pk 0 l
theorem aaP (l:List UInt8):∀a,Pk a l=a*10^l.length+bZ l:=by
 induction l with
 | nil=>intro a;simp[Pk,bZ]
 |
  cons c l ih =>
  intro a
  have h1:Pk a (c::l)=Pk (a*10+dv c) l:=rfl
  have h2:bZ (c::l)=Pk (0*10+dv c) l:=rfl
  rw[h1,h2,ih,ih (0*10+dv c),aKH,aLY]
  grind
theorem O0 (a b:List UInt8):bZ (a++b)=bZ a*10^b.length+bZ b:=by
 have:bZ (a++b)=Pk (bZ a) b:=by unfold bZ Pk;rw[aNI]
 rw[this,aaP]
theorem PB:bZ []=0:=rfl
theorem aeW (a:List UInt8) (c:UInt8):bZ (a++[c])=bZ a*10+dv c:=by
 rw[O0]
 simp[bZ,Pk]
theorem auG {c:UInt8} (h:jR c=true):dv c<10:=by
 simp only[jR,aK5,decide_eq_true_eq] at h
 unfold dv
 omega
theorem Kg:∀ {l:List UInt8},l.all jR=true→bZ l<10^l.length:=by
 intro l
 induction l with
 | nil=>intro _;decide
 |
  cons c l ih =>
  intro h
  rw[List.all_cons,aK5] at h
  have h1:=auG h.1
  have h2:=ih h.2
  have h3:bZ (c::l)=Pk (0*10+dv c) l:=rfl
  rw[h3,aaP,aKH,aLY]
  have h4:(0*10+dv c)*10^l.length≤9*10^l.length:=aKY _ (by omega)
  omega
theorem axD {M:Nat} (hM:1000000000000000000≤M):∀(l:List UInt8) (k acc:Nat),l.all jR=true→acc<10^k→k+l.length≤18→parseUintM M acc l = .ok (Pk acc l):=by
 intro l
 induction l with
 | nil=>intro k acc _ _ _;rfl
 |
  cons c l ih =>
  intro k acc h hk hl
  rw[List.all_cons,aK5] at h
  have h1:=auG h.1
  have h0:=h.1
  simp only[jR,aK5,decide_eq_true_eq] at h0
  rw[aKH] at hl
  have h18:acc<10^17:=aKz hk (aMA (by decide) (by omega))
  have e17:(10:Nat)^17=100000000000000000:=by decide
  rw[e17] at h18
  have hd:c.toNat-48=dv c:=rfl
  rw[parseUintM,if_pos h0,if_neg (by omega),hd,if_neg (by omega),ih (k+1) _ h.2 (by rw[aLY];omega) (by omega)]
  rfl
theorem azY {l:List UInt8} (h:l.all jR=true) (h0:l≠[]) (hl:l.length≤18):parseUintB 64 l = .ok (bZ l):=by
 unfold parseUintB
 rw[if_neg h0]
 exact axD (by decide) l 0 0 h (by decide) (by omega)
def jI (l:List UInt8):Bool:=l.all jR&&decide (1≤l.length)&&decide (l.length≤200)&&(decide (l.length=1) || !decide (l.getD 0 0=48))
theorem lH {l:List UInt8}:jI l=true↔l.all jR=true∧1≤l.length∧l.length≤200∧(l.length=1∨l.getD 0 0≠48):=by
 unfold jI
 simp only[aK5,Bool.or_eq_true,Bool.not_eq_true',decide_eq_true_eq,decide_eq_false_iff_not,ne_eq,and_assoc]
theorem BU {l:List UInt8} (h:jI l=true):bl (bZ l)≤665:=by
 obtain⟨h1,h2,h3,_⟩:=lH.1 h
 refine xL (aKz (Kg h1) ?_)
 exact aKy (aMA (by decide) h3) (by decide +kernel)
def oH (c:UInt8):List UInt8→List UInt8×Option (List UInt8)
 | []=>([],none)
 | x::r=>if x=c then ([],some r) else (x::(oH c r).1,(oH c r).2)
theorem CU {c:UInt8}:∀ {l:List UInt8},(oH c l).2=none→indexByte l c = -1∧(oH c l).1=l∧c∉l:=by
 intro l
 induction l with
 | nil=>intro _;exact⟨rfl,rfl,by simp⟩
 |
  cons x l ih =>
  intro h
  unfold oH at h ⊢
  by_cases hx:x=c
  ·rw[if_pos hx] at h
   cases h
  ·rw[if_neg hx] at h ⊢
   obtain⟨h1,h2,h3⟩:=ih h
   refine⟨?_,by rw[h2],?_⟩
   ·rw[indexByte,if_neg (by simpa using hx),h1]
    rfl
   ·rw[aLL,not_or]
    exact⟨fun h=>hx h.symm,h3⟩
theorem Kz {c:UInt8}:∀ {l r:List UInt8},(oH c l).2=some r→indexByte l c=((oH c l).1.length:Int)∧l=(oH c l).1++c::r∧c∉(oH c l).1:=by
 intro l
 induction l with
 | nil=>intro r h;cases h
 |
  cons x l ih =>
  intro r h
  unfold oH at h ⊢
  by_cases hx:x=c
  ·rw[if_pos hx] at h ⊢
   cases h
   subst hx
   refine⟨?_,rfl,by simp⟩
   rw[indexByte,if_pos (by simp)]
   rfl
  ·rw[if_neg hx] at h ⊢
   obtain⟨h1,h2,h3⟩:=ih h
   refine⟨?_,?_,?_⟩
   ·rw[indexByte,if_neg (by simpa using hx),h1,if_neg]
    ·simp
    ·simp
   ·conv=>lhs;rw[h2]
    rfl
   ·rw[aLL,not_or]
    exact⟨fun h=>hx h.symm,h3⟩
def rS (neg:Bool) (d:List UInt8) (s:Option (List UInt8)):Option Rat :=
 if jI d=false∨(neg=true∧bZ d=0) then none else
 match s with
 | none=>some (mkRat (mG neg (bZ d)) 1)
 | some t=>if jI t=true∧1<bZ t∧aNf (bZ d) (bZ t)=1 then some (mkRat (mG neg (bZ d)) (bZ t)) else none
def isNeg (l:List UInt8):Bool:=decide (1≤l.length)&&decide (l.getD 0 0=45)
def BI (l:List UInt8):Option Rat:=rS (isNeg l) ((oH 47 (if isNeg l then l.drop 1 else l)).1) ((oH 47 (if isNeg l then l.drop 1 else l)).2)
theorem XG {neg:Bool} {d:List UInt8} {s:Option (List UInt8)} {q:Rat} (h:rS neg d s=some q):jI d=true∧¬(neg=true∧bZ d=0)∧((s=none∧q=mkRat (mG neg (bZ d)) 1)∨∃t,s=some t∧jI t=true∧1<bZ t∧aNf (bZ d) (bZ t)=1∧q=mkRat (mG neg (bZ d)) (bZ t)):=by
 unfold rS at h
 split at h
 ·cases h
 ·rename_i hc
  rw[not_or] at hc
  refine⟨by simpa using hc.1,hc.2,?_⟩
  split at h
  ·exact .inl ⟨rfl,(Option.some.inj h).symm⟩
  ·rename_i t
   split at h
   ·rename_i ht
    exact .inr ⟨t,rfl,ht.1,ht.2.1,ht.2.2,(Option.some.inj h).symm⟩
   ·cases h
theorem Wc {neg:Bool} {d:List UInt8} {s:Option (List UInt8)} {q:Rat} (h:rS neg d s=some q):aK q≤665:=by
 obtain⟨h1,_,h3⟩:=XG h
 have hb:=BU h1
 rcases h3 with⟨_,rfl⟩ | ⟨t,_,h4,h5,_,rfl⟩
 ·exact Dw (by rw[qV];exact hb) (xL (by decide +kernel)) (by decide)
 ·exact Dw (by rw[qV];exact hb) (BU h4) (by omega)
theorem Xw {l:List UInt8} {q:Rat} (h:BI l=some q):aK q≤665:=Wc h
theorem Me {neg:Bool} {t b:Nat} (hb:b≠0) (hg:aNf t b=1):(mkRat (mG neg t) b).num=mG neg t∧(mkRat (mG neg t) b).den=b:=by
 rw[H9 hb,Ss hb,hg,Nat.div_one,Nat.div_one]
 exact⟨rfl,rfl⟩
theorem IJ {c:UInt8} {l:List UInt8}:isNeg (c::l)=decide (c=45):=by simp[isNeg]
theorem akC {l:List UInt8} (h:l.all jR=true):(47:UInt8)∉l:=by
 intro hm
 have:=aKL.1 h _ hm
 exact absurd this (by decide)
end Go.PM
namespace Go.PM
open Go.Lib
theorem Gd (l:List UInt8) {i:Nat} (h:i<l.length):I8 (.string ⟨l.toArray⟩) (.int .i64 (i:Int))=some (.int .u8 ((l.getD i 0).toNat:Int)):=by
 have hs:(⟨l.toArray⟩:ByteArray).size=l.length:=by simp[ByteArray.size]
 have e1:(0:Int)≤i∧(i:Int)<(l.length:Int):=by omega
 simp only[I8,hs,e1,and_self,if_true,aLT]
theorem KX (l:List UInt8) (h:0<l.length):I8 (.string ⟨l.toArray⟩) (.int .i64 0)=some (.int .u8 ((l.getD 0 0).toNat:Int)):=Gd l h
theorem Kd (l:List UInt8) (a b:Nat):(⟨l.toArray⟩:ByteArray).extract a b=⟨((l.drop a).take (b-a)).toArray⟩:=by
 rw[ByteArray.ext_iff,ByteArray.data_extract]
 simp[List.extract_toArray,List.extract_eq_take_drop]
theorem IP (l:List UInt8) {a:Nat} (h:a≤l.length):zI (bD l) (some (VI (a:Int))) none=some (bD (l.drop a)):=by
 have hs:(⟨l.toArray⟩:ByteArray).size=l.length:=by simp[ByteArray.size]
 have e2:(0:Int)≤a∧(a:Int)≤(l.length:Int):=by omega
 simp only[zI,Ix,Ck,hs,fF,e2,and_self,if_true,aLT,Kd]
 rw[aLq (by simp)]
theorem Ps (l:List UInt8) {b:Nat} (hb:b≤l.length):zI (bD l) none (some (VI (b:Int)))=some (bD (l.take b)):=by
 have hs:(⟨l.toArray⟩:ByteArray).size=l.length:=by simp[ByteArray.size]
 have e1:(0:Int)≤b∧(b:Int)≤(l.length:Int):=by omega
 simp only[zI,Ix,Ck,hs,fF,e1,and_self,if_true,aLT,Kd]
 rw[aLJ,Nat.sub_zero]
theorem WR (l:List UInt8):dK .eql (.string ⟨l.toArray⟩) (.string ⟨#[]⟩)=some (.bool (decide (l=[]))):=ZZ l []
theorem MF (l:List UInt8):dK .neq (.string ⟨l.toArray⟩) (.string ⟨#[]⟩)=some (.bool (!decide (l=[]))):=S5 l []
theorem WC (l:List UInt8):TC 210 [bD l,bD [45]] (VB (isNeg l)):=by
 refine TC.walk ⟨true,false⟩ vI rfl (aMl rfl) rfl rfl ?_
 have e1:Dl (.string ⟨#[45]⟩)=some (.int .i64 1):=rfl
 by_cases h:(1:Int)≤(l.length:Int)
 ·have e2:=Ps l (b:=1) (by omega)
  have e2:zI (bD l) none (some (VI 1))=some (bD (l.take 1)):=e2
  have e3:dK .eql (.string ⟨(l.take 1).toArray⟩) (.string ⟨#[45]⟩)=some (.bool (decide (l.take 1=[45]))):=ZZ (l.take 1) [45]
  have e4:isNeg l=decide (l.take 1=[45]):=by
   cases l with
   | nil=>exact absurd h (by decide)
   | cons c l=>rw[IJ];simp
  rw[e4]
  simp only[jB,iJ,bP,e1,ge_iff_le,h,e2,e3,VX,Nat.reduceEqDiff,Nat.reduceAdd]
  exact aL rfl
 ·have e4:isNeg l=false:=by unfold isNeg;rw[decide_eq_false (by omega)];rfl
  rw[e4]
  simp only[jB,iJ,bP,e1,ge_iff_le,h,VX,Nat.reduceEqDiff,Nat.reduceAdd]
  exact aL rfl
theorem Sp (l:List UInt8):TC 191 [bD l,bD [45]] (.eG [bD (if isNeg l then l.drop 1 else l),VB (isNeg l)]):=by
 refine TC.walk ⟨true,false⟩ vJ rfl (aMl rfl) rfl rfl ?_
 have e0:=WC l
 have e1:Dl (.string ⟨#[45]⟩)=some (.int .i64 1):=rfl
 cases h:isNeg l with
 |
  true =>
  rw[h] at e0
  have hl:1≤l.length:=by
   cases l with
   | nil=>cases h
   | cons c l=>simp
  have e2:zI (bD l) (some (VI 1)) none=some (bD (l.drop 1)):=IP l (a:=1) hl
  simp only[jA,iD,e0,e1,e2,VX,Nat.reduceEqDiff,Nat.reduceAdd]
  exact aL rfl
 |
  false =>
  rw[h] at e0
  simp only[jA,iD,e0,aK9,if_false,VX,Nat.reduceEqDiff,Nat.reduceAdd]
  exact aL rfl
theorem U1 (l:List UInt8):TC 173 [bD l,bD [45]] (.eG [bD (if isNeg l then l.drop 1 else l),VB (isNeg l)]):=by
 refine TC.walk ⟨true,false⟩ Hn rfl (aMl rfl) rfl rfl ?_
 have e0:=Sp l
 simp only[B7,Ap,e0,VX,Nat.reduceEqDiff,Nat.reduceAdd]
 exact aL rfl
theorem ayU (l:List UInt8) (hl:l.length≤1000000000000):TC 190 [bD l,bD [47]] (.eG [bD (oH 47 l).1,bD ((oH 47 l).2.getD []),VB (oH 47 l).2.isSome]):=by
 refine TC.walk ⟨true,false⟩ BJ rfl (aMl rfl) rfl rfl ?_
 have e0:=asR l 47
 have e1:Dl (.string ⟨#[47]⟩)=some (.int .i64 1):=rfl
 cases h:(oH 47 l).2 with
 |
  none =>
  obtain⟨h1,h2,_⟩:=CU h
  rw[h1] at e0
  rw[h2]
  simp only[nB,lK,e0,ge_iff_le,Int.reduceNeg,Int.reduceLE,VX,Nat.reduceEqDiff,Nat.reduceAdd]
  exact aL rfl
 |
  some r =>
  obtain⟨h1,h2,_⟩:=Kz h
  rw[h1] at e0
  generalize (oH 47 l).1=a at *
  subst h2
  rw[aKI,aKH] at hl
  have h0:(0:Int)≤(a.length:Int):=by omega
  have e2:=Ps (a++47::r) (b:=a.length) (by simp)
  have e3:=IP (a++47::r) (a:=a.length+1) (by simp)
  rw[List.take_left] at e2
  have ed:(a++47::r).drop (a.length+1)=r:=by rw[List.drop_append];simp
  rw[ed] at e3
  have w:IntKind.i64.wrap ((a.length:Int)+1)=((a.length+1:Nat):Int):=wrapN _ (by omega) (by omega)
  simp only[nB,lK,e0,e1,ge_iff_le,h0,w,e2,e3,VX,Nat.reduceEqDiff,Nat.reduceAdd]
  exact aL rfl
theorem aBv (l:List UInt8) (hl:l.length≤1000000000000):TC 172 [bD l,bD [47]] (.eG [bD (oH 47 l).1,bD ((oH 47 l).2.getD []),VB (oH 47 l).2.isSome]):=by
 refine TC.walk ⟨true,false⟩ QG rfl (aMl rfl) rfl rfl ?_
 have e0:=ayU l hl
 simp only[LH,HA,e0,VX,Nat.reduceEqDiff,Nat.reduceAdd]
 exact aL rfl
def De (l:List UInt8):VV:=if jI l=true then .eG [bR (bZ l),VB true] else .eG [bR 0,VB false]
theorem acL (l:List UInt8):gZ (De l)=true:=by
 unfold De
 split<;>simp[gZ,sK,tQ,qC]
theorem ayY {d:Nat}:fz (d+1) [.row 0 [] 1 true] (.ref 0 0 0 0 0)=some (bR 0):=by
 rw[Gt]
 cases d with
 | zero=>rfl
 | succ d=>rfl
theorem PJ {n:Nat} (hn:n≤9) {lo:Nat} {H:aA} {ρ:cV} {Q:VQ} (h58:ρ 58=VI n) (h59:ρ 59=VI 0) (h9:ρ 9=VK .u64 1) (hQ:∀aQ,(∀t,t<9→aQ t=ρ t)→aQ 9=VK .u64 ((10^n:Nat):Int)→Q .normal aQ H):VW ⟨true,false⟩ lo (.loop uI) (tI 4 Q) ρ H:=by
 refine aP (fun(i:Nat) aQ H'=>i≤n∧H'=H∧(∀t,t<9→aQ t=ρ t)∧aQ 58=VI n∧aQ 59=VI i∧aQ 9=VK .u64 ((10^i:Nat):Int)) (fun i=>n-i) 0 ⟨aK1 _,rfl,fun _ _=>rfl,h58,h59,h9⟩ ?_
 rintro i aQ H' ⟨hi,rfl,hk,g58,g59,g9⟩
 by_cases bW:(i:Int)<(n:Int)
 ·have wi:IntKind.i64.wrap ((i:Int)+1)=((i+1:Nat):Int):=wrapN (i+1) (by omega) (by omega)
  have hp:10^i≤10^8:=aMA (by decide) (by omega)
  have e8:(10:Nat)^8=100000000:=by decide
  have wp:IntKind.u64.wrap (((10^i:Nat):Int)*10)=((10^(i+1):Nat):Int):=by
   rw[aLY]
   generalize 10^i=p at *
   have:=eR (p*10) (by omega)
   rw[Int.natCast_mul] at this
   rw[Int.natCast_mul]
   exact this
  simp only[uI,g58,g59,g9,bW,wi,wp,VX,Nat.reduceEqDiff,Nat.reduceAdd]
  refine⟨i+1,by omega,by omega,fun t ht => ?_,rfl,rfl⟩
  try simp only[zX]
  repeat rw[if_neg (by omega)]
  exact hk t ht
 ·have mI:i=n:=by omega
  subst mI
  simp only[uI,g58,g59,bW,VX,Nat.reduceEqDiff,Nat.reduceAdd]
  refine hQ _ (fun t ht => ?_) ?_
  ·try simp only[zX]
   repeat rw[if_neg (by omega)]
   exact hk t ht
  ·simp only[g9,VX,Nat.reduceEqDiff,Nat.reduceAdd]
theorem aiF {l:List UInt8} {i:Nat} (h:i<l.length):(l.take (i+1)).all jR=((l.take i).all jR&&jR (l.getD i 0)):=by
 rw[aMn,aNJ]
 have:l[i]? = some (l.getD i 0):=by rw[aKE h,aKu,aKE h];rfl
 rw[this]
 simp
theorem PZ {l:List UInt8} (hl:l.length≤1000000000000) {lo:Nat} {H:aA} {ρ:cV} {Q:VQ} (h0:ρ 0=bD l) (h29:ρ 29=VI l.length) (h30:ρ 30=VI 0)
  (hR:l.all jR=false→∀aQ:cV,aQ 2 = .tree [] .nil→aQ 3=VB false→Q .ret aQ H) (hN:l.all jR=true→∀aQ:cV,(∀t,t<5→aQ t=ρ t)→Q .normal aQ H):VW ⟨true,false⟩ lo (.loop mM) (tI 0 Q) ρ H:=by
 refine aP (fun(i:Nat) aQ H'=>i≤l.length∧H'=H∧(l.take i).all jR=true∧(∀t,t<5→aQ t=ρ t)∧aQ 29=VI l.length∧aQ 30=VI i) (fun i=>l.length-i) 0 ⟨aK1 _,rfl,rfl,fun _ _=>rfl,h29,h30⟩ ?_
 rintro i aQ H' ⟨hi,rfl,hd,hk,g29,g30⟩
 have g0:=(hk 0 (by decide)).trans h0
 by_cases bW:(i:Int)<(l.length:Int)
 ·have YV:i<l.length:=by omega
  have e1:=Gd l YV
  have wi:IntKind.i64.wrap ((i:Int)+1)=((i+1:Nat):Int):=wrapN (i+1) (by omega) (by omega)
  have ht:=aiF YV
  rw[hd,Bool.true_and] at ht
  have Xe:jR (l.getD i 0)=(decide (48≤(l.getD i 0).toNat)&&decide ((l.getD i 0).toNat≤57)):=rfl
  have jW:jR (l.getD i 0)=false→l.all jR=false:=by
   intro h
   rw[h] at ht
   rw[←aLG (i+1) l,aNJ,ht,Bool.false_and]
  generalize (l.getD i 0).toNat=c at *
  by_cases q1:(c:Int)<48
  ·have:=jW (by rw[Xe,decide_eq_false (by omega)];rfl)
   simp only[mM,g0,g29,g30,bW,e1,q1,VX,Nat.reduceEqDiff,Nat.reduceAdd]
   exact hR this _ (by simp only[VX,Nat.reduceEqDiff,Nat.reduceAdd]) (by simp only[VX,Nat.reduceEqDiff,Nat.reduceAdd])
  ·by_cases q2:(57:Int)<(c:Int)
   ·have:=jW (by rw[Xe,decide_eq_false (show ¬c≤57 by omega),Bool.and_false])
    simp only[mM,g0,g29,g30,bW,e1,q1,q2,VX,Nat.reduceEqDiff,Nat.reduceAdd]
    exact hR this _ (by simp only[VX,Nat.reduceEqDiff,Nat.reduceAdd]) (by simp only[VX,Nat.reduceEqDiff,Nat.reduceAdd])
   ·rw[Xe,decide_eq_true (by omega),decide_eq_true (by omega),aLV] at ht
    simp only[mM,g0,g29,g30,bW,e1,q1,q2,wi,VX,Nat.reduceEqDiff,Nat.reduceAdd]
    refine⟨i+1,by omega,by omega,ht,fun t ht => ?_,rfl⟩
    try simp only[zX]
    repeat rw[if_neg (by omega)]
    exact hk t ht
 ·have mI:i=l.length:=by omega
  subst mI
  rw[aLK] at hd
  simp only[mM,g29,g30,bW,VX,Nat.reduceEqDiff,Nat.reduceAdd]
  refine hN hd _ fun t ht => ?_
  try simp only[zX]
  repeat rw[if_neg (by omega)]
  exact hk t ht
set_option maxHeartbeats 2000000 in
theorem PL {l:List UInt8} (hd:l.all jR=true) (hl:l.length≤200) (fS:l≠[]) {ρ:cV} {Q:VQ} (h0:ρ 0=bD l) (h4:ρ 4 = .ref 0 0 0 0 0)
  (hQ:∀(aQ:cV),aQ 4=bR (bZ l)→Q .normal aQ [.row 0 [] 1 false]):VW ⟨true,false⟩ 0 (.loop pS) (tI 2 Q) ρ [.row 0 [] 1 true]:=by
 refine aP (fun(s:List UInt8×List UInt8) aQ H'=>l=s.1++s.2∧aQ 0=bD s.2∧((H'=[.row 0 [] 1 true]∧aQ 4 = .ref 0 0 0 0 0∧s.1=[])∨(H'=[.row 0 [] 1 false]∧aQ 4=bR (bZ s.1)))) (fun s=>s.2.length) ([],l) ⟨rfl,h0,.inl ⟨rfl,h4,rfl⟩⟩ ?_
 rintro⟨pre,rest⟩ aQ H' ⟨Wt,g0,hv⟩
 simp only at Wt g0 hv
 have e1:=MF rest
 by_cases he:rest=[]
 ·subst he
  rw[aLF] at Wt
  subst Wt
  rcases hv with⟨_,_,h⟩ | ⟨rfl,g4⟩
  ·exact absurd h fS
  have R6:dK .neq (.string ⟨#[]⟩) (.string ⟨#[]⟩)=some (.bool false):=by
   have:=MF []
   rw[decide_eq_true rfl] at this
   exact this
  simp only[pS,g0,R6,VX,Nat.reduceEqDiff,Nat.reduceAdd]
  exact hQ _ (by simp only[g4,VX,Nat.reduceEqDiff,Nat.reduceAdd])
 ·rw[Wt,aNJ,aK5] at hd
  obtain⟨hd1,hd2⟩:=hd
  rw[Wt,aKI] at hl
  have kZ:0<rest.length:=aNv.2 he
  have R6:dK .neq (.string ⟨rest.toArray⟩) (.string ⟨#[]⟩)=some (.bool true):=by rw[e1,decide_eq_false he];rfl
  have wm:(rest.length:Int).tmod 9=((rest.length % 9:Nat):Int):=by rw[aMz (by omega)];simp
  have er:dK .rem (.int .i64 (rest.length:Int)) (.int .i64 9)=some (.int .i64 ((rest.length % 9:Nat):Int)):=by
   rw[←wm]
   rfl
  obtain⟨n,hn⟩:∃n,n=if rest.length % 9=0 then 9 else rest.length % 9:=⟨_,rfl⟩
  have hn1:1≤n∧n≤9∧n≤rest.length:=by
   rw[hn]
   split<;>omega
  obtain⟨n1,n9,nl⟩:=hn1
  have e2:=Ps rest nl
  have e3:=IP rest nl
  have hch:(rest.take n).length=n:=by rw[aL6];omega
  have hcd:(rest.take n).all jR=true:=by
   rw[←aLG n rest,aNJ,aK5] at hd2
   exact hd2.1
  have hp:=asG (rest.take n) (bZ (rest.take n)) (by omega) (azY hcd (fun h=>by rw[h] at hch;simp at hch;omega) (by omega))
  have HC:=Kg hcd
  rw[hch] at HC
  have hp9:10^n≤10^9:=aMA (by decide) n9
  have e9:(10:Nat)^9=1000000000:=by decide
  have aHW:bZ (rest.take n)<1000000000:=by omega
  have c1:=oW (10^n) (by omega)
  have c2:=oW (bZ (rest.take n)) (by omega)
  have hbp:bl (bZ pre)≤665:=by
   refine xL (aKz (Kg hd1) ?_)
   exact aKy (aMA (by decide) (by omega:pre.length≤200)) (by decide +kernel)
  have hb9:bl (10^n)≤64:=xL (by omega)
  have hbm:=nU (bZ pre) (10^n)
  have hbc:bl (bZ (rest.take n))≤64:=xL (by omega)
  have tm:=jP (bZ pre) (10^n) (gK (by omega)) (gK (by omega))
  have c4:=FP (bZ pre*10^n) (bZ (rest.take n)) (gK (by omega)) (gK (by omega))
  have pT:bZ pre*10^n+bZ (rest.take n)=bZ (pre++rest.take n):=by rw[O0,hch]
  rw[pT] at c4
  have fin:(rest.drop n).length<rest.length∧pre++rest=(pre++rest.take n)++rest.drop n:=⟨by rw[List.length_drop];omega,by rw[aMj,aLG]⟩
  obtain⟨v4,g4,c3⟩:∃v4,aQ 4=v4∧∀lo K,dH 143 [v4,bR (10^n)] lo H' K=K (bR (bZ pre*10^n)) [.row 0 [] 1 false]:=by
   rcases hv with⟨rfl,g4,Y1⟩ | ⟨rfl,g4⟩
   ·refine⟨_,g4,fun lo K => ?_⟩
    subst Y1
    have:=tm.Dx (H:=[.row 0 [] 1 true]) (args:=[.ref 0 0 0 0 0,bR (10^n)]) (lo:=lo) (k:=K) rfl (by simp[aO,bU]) (fz2 ayY (aN (bU _))) rfl
    rw[this,show Ja (bR (bZ []*10^n))=false from rfl,if_neg (by decide),List.flatMap_cons,List.flatMap_cons,List.flatMap_nil,DV (bU _),Kl (n:=0) (c:=0) (es:=[]) (e:=1) (w:=true) aT rfl rfl]
    rfl
   ·exact⟨_,g4,fun lo K=>tm lo [.row 0 [] 1 false] K⟩
  clear hv
  obtain⟨P,hP⟩:∃P,P=10^n:=⟨_,rfl⟩
  rw[←hP] at c1 c4 c3
  have hnI:(rest.length % 9:Nat)=0∨¬(rest.length % 9:Nat)=0:=by omega
  rcases hnI with h9 | h9
  ·rw[if_pos h9] at hn
   subst hn
   have q:((rest.length % 9:Nat):Int)=0:=by omega
   have e2':zI (bD rest) none (some (VI 9))=some (bD (rest.take 9)):=e2
   have e3':zI (bD rest) (some (VI 9)) none=some (bD (rest.drop 9)):=e3
   simp only[pS,g0,g4,R6,bP,er,q,e2',hp,VX,Nat.reduceEqDiff,Nat.reduceAdd]
   refine PJ (n:=9) (by decide) ?_ ?_ ?_ fun AN k1 q9 => ?_
   ·simp only[VX,Nat.reduceEqDiff,Nat.reduceAdd];rfl
   ·simp only[VX,Nat.reduceEqDiff,Nat.reduceAdd]
   ·simp only[VX,Nat.reduceEqDiff,Nat.reduceAdd]
   rw[←hP] at q9
   have u0:AN 0=bD rest:=by rw[k1 0 (by decide)];simp only[g0,VX,Nat.reduceEqDiff,Nat.reduceAdd]
   have u4:AN 4=v4:=by rw[k1 4 (by decide)];simp only[g4,VX,Nat.reduceEqDiff,Nat.reduceAdd]
   have u6:AN 6=VI 9:=by rw[k1 6 (by decide)];simp only[VX,Nat.reduceEqDiff,Nat.reduceAdd]
   have u7:AN 7=VK .u64 (bZ (rest.take 9)):=by rw[k1 7 (by decide)];simp only[VX,Nat.reduceEqDiff,Nat.reduceAdd]
   simp only[u0,u4,u6,u7,q9,c1,c2,c3,c4,e3',VX,Nat.reduceEqDiff,Nat.reduceAdd]
   exact⟨(pre++rest.take 9,rest.drop 9),fin.1,Wt.trans fin.2,rfl,.inr rfl⟩
  ·rw[if_neg h9] at hn
   rw[←hn] at er
   have q:¬(n:Int)=0:=by omega
   simp only[pS,g0,g4,R6,bP,er,q,e2,hp,VX,Nat.reduceEqDiff,Nat.reduceAdd]
   refine PJ (n:=n) n9 ?_ ?_ ?_ fun AN k1 q9 => ?_
   ·simp only[VX,Nat.reduceEqDiff,Nat.reduceAdd]
   ·simp only[VX,Nat.reduceEqDiff,Nat.reduceAdd]
   ·simp only[VX,Nat.reduceEqDiff,Nat.reduceAdd]
   rw[←hP] at q9
   have u0:AN 0=bD rest:=by rw[k1 0 (by decide)];simp only[g0,VX,Nat.reduceEqDiff,Nat.reduceAdd]
   have u4:AN 4=v4:=by rw[k1 4 (by decide)];simp only[g4,VX,Nat.reduceEqDiff,Nat.reduceAdd]
   have u6:AN 6=VI n:=by rw[k1 6 (by decide)];simp only[VX,Nat.reduceEqDiff,Nat.reduceAdd]
   have u7:AN 7=VK .u64 (bZ (rest.take n)):=by rw[k1 7 (by decide)];simp only[VX,Nat.reduceEqDiff,Nat.reduceAdd]
   simp only[u0,u4,u6,u7,q9,c1,c2,c3,c4,e3,VX,Nat.reduceEqDiff,Nat.reduceAdd]
   exact⟨(pre++rest.take n,rest.drop n),fin.1,Wt.trans fin.2,rfl,.inr rfl⟩
set_option maxHeartbeats 2000000 in
theorem FE (l:List UInt8) (hl:l.length≤1000000000000):TC 174 [bD l] (De l):=by
 refine TC.walk ⟨true,false⟩ Ox rfl (aMl rfl) rfl (acL l) ?_
 have e1:=WR l
 by_cases he:l=[]
 ·have hk:jI l=false:=by rw[he];rfl
  have R6:dK .eql (.string ⟨l.toArray⟩) (.string ⟨#[]⟩)=some (.bool true):=by rw[e1,decide_eq_true he]
  unfold De
  rw[hk]
  simp only[sM,nP,R6,aK9,if_false,VX,Nat.reduceEqDiff,Nat.reduceAdd]
  exact bN (d:=6) AI (aN (v:=VB false) rfl)
 have kZ:0<l.length:=aNv.2 he
 by_cases arS:(200:Int)<(l.length:Int)
 ·have hk:jI l=false:=by
   cases h:jI l with
   | false=>rfl
   | true=>have:=(lH.1 h).2.2.1;omega
  unfold De
  rw[hk]
  simp only[sM,nP,e1,he,decide_false,bP,arS,aK9,if_false,VX,Nat.reduceEqDiff,Nat.reduceAdd]
  exact bN (d:=6) AI (aN (v:=VB false) rfl)
 have e2:=KX l kZ
 by_cases hz:(((l.getD 0 0).toNat:Int)=48∧1<(l.length:Int))
 ·obtain⟨Km,NJ⟩:=hz
  have hk:jI l=false:=by
   cases h:jI l with
   | false=>rfl
   |
    true =>
    rcases(lH.1 h).2.2.2 with h1 | h1
    ·omega
    ·exact absurd (UInt8.toNat_inj.1 (by rw[show (48:UInt8).toNat=48 from rfl];omega)) h1
  unfold De
  rw[hk]
  simp only[sM,nP,e1,he,decide_false,bP,arS,e2,Km,NJ,aK9,if_false,VX,Nat.reduceEqDiff,Nat.reduceAdd]
  exact bN (d:=6) AI (aN (v:=VB false) rfl)
 have aAK:l.length=1∨l.getD 0 0≠48:=by
  by_cases h1:l.length=1
  ·exact .inl h1
  ·right
   intro h2
   apply hz
   rw[h2]
   exact⟨rfl,by omega⟩
 have e3:∀lr,mR lr [.int .u32 0] 0 [] []=some (.ref 0 0 0 0 0,[.row 0 [] 1 true]):=fun lr=>mT (H:=[]) (lr:=lr) (z:=[.int .u32 0]) rfl
 have kN:l.all jR=true→jI l=true:=fun h=>lH.2 ⟨h,kZ,by omega,aAK⟩
 have kF:l.all jR=false→jI l=false:=fun h=>by unfold jI;rw[h];rfl
 have rF:jI l=false→De l = .eG [bR 0,VB false]:=fun h=>by unfold De;rw[h];rfl
 have rT:jI l=true→De l = .eG [bR (bZ l),VB true]:=fun h=>if_pos h
 by_cases hA:(((l.getD 0 0).toNat:Int)=48)
 ·have hB:¬1<(l.length:Int):=fun h=>hz ⟨hA,h⟩
  simp only[sM,nP,e1,e3,he,decide_false,bP,arS,e2,hA,hB,aK9,if_false,VX,Nat.reduceEqDiff,Nat.reduceAdd]
  refine PZ hl ?_ ?_ ?_ (fun hd AN g2 g3 => ?_) fun hd AN k1 => ?_
  ·simp only[VX,Nat.reduceEqDiff,Nat.reduceAdd]
  ·simp only[VX,Nat.reduceEqDiff,Nat.reduceAdd]
  ·simp only[VX,Nat.reduceEqDiff,Nat.reduceAdd]
  ·rw[rF (kF hd)]
   simp only[g2,g3,VX,Nat.reduceEqDiff,Nat.reduceAdd]
   exact bN (d:=6) AI (aN (v:=VB false) rfl)
  ·rw[rT (kN hd)]
   simp only[VX,Nat.reduceEqDiff,Nat.reduceAdd]
   refine PL hd (by omega) he ?_ ?_ fun tC g4 => ?_
   ·rw[k1 0 (by decide)];simp only[VX,Nat.reduceEqDiff,Nat.reduceAdd]
   ·rw[k1 4 (by decide)];simp only[VX,Nat.reduceEqDiff,Nat.reduceAdd]
   ·simp only[g4,VX,Nat.reduceEqDiff,Nat.reduceAdd]
    exact bN (d:=6) (aN (bU _)) (aN (v:=VB true) rfl)
 ·simp only[sM,nP,e1,e3,he,decide_false,bP,arS,e2,hA,aK9,if_false,VX,Nat.reduceEqDiff,Nat.reduceAdd]
  refine PZ hl ?_ ?_ ?_ (fun hd AN g2 g3 => ?_) fun hd AN k1 => ?_
  ·simp only[VX,Nat.reduceEqDiff,Nat.reduceAdd]
  ·simp only[VX,Nat.reduceEqDiff,Nat.reduceAdd]
  ·simp only[VX,Nat.reduceEqDiff,Nat.reduceAdd]
  ·rw[rF (kF hd)]
   simp only[g2,g3,VX,Nat.reduceEqDiff,Nat.reduceAdd]
   exact bN (d:=6) AI (aN (v:=VB false) rfl)
  ·rw[rT (kN hd)]
   simp only[VX,Nat.reduceEqDiff,Nat.reduceAdd]
   refine PL hd (by omega) he ?_ ?_ fun tC g4 => ?_
   ·rw[k1 0 (by decide)];simp only[VX,Nat.reduceEqDiff,Nat.reduceAdd]
   ·rw[k1 4 (by decide)];simp only[VX,Nat.reduceEqDiff,Nat.reduceAdd]
   ·simp only[g4,VX,Nat.reduceEqDiff,Nat.reduceAdd]
    exact bN (d:=6) (aN (bU _)) (aN (v:=VB true) rfl)
def Px:VV := .agg [VB false,bR 0,bR 0]
def Ga (l:List UInt8):VV:=match BI l with
 | some q => .eG [aF q,VB true]
 | none => .eG [Px,VB false]
theorem UJ:gZ Px=true:=by simp[Px,gZ,sK,tQ,qC]
theorem Xr (l:List UInt8):gZ (Ga l)=true:=by
 unfold Ga
 split<;>simp[gZ,sK,pO,UJ,qC]
theorem iK {d:Nat} {H:aA}:fz (d+2) H (.agg [VB false,.tree [] .nil,.tree [] .nil])=some Px:=tZ (aN (v:=VB false) rfl) AI AI
theorem P5 {neg:Bool} {t b:Nat} (hb:b≠0) (hg:aNf t b=1) (hn:¬(neg=true∧t=0)):aF (mkRat (mG neg t) b) = .agg [VB neg,bR t,bR b]:=by
 obtain⟨e1,e2⟩:=Me (neg:=neg) hb hg
 refine DQ ?_ (by rw[e1,qV]) e2
 rw[e1]
 cases neg with
 | false=>unfold mG;simp
 |
  true =>
  have:t≠0:=fun h=>hn ⟨rfl,h⟩
  unfold mG
  simp
  omega
theorem Ya (l:List UInt8):BI l=rS (isNeg (oH 47 l).1) (if isNeg (oH 47 l).1 then (oH 47 l).1.drop 1 else (oH 47 l).1) (oH 47 l).2:=by
 cases l with
 | nil=>rfl
 |
  cons c r =>
  unfold BI
  by_cases h47:c=47
  ·subst h47
   rfl
  ·have e:oH 47 (c::r)=(c::(oH 47 r).1,(oH 47 r).2):=by rw[oH,if_neg h47]
   by_cases h45:c=45
   ·subst h45
    rw[e]
    rfl
   ·rw[e,IJ,IJ,decide_eq_false h45]
    simp only[aK9,if_false,e]
theorem Wl {c:UInt8}:∀ {l:List UInt8},(oH c l).1.length≤l.length∧∀t,(oH c l).2=some t→t.length≤l.length:=by
 intro l
 cases h:(oH c l).2 with
 | none=>rw[(CU h).2.1];exact⟨aKx _,fun t ht=>by cases ht⟩
 |
  some r =>
  have:=congrArg List.length (Kz h).2.1
  rw[aKI,aKH] at this
  exact⟨by omega,fun t ht=>by cases ht;omega⟩
theorem QP {n:Nat}:(((aD 4294967296 n).length:Nat):Int)=0↔n=0:=by
 rw[←nR (b:=4294967296) (n:=n) (by decide),←aMF]
 omega
set_option maxRecDepth 100000 in
set_option maxHeartbeats 4000000 in
theorem PC (l:List UInt8) (hl:l.length≤1000000000000):TC 115 [bD l] (Ga l):=by
 refine TC.walk ⟨true,false⟩ PX rfl (aMl rfl) rfl (Xr l) ?_
 have e1:=aBv l hl
 obtain⟨l1,l2⟩:=Wl (c:=47) (l:=l)
 have hq:=Ya l
 unfold Ga
 rw[hq]
 clear hq
 generalize (oH 47 l).1=f at *
 generalize (oH 47 l).2=s2 at *
 have e2:=U1 f
 have ld:(if isNeg f=true then f.drop 1 else f).length≤f.length:=by split<;>simp
 generalize (if isNeg f=true then f.drop 1 else f)=d at *
 generalize isNeg f=neg at *
 have e3:=FE d (by omega)
 have c1:TC 139 [.sc (.int .u64 1)] (bR 1):=oW 1 (by decide)
 cases hd:jI d with
 |
  false =>
  have hp:rS neg d s2=none:=if_pos (.inl hd)
  rw[hp]
  unfold De at e3
  rw[hd,if_neg (by decide)] at e3
  simp only[fD,dJ,e1,e2,e3,aJ,gH,Nat.reduceLeDiff,Nat.reduceLT,Nat.reduceSub,VX,Nat.reduceEqDiff,Nat.reduceAdd]
  exact bN (d:=6) iK (aN (v:=VB false) rfl)
 |
  true =>
  unfold De at e3
  rw[hd,if_pos rfl] at e3
  by_cases hz:neg=true∧bZ d=0
  ·have hp:rS neg d s2=none:=if_pos (.inr hz)
   rw[hp]
   obtain⟨rfl,Cy⟩:=hz
   rw[Cy] at e3
   have Co:(((aD 4294967296 0).length:Nat):Int)=0:=QP.2 rfl
   simp only[fD,dJ,e1,e2,e3,dN,Co,aJ,gH,Nat.reduceLeDiff,Nat.reduceLT,Nat.reduceSub,VX,Nat.reduceEqDiff,Nat.reduceAdd]
   exact bN (d:=6) iK (aN (v:=VB false) rfl)
  ·have hbt:=BU hd
   have Co:neg=true→¬(((aD 4294967296 (bZ d)).length:Nat):Int)=0:=fun h h0=>hz ⟨h,QP.1 h0⟩
   cases s2 with
   |
    none =>
    have hp:rS neg d none=some (mkRat (mG neg (bZ d)) 1):=if_neg (by rw[hd];rintro(h | h);exact absurd h (by decide);exact hz h)
    rw[hp]
    simp only[]
    rw[P5 (by decide) (Nat.gcd_one_right _) hz]
    cases neg with
    |
     false =>
     simp only[fD,dJ,e1,e2,e3,c1,aLc,Option.getD_none,aJ,aZ,bA,aS,gH,Nat.reduceLeDiff,Nat.reduceLT,Nat.reduceSub,VX,Nat.reduceEqDiff,Nat.reduceAdd]
     exact bN (d:=6) (tZ (aN (v:=VB false) rfl) (aN (bU _)) (aN (bU _))) (aN (v:=VB true) rfl)
    |
     true =>
     have Co:=Co rfl
     simp only[fD,dJ,e1,e2,e3,c1,dN,Co,aLc,Option.getD_none,aJ,aZ,bA,aS,gH,Nat.reduceLeDiff,Nat.reduceLT,Nat.reduceSub,VX,Nat.reduceEqDiff,Nat.reduceAdd]
     exact bN (d:=6) (tZ (aN (v:=VB true) rfl) (aN (bU _)) (aN (bU _))) (aN (v:=VB true) rfl)
   |
    some t =>
    have e4:=FE t (by have:=l2 t rfl;omega)
    have hp:rS neg d (some t)=if jI t=true∧1<bZ t∧aNf (bZ d) (bZ t)=1 then some (mkRat (mG neg (bZ d)) (bZ t)) else none:=if_neg (by rw[hd];rintro(h | h);exact absurd h (by decide);exact hz h)
    rw[hp]
    cases ht:jI t with
    |
     false =>
     rw[if_neg (fun h=>absurd h.1 (by decide))]
     unfold De at e4
     rw[ht,if_neg (by decide)] at e4
     cases neg with
     |
      false =>
      simp only[fD,dJ,e1,e2,e3,e4,c1,aNK,aNL,aJ,aZ,bA,aS,gH,Nat.reduceLeDiff,Nat.reduceLT,Nat.reduceSub,VX,Nat.reduceEqDiff,Nat.reduceAdd]
      exact bN (d:=6) iK (aN (v:=VB false) rfl)
     |
      true =>
      have Co:=Co rfl
      simp only[fD,dJ,e1,e2,e3,e4,c1,dN,Co,aNK,aNL,aJ,aZ,bA,aS,gH,Nat.reduceLeDiff,Nat.reduceLT,Nat.reduceSub,VX,Nat.reduceEqDiff,Nat.reduceAdd]
      exact bN (d:=6) iK (aN (v:=VB false) rfl)
    |
     true =>
     have Pp:=BU ht
     unfold De at e4
     rw[ht,if_pos rfl] at e4
     have c2:=lS (bZ t) 1 (gK (by omega)) (gK (aKy (xL (n:=1) (k:=1) (by decide)) (by decide)))
     have c3:=Fg (bZ d) (bZ t) (gK (by omega)) (gK (by omega))
     by_cases h1:gC (bZ t) 1≤0
     ·have hle:¬1<bZ t:=fun h=>by unfold gC at h1;rw[if_neg (by omega),if_neg (by omega)] at h1;exact absurd h1 (by decide)
      rw[if_neg (fun h=>hle h.2.1)]
      cases neg with
      |
       false =>
       simp only[fD,dJ,e1,e2,e3,e4,c1,c2,h1,aNK,aNL,aJ,aZ,bA,aS,gH,Nat.reduceLeDiff,Nat.reduceLT,Nat.reduceSub,VX,Nat.reduceEqDiff,Nat.reduceAdd]
       exact bN (d:=6) iK (aN (v:=VB false) rfl)
      |
       true =>
       have Co:=Co rfl
       simp only[fD,dJ,e1,e2,e3,e4,c1,c2,h1,dN,Co,aNK,aNL,aJ,aZ,bA,aS,gH,Nat.reduceLeDiff,Nat.reduceLT,Nat.reduceSub,VX,Nat.reduceEqDiff,Nat.reduceAdd]
       exact bN (d:=6) iK (aN (v:=VB false) rfl)
     ·have bH:1<bZ t:=by
       rcases Nat.lt_or_ge 1 (bZ t) with h | h
       ·exact h
       ·exfalso
        apply h1
        unfold gC
        split
        ·decide
        ·rw[if_pos (by omega)];decide
      have hgl:bl (aNf (bZ d) (bZ t))≤665:=aKy (lZ (Nat.le_of_dvd (by omega) (Nat.gcd_dvd_right _ _))) Pp
      have c4:=lS (aNf (bZ d) (bZ t)) 1 (gK (by omega)) (gK (aKy (xL (n:=1) (k:=1) (by decide)) (by decide)))
      by_cases hg:aNf (bZ d) (bZ t)=1
      ·have h4:gC (aNf (bZ d) (bZ t)) 1=0:=by rw[hg];rfl
       rw[if_pos ⟨rfl,bH,hg⟩]
       simp only[]
       rw[P5 (by omega) hg hz]
       cases neg with
       |
        false =>
        simp only[fD,dJ,e1,e2,e3,e4,c1,c2,c3,c4,h1,h4,aNK,aNL,aJ,aZ,bA,aS,gH,Nat.reduceLeDiff,Nat.reduceLT,Nat.reduceSub,VX,Nat.reduceEqDiff,Nat.reduceAdd]
        exact bN (d:=6) (tZ (aN (v:=VB false) rfl) (aN (bU _)) (aN (bU _))) (aN (v:=VB true) rfl)
       |
        true =>
        have Co:=Co rfl
        simp only[fD,dJ,e1,e2,e3,e4,c1,c2,c3,c4,h1,h4,dN,Co,aNK,aNL,aJ,aZ,bA,aS,gH,Nat.reduceLeDiff,Nat.reduceLT,Nat.reduceSub,VX,Nat.reduceEqDiff,Nat.reduceAdd]
        exact bN (d:=6) (tZ (aN (v:=VB true) rfl) (aN (bU _)) (aN (bU _))) (aN (v:=VB true) rfl)
      ·have h4:¬gC (aNf (bZ d) (bZ t)) 1=0:=by
        unfold gC
        split<;>(try split)<;>first | decide | omega
       rw[if_neg (fun h=>hg h.2.2)]
       cases neg with
       |
        false =>
        simp only[fD,dJ,e1,e2,e3,e4,c1,c2,c3,c4,h1,h4,aNK,aNL,aJ,aZ,bA,aS,gH,Nat.reduceLeDiff,Nat.reduceLT,Nat.reduceSub,VX,Nat.reduceEqDiff,Nat.reduceAdd]
        exact bN (d:=6) iK (aN (v:=VB false) rfl)
       |
        true =>
        have Co:=Co rfl
        simp only[fD,dJ,e1,e2,e3,e4,c1,c2,c3,c4,h1,h4,dN,Co,aNK,aNL,aJ,aZ,bA,aS,gH,Nat.reduceLeDiff,Nat.reduceLT,Nat.reduceSub,VX,Nat.reduceEqDiff,Nat.reduceAdd]
        exact bN (d:=6) iK (aN (v:=VB false) rfl)
end Go.PM
namespace Go.PM
open Go.Lib
theorem VP {l:List UInt8} {q:Rat} (h:BI l=some q):Ga l = .eG [aF q,VB true]:=by unfold Ga;rw[h]
theorem VM {l:List UInt8} (h:BI l=none):Ga l = .eG [Px,VB false]:=by unfold Ga;rw[h]
theorem LW:aB Px=[VB false,bR 0,bR 0]:=rfl
theorem OU:isAny Px=false:=rfl
theorem Wq:dO true 3 Px 0=some Px:=rfl
theorem QZ (q:Rat):∃s k,Cm q = .eG [bD s,VB k]:=by
 unfold Cm
 split<;>exact⟨_,_,rfl⟩
end Go.PM
namespace Go.PM
open Go.Lib
theorem zE {q:Rat}:jJ q=0↔q=0:=by
 rw[←Rat.num_eq_zero]
 rcases Int.lt_trichotomy q.num 0 with h | h | h
 ·rw[oP h];omega
 ·rw[lB h];simp[h]
 ·rw[oV h];omega
end Go.PM
namespace Go.PM
open Go.Lib
theorem Wi {α:Type} {f:α→VV} {d e b g c:Nat} {xs:List α} {H:aA} {w:Bool} (hp:∀x,aY (f x)=true) (h:aG H b g=some (xs.map f,e,w)) (hc:xs.length≤c):fz (d+2) H (.ref b g 0 xs.length c)=some (aC f xs):=by
 have:aY (.ref b g 0 xs.length c)=false:=rfl
 unfold PM.fz
 simp only[this,h,aK9,if_false]
 rw[if_pos ⟨by simp,hc⟩,aLJ,aLq (by simp),mapM_pure (fO hp)]
 rfl
theorem Cd {d:Nat} {H:aA}:fz (d+1) H (.tree [] .nil)=some (.tree [] .op):=by
 unfold PM.fz
 have:aY (.tree [] .nil)=false:=by simp[aY]
 simp[this]
theorem Ij {H:aA}:fz depth H (.eG [.tree [] .nil,VB false])=some (.eG [.tree [] .op,VB false]):=bN (d:=6) Cd (aN (v:=VB false) rfl)
theorem zP {u v:VV} (hu:gZ u=true) (hv:gZ v=true):gZ (.eG [u,v])=true:=by simp only[gZ,sK,hu,hv,aLV]
theorem abL {u v:VV} (hu:aY u=true) (hv:aY v=true):aY (.eG [u,v])=true:=by simp only[aY,aO,hu,hv,aLV]
theorem Al {u:VV} (hu:aY u=true):aO [u]=true:=by simp only[aO,hu,aLV]
theorem Lr {u v:VV} (hu:aY u=true) (hv:aY v=true):aO [u,v]=true:=by simp only[aO,hu,hv,aLV]
def pQ (s:ByteArray):Option Rat:=BI s.data.toList
theorem akJ (s:ByteArray):sV s=bD s.data.toList:=rfl
def sZ (xs:List ByteArray):Option (List Rat):=if xs.length≤300 then xs.mapM pQ else none
def Q5 (o:Option (List Rat)):VV:=match o with
 | some qs => .eG [aC aF qs,VB true]
 | none => .eG [aC aF [],VB false]
theorem dD (q:Rat):(aB (aF q)).length=3:=rfl
theorem gO (qs:List Rat):aY (aC aF qs)=true:=mN dD fZ
theorem afH (q:Rat):CJ (aF q)=true:=by simp[CJ,aF,bR]
theorem GY (qs:List Rat):gZ (aC aF qs)=true:=zL dD pO afH
theorem Rb (o:Option (List Rat)):gZ (Q5 o)=true:=by
 unfold Q5
 split
 ·exact zP (GY _) rfl
 ·exact zP (GY []) rfl
theorem RC {α β:Type} {f:α→Option β} {xs:List α} {ys:List β} {x:α} {y:β} (h:xs.mapM f=some ys) (hx:f x=some y):(xs++[x]).mapM f=some (ys++[y]):=by
 rw[List.mapM_append,h]
 simp[hx]
theorem mapM_none {α β:Type} {f:α→Option β} {x:α} (hx:f x=none):∀ {xs:List α},x∈xs→xs.mapM f=none
 | [],h=>by cases h
 |
  y::xs,h=>by
  rw[aLU]
  cases hy:f y with
  | none=>rfl
  |
   some z =>
   rcases aLL.1 h with rfl | h
   ·rw[hx] at hy;cases hy
   ·show ((xs.mapM f).bind fun zs=>some (z::zs))=none
    rw[mapM_none hx h];rfl
theorem mapM_mem {α β:Type} {f:α→Option β} {P:β→Prop} (hP:∀x y,f x=some y→P y):∀ {xs:List α} {ys:List β},xs.mapM f=some ys→∀y∈ys,P y
 | [],ys,h,y,hy=>by simp at h;subst h;cases hy
 |
  x::xs,ys,h,y,hy=>by
  rw[aLU] at h
  cases hx:f x with
  | none=>rw[hx] at h;cases h
  |
   some z =>
   rw[hx] at h
   cases hs:xs.mapM f with
   | none=>rw[hs] at h;cases h
   |
    some zs =>
    rw[hs] at h
    cases h
    rcases aLL.1 hy with rfl | hy
    ·exact hP _ _ hx
    ·exact mapM_mem hP hs _ hy
theorem sQ {α:Type} {xs:List α} {i:Nat} {x:α} (h:xs[i]? = some x):xs.take (i+1)=xs.take i++[x]:=by rw[aMn,h];rfl
theorem nD {xs:List ByteArray} {qs:List Rat} (h:sZ xs=some qs):(∀q∈qs,aK q≤665)∧qs.length≤300∧qs.length=xs.length:=by
 unfold sZ at h
 split at h
 ·rename_i hl
  have:=A9 h
  exact⟨mapM_mem (fun _ _ h=>Xw h) h,by omega,this⟩
 ·cases h
set_option maxHeartbeats 1000000 in
theorem Gc (xs:List ByteArray) (hn:xs.length≤1000000000) (hs:∀s∈xs,s.size≤1000000000):TC 65 [gL xs] (Q5 (sZ xs)):=by
 refine TC.walk ⟨true,false⟩ VH rfl (aMl rfl) (by simp[aO,kH]) (Rb _) ?_
 unfold sZ
 by_cases Xl:(300:Int)<(xs.length:Int)
 ·rw[if_neg (by omega)]
  simp only[KA,F7,Xl,VX,Nat.reduceEqDiff,Nat.reduceAdd]
  exact Ij
 rw[if_pos (by omega)]
 have e0:=fun H=>mT (H:=H) (lr:=false) (z:=[.bool false,.slice none 0 0,.slice none 0 0]) rfl
 simp only[KA,F7,Xl,e0,VX,Nat.reduceEqDiff,Nat.reduceAdd]
 refine Oi (fun(s:Nat×List Rat) ρ H=>s.1≤xs.length∧(xs.take s.1).mapM pQ=some s.2∧H=[.row s.1 (s.2.map aF) 3 true]∧ρ 4 = .ref 0 s.1 0 s.1 s.1∧ρ 13=gL xs∧ρ 14=VI xs.length∧ρ 15=VI s.1) (fun s=>xs.length-s.1) (0,[]) ⟨aK1 _,rfl,rfl,rfl,rfl,rfl,rfl⟩ ?_
 rintro⟨i,out⟩ ρ H ⟨hi,wI,rfl,g4,g13,g14,g15⟩
 simp only at hi wI g4 g15
 have hJ:out.length=i:=by rw[A9 wI,aL6];omega
 by_cases bW:(i:Int)<(xs.length:Int)
 ·obtain⟨x,hx⟩:∃x,xs[i]? = some x:=⟨_,aKE (by omega)⟩
  have hxm:=aLr hx
  have e1:=fun H=>aH (f:=sV) (t := .op) (H:=H) (size:=1) (k := .i64) hx rfl
  have wi:IntKind.i64.wrap ((i:Int)+1)=((i+1:Nat):Int):=wrapN (i+1) (by omega) (by omega)
  have e2:=PC x.data.toList (by have:=hs x hxm;rw[Array.length_toList];show x.size≤_;omega)
  rw[←akJ] at e2
  cases hp:pQ x with
  |
   none =>
   rw[VM hp] at e2
   rw[mapM_none hp hxm]
   simp only[AL,g4,g13,g14,g15,bW,e1,e2,LW,OU,Wq,bA,aZ,aS,gH,Nat.reduceLeDiff,Nat.reduceLT,Nat.reduceSub,nH,cD,cP,gP,lO,pN,bne_iff_ne,ne_eq,not_false_eq_true,not_true_eq_false,VX,Nat.reduceEqDiff,Nat.reduceAdd]
   exact Ij
  |
   some q =>
   rw[VP hp] at e2
   have eL:∀H,mR false [.bool false,.slice none 0 0,.slice none 0 0] 1 [(0,aF q)] H=some (.tree [aF q] (.cl 3),H):=fun H=>iX rfl rfl rfl
   have eS:∀H,cW 3 (.tree [aF q] (.cl 3)) H=some [aF q]:=fun H=>eV rfl rfl
   have eP:dP 0 3 56 (.ref 0 i 0 i i) [aF q] [.row i (out.map aF) 3 true,.row 0 [aF q] 3 true]=some (.ref 0 (i+1) 0 (i+1) (i+1),[.row (i+1) ((out++[q]).map aF) 3 true,.row 0 [aF q] 3 true]):=by
    rw[jQ (f:=aF) (xs:=out) (by rw[aT]) hJ.symm (aKx _) (by decide) (by decide) (by omega),aMb]
   simp only[AL,g4,g13,g14,g15,bW,e1,e2,eL,eS,eP,wi,aJ,cM,bI,bA,aZ,aS,gH,Nat.reduceLeDiff,Nat.reduceLT,Nat.reduceSub,nH,cD,cP,gP,lO,pN,bne_iff_ne,ne_eq,not_false_eq_true,not_true_eq_false,VX,Nat.reduceEqDiff,Nat.reduceAdd]
   refine⟨(i+1,out++[q]),by simp only;omega,?_,by simp only;omega,by simp only[sQ hx];exact RC wI hp,rfl,?_⟩
   ·rw[DC (oK _ (fO fZ)),Kw]
   ·simp only[AY,g13,g14,Da (kH _),Le (Nat.lt_succ_self 0),VX,Nat.reduceEqDiff,Nat.reduceAdd,aNM,oC,List.all_nil,aMa,AY,OO,Da]
 ·have mI:i=xs.length:=by omega
  subst mI
  rw[aLK] at wI
  rw[wI]
  simp only[AL,g4,g13,g14,g15,bW,VX,Nat.reduceEqDiff,Nat.reduceAdd]
  refine bN (d:=6) ?_ (aN (v:=VB true) rfl)
  have:=Wi (d:=5) (w:=true) (f:=aF) (e:=3) (b:=0) (g:=xs.length) (c:=xs.length) (xs:=out) (H:=[.row xs.length (out.map aF) 3 true]) fZ (by rw[aT]) (by omega)
  rw[hJ] at this
  exact this
end Go.PM
namespace Go.PM
open Go.Lib
theorem aoH {α:Type} {l:List α} (h:l.Nodup) {i j:Nat} {x:α} (hi:l[i]? = some x) (hj:l[j]? = some x):i=j:=by
 obtain⟨hi,qI⟩:=aKw.1 hi
 obtain⟨hj,hj'⟩:=aKw.1 hj
 have h:=List.pairwise_iff_getElem.1 h
 rcases Nat.lt_trichotomy i j with bH | heq | hgt
 ·exact absurd (qI.trans hj'.symm) (h i j hi hj bH)
 ·exact heq
 ·exact absurd (hj'.trans qI.symm) (h j i hj hi hgt)
section
variable {α:Type} {f:α→VV} {e lo hi:Nat} {H H':aA} {v:VV}
def jV (lo hi:Nat) (H H':aA):Prop:=∀b g x,lo≤b→b<hi→aG H b g=some x→aG H' b g=some x
theorem jV.pre (h:H <+: H'):jV lo hi H H':=fun _ _ _ _ _=>cJ h
theorem jV.refl:jV lo hi H H:=fun _ _ _ _ _ h=>h
theorem jV.trans {WB:aA} (h:jV lo hi H H') (h':jV lo hi H' WB):jV lo hi H WB:=fun b g x h1 h2 h3=>h' b g x h1 h2 (h b g x h1 h2 h3)
theorem jV.sub {l h':Nat} (h:jV lo hi H H') (hl:lo≤l) (hh:h'≤hi):jV l h' H H':=fun b g x h1 h2=>h b g x (by omega) (by omega)
theorem jV.set {b:Nat} {x:fN} (hb:b<lo∨hi≤b):jV lo hi H (H.set b x):=fun _ _ _ h1 h2=>aX (by omega)
theorem jV.move {L:aA}:jV H.length hi (List.replicate H.length .dead++L) (H++L):=fun _ _ _ h1 _=>KH h1
def W1 (f:α→VV) (e:Nat) (cG:List α) (lo hi:Nat) (H:aA) (v:VV):Prop :=
 (v = .tree [] .nil∧cG=[])∨∃b g c,lo≤b∧b<hi∧v = .ref b g 0 cG.length c∧cG.length≤c∧aG H b g=some (cG.map f,e,true)
theorem W1.dC {cG:List α} (h:W1 f e cG lo hi H v) (hk:jV lo hi H H'):W1 f e cG lo hi H' v:=by
 rcases h with h | ⟨b,g,c,h1,h2,h3,h4,h5⟩
 ·exact .inl h
 ·exact .inr ⟨b,g,c,h1,h2,h3,h4,hk _ _ _ h1 h2 h5⟩
theorem W1.wide {cG:List α} {gB qI:Nat} (h:W1 f e cG lo hi H v) (hl:gB≤lo) (hh:hi≤qI):W1 f e cG gB qI H v:=by
 rcases h with h | ⟨b,g,c,h1,h2,h3⟩
 ·exact .inl h
 ·exact .inr ⟨b,g,c,by omega,by omega,h3⟩
theorem GK {d b g c:Nat} {xs:List α} {w:Bool} (hp:∀x,aY (f x)=true) (h:aG H b g=some (xs.map f,e,w)) (hc:xs.length≤c):fz (d+2) H (.ref b g 0 xs.length c)=some (aC f xs):=by
 have:aY (.ref b g 0 xs.length c)=false:=rfl
 show PM.fz ((d+1)+1) H _=_
 unfold PM.fz
 simp only[this,h,aK9,if_false]
 rw[if_pos ⟨by simp,hc⟩,aLJ,aLq (by simp),mapM_pure (n:=d) (fO hp)]
 rfl
theorem W1.fz {d:Nat} {cG:List α} (h:W1 f e cG lo hi H v) (hp:∀x,aY (f x)=true):PM.fz (d+2) H v=some (aC f cG):=by
 rcases h with⟨rfl,rfl⟩ | ⟨b,g,c,h1,h2,rfl,h4,h5⟩
 ·exact P6
 ·exact GK hp h5 h4
structure CF (α:Type) where
 b:Nat
 g:Nat
 c:Nat
 xs:List α
def tL (r:CF α):VV := .ref r.b r.g 0 r.xs.length r.c
structure aaI (f:α→VV) (e lo hi b:Nat) (H:aA) (rs:List (CF α)):Prop where
 nd:(rs.map (·.b)).Nodup
 row:∀r∈rs,lo≤r.b∧r.b<hi∧r.b≠b∧r.xs.length≤r.c∧aG H r.b r.g=some (r.xs.map f,e,true)
def RG (f:α→VV) (e:Nat) (cG:List (List α)) (lo hi:Nat) (H:aA) (v:VV):Prop :=
 (v = .tree [] .nil∧cG=[])∨∃b g c rs,lo≤b∧b<hi∧v = .ref b g 0 cG.length c∧cG.length≤c∧aG H b g=some (rs.map tL,1,true)∧rs.map (·.xs)=cG∧aaI f e lo hi b H rs
theorem RG.dC {cG:List (List α)} (h:RG f e cG lo hi H v) (hk:jV lo hi H H'):RG f e cG lo hi H' v:=by
 rcases h with h | ⟨b,g,c,rs,h1,h2,h3,h4,h5,h6,h7⟩
 ·exact .inl h
 ·exact .inr ⟨b,g,c,rs,h1,h2,h3,h4,hk _ _ _ h1 h2 h5,h6,h7.nd,fun r hr=>by
   obtain⟨k1,k2,k3,k4,k5⟩:=h7.row r hr
   exact⟨k1,k2,k3,k4,hk _ _ _ k1 k2 k5⟩⟩
theorem RG.wide {cG:List (List α)} {gB qI:Nat} (h:RG f e cG lo hi H v) (hl:gB≤lo) (hh:hi≤qI):RG f e cG gB qI H v:=by
 rcases h with h | ⟨b,g,c,rs,h1,h2,h3,h4,h5,h6,h7⟩
 ·exact .inl h
 ·exact .inr ⟨b,g,c,rs,by omega,by omega,h3,h4,h5,h6,h7.nd,fun r hr=>by
   obtain⟨k1,k2,k3,k4,k5⟩:=h7.row r hr
   exact⟨by omega,by omega,k3,k4,k5⟩⟩
theorem Z6 {d b g c lo hi:Nat} {rs:List (CF α)} {w:Bool} (hp:∀x,aY (f x)=true) (h:aG H b g=some (rs.map tL,1,w)) (hc:rs.length≤c) (hR:aaI f e lo hi b H rs) :
  fz (d+3) H (.ref b g 0 rs.length c)=some (aC (aC f) (rs.map (·.xs))):=by
 have:aY (.ref b g 0 rs.length c)=false:=rfl
 show PM.fz ((d+2)+1) H _=_
 unfold PM.fz
 simp only[this,h,aK9,if_false]
 rw[if_pos ⟨by simp,hc⟩,aLJ,aLq (by simp),mapM_map (f:=tL) (f':=fun r=>aC f r.xs) fun r hr=>GK hp (hR.row r hr).2.2.2.2 (hR.row r hr).2.2.2.1]
 simp[aC,List.map_map]
theorem RG.fz {d:Nat} {cG:List (List α)} (h:RG f e cG lo hi H v) (hp:∀x,aY (f x)=true):PM.fz (d+3) H v=some (aC (aC f) cG):=by
 rcases h with⟨rfl,rfl⟩ | ⟨b,g,c,rs,h1,h2,rfl,h4,h5,rfl,h7⟩
 ·exact P6
 ·rw[aMe] at h4 ⊢
  exact Z6 hp h5 h4 h7
theorem Gy {d:Nat} {us Ik:List VV} (h:us.mapM (PM.fz (d+1) H)=some Ik):PM.fz (d+2) H (.agg us)=some (.agg Ik):=by
 have e:PM.fz (d+2) H (.agg us)=if aY (.agg us)=true then some (.agg us) else (us.mapM (PM.fz (d+1) H)).map .agg:=rfl
 rw[e]
 by_cases hq:aY (.agg us)=true
 ·rw[if_pos hq]
  have:us.mapM (PM.fz (d+1) H)=some us:=mapM_pure hq
  rw[this] at h
  cases h
  rfl
 ·rw[if_neg hq,h]
  rfl
end
def JF (T:VV) (lo hi:Nat) (H:aA) (v:VV):Prop:=∀H',jV lo hi H H'→fz depth H' v=some T
theorem JF.dC {T:VV}:∀ {lo hi H H' v},JF T lo hi H v→jV lo hi H H'→JF T lo hi H' v:=fun h hk _ h'=>h _ (hk.trans h')
theorem JF.now {T v:VV} {lo hi:Nat} {H:aA} (h:JF T lo hi H v):fz depth H v=some T:=h H jV.refl
def CG (cG:List (List ByteArray)) (lo hi:Nat) (H:aA) (v:VV):Prop:=∃c,v = .agg [c]∧RG sV 1 cG lo hi H c
theorem CG.dC {cG:List (List ByteArray)}:∀ {lo hi H H' v},CG cG lo hi H v→jV lo hi H H'→CG cG lo hi H' v:=by
 rintro lo hi H H' v ⟨c,h1,h2⟩ hk
 exact⟨c,h1,h2.dC hk⟩
theorem CG.fz {cG:List (List ByteArray)} {lo hi:Nat} {H:aA} {v:VV} (h:CG cG lo hi H v):PM.fz depth H v=some (chV cG):=by
 obtain⟨c,rfl,h⟩:=h
 refine Gy (d:=6) ?_
 rw[aLU,h.fz (d:=4) fun _=>rfl]
 rfl
theorem CG.seen {cG:List (List ByteArray)} {lo hi:Nat} {H:aA} {v:VV} (h:CG cG lo hi H v):JF (chV cG) lo hi H v:=fun _ hk=>(h.dC hk).fz
def SvG (s:vH) (lo hi:Nat) (H:aA) (v:VV):Prop:=∃a b c m1 m2,v = .agg [a,b,c]∧lo≤m1∧m1≤m2∧m2≤hi∧W1 sV 1 s.b lo m1 H a∧RG sV 1 s.g m1 m2 H b∧W1 sV 1 s.e m2 hi H c
theorem SvG.dC {s:vH}:∀ {lo hi H H' v},SvG s lo hi H v→jV lo hi H H'→SvG s lo hi H' v:=by
 rintro lo hi H H' v ⟨a,b,c,m1,m2,h1,k1,k2,k3,h2,h3,h4⟩ hk
 exact⟨a,b,c,m1,m2,h1,k1,k2,k3,h2.dC (hk.sub (by omega) (by omega)),h3.dC (hk.sub (by omega) (by omega)),h4.dC (hk.sub (by omega) (by omega))⟩
theorem avN {s:vH} {l1 h1 l2 h2 l3 h3:Nat} {H:aA} {a b c:VV} (ha:W1 sV 1 s.b l1 h1 H a) (hb:RG sV 1 s.g l2 h2 H b) (hc:W1 sV 1 s.e l3 h3 H c):PM.fz depth H (.agg [a,b,c])=some (vM s):=by
 refine Gy (d:=6) ?_
 rw[aLU,ha.fz (d:=5) fun _=>rfl]
 rw[aLU,hb.fz (d:=4) fun _=>rfl]
 rw[aLU,hc.fz (d:=5) fun _=>rfl]
 rfl
theorem SvG.fz {s:vH} {lo hi:Nat} {H:aA} {v:VV} (h:SvG s lo hi H v):PM.fz depth H v=some (vM s):=by
 obtain⟨a,b,c,m1,m2,rfl,k1,k2,k3,h2,h3,h4⟩:=h
 exact avN h2 h3 h4
theorem SvG.seen {s:vH} {lo hi:Nat} {H:aA} {v:VV} (h:SvG s lo hi H v):JF (vM s) lo hi H v:=fun _ hk=>(h.dC hk).fz
theorem W1.seen {cG:List ByteArray} {lo hi:Nat} {H:aA} {v:VV} (h:W1 sV 1 cG lo hi H v):JF (gL cG) lo hi H v:=fun _ hk=>(h.dC hk).fz (d:=6) fun _=>rfl
end Go.PM
namespace Go.PM
section
variable {α:Type} {f:α→VV} {e:Nat}
structure Rd (f:α→VV) (e:Nat) (xs:List α) (H:aA) (v:VV):Prop where
 len:∀H',H <+: H'→rW v H'=some (VI xs.length)
 get:∀H',H <+: H'→∀(i:Nat) x,xs[i]? = some x→∃p,bJ e v (VI i) H'=some p∧∀ag,bF ag e p H'=dO ag e (f x) 0
 cell:aB v=[v]∧bO v=true∧isAny v=false
theorem Rd.pre {xs:List α} {H H':aA} {v:VV} (h:Rd f e xs H v) (hh:H <+: H'):Rd f e xs H' v:=⟨fun H2 h2=>h.len H2 (hh.trans h2),fun H2 h2=>h.get H2 (hh.trans h2),h.cell⟩
theorem Rd.tree {xs:List α} {H:aA} {t:TK} (hs:∀x,(aB (f x)).length=e):Rd f e xs H (.tree (xs.map f) t) :=
 ⟨fun _ _=>eQ,fun _ _ i x hx=>⟨_,aH hx (hs x),fun ag=>NB⟩,rfl,rfl,rfl⟩
theorem Rd.row {xs:List α} {H:aA} {b g n c:Nat} {w:Bool} (h:aG H b g=some (xs.map f,e,w)) (hn:n=xs.length):Rd f e xs H (.ref b g 0 n c):=by
 subst hn
 refine⟨fun H' hh=>eH (cJ hh h),fun H' hh i x hx => ?_,rfl,rfl,rfl⟩
 have hi:=(aKw.1 hx).1
 have e1:=bB (o:=0) (n:=xs.length) (c:=c) (i:=i) (k := .i64) (cJ hh h) hi
 rw[aL5] at e1
 exact⟨_,e1,fun ag=>qA (f:=f) (cJ hh h) hx⟩
structure MG (f:α→VV) (e lo hi b g:Nat) (H:aA) (rs:List (CF α)):Prop where
 out:aG H b g=some (rs.map tL,1,true)
 blo:lo≤b
 bhi:b<hi
 rows:aaI f e lo hi b H rs
variable {lo hi b g:Nat} {H H':aA} {rs:List (CF α)}
theorem MG.dC (h:MG f e lo hi b g H rs) (hk:jV lo hi H H'):MG f e lo hi b g H' rs :=
 ⟨hk _ _ _ h.blo h.bhi h.out,h.blo,h.bhi,h.rows.nd,fun r hr=>by
  obtain⟨k1,k2,k3,k4,k5⟩:=h.rows.row r hr
  exact⟨k1,k2,k3,k4,hk _ _ _ k1 k2 k5⟩⟩
theorem MG.pre (h:MG f e lo hi b g H rs) (hh:H <+: H'):MG f e lo hi b g H' rs:=h.dC (jV.pre hh)
theorem MG.len {n c:Nat} (h:MG f e lo hi b g H rs):rW (.ref b g 0 n c) H=some (VI n):=eH h.out
theorem MG.addr {i n c:Nat} (h:MG f e lo hi b g H rs) (hi:i<n):bJ 1 (.ref b g 0 n c) (VI i) H=some (.ptr b g i 0):=by
 have:=bB (o:=0) (n:=n) (c:=c) (i:=i) (k := .i64) h.out hi
 rwa [aL5] at this
theorem MG.cell {i:Nat} {r:CF α} (h:MG f e lo hi b g H rs) (hr:rs[i]? = some r):bF false 1 (.ptr b g i 0) H=some (.ref r.b r.g 0 r.xs.length r.c):=by
 rw[qA (f:=tL) h.out hr]
 rfl
theorem MG.row {i:Nat} {r:CF α} (h:MG f e lo hi b g H rs) (hr:rs[i]? = some r):aG H r.b r.g=some (r.xs.map f,e,true):=(h.rows.row r (aLr hr)).2.2.2.2
theorem MG.at {i j n c:Nat} {r:CF α} (h:MG f e lo hi b g H rs) (hr:rs[i]? = some r) (hj:j<n):bJ e (.ref r.b r.g 0 n c) (VI j) H=some (.ptr r.b r.g j 0):=by
 have:=bB (o:=0) (n:=n) (c:=c) (i:=j) (k := .i64) (h.row hr) hj
 rwa [aL5] at this
theorem MG.get {i j:Nat} {ag:Bool} {r:CF α} {x:α} (h:MG f e lo hi b g H rs) (hr:rs[i]? = some r) (hx:r.xs[j]? = some x):bF ag e (.ptr r.b r.g j 0) H=dO ag e (f x) 0:=qA (f:=f) (h.row hr) hx
theorem MG.inj {i j:Nat} {r s:CF α} (h:MG f e lo hi b g H rs) (hr:rs[i]? = some r) (hs:rs[j]? = some s) (he:r.b=s.b):i=j:=by
 have h1:(rs.map (·.b))[i]? = some r.b:=by simp[hr]
 have h2:(rs.map (·.b))[j]? = some r.b:=by simp[hs,he]
 exact aoH h.rows.nd h1 h2
theorem Oc {β γ:Type} {F:β→γ} {l:List β} {i:Nat} {x y:β} (hx:l[i]? = some x) (he:F y=F x):(l.set i y).map F=l.map F:=by
 apply List.ext_getElem?
 intro j
 rw[List.getElem?_map,List.getElem?_map,aNN]
 split
 ·rename_i Qr
  subst Qr
  split
  ·rw[hx,aLS,aLS,he]
  ·rename_i hn
   rw[(List.getElem?_eq_none (by omega))] at hx
   cases hx
 ·rfl
theorem MG.set {i:Nat} {r:CF α} {ys:List α} (h:MG f e lo hi b g H rs) (hr:rs[i]? = some r) (hl:ys.length=r.xs.length):MG f e lo hi b g (H.set r.b (.row r.g (ys.map f) e true)) (rs.set i { r with xs:=ys }):=by
 have Mh:=h.rows.row r (aLr hr)
 refine⟨?_,h.blo,h.bhi,?_,fun s hs => ?_⟩
 ·rw[Oc hr (by simp[tL,hl])]
  exact aX Mh.2.2.1 h.out
 ·rw[Oc (F:=fun r:CF α=>r.b) (y:={ r with xs:=ys }) hr rfl]
  exact h.rows.nd
 ·obtain⟨j,hj⟩:=aMs hs
  rw[aNN] at hj
  split at hj
  ·rename_i Qr
   split at hj
   ·cases hj
    exact⟨Mh.1,Mh.2.1,Mh.2.2.1,by rw[hl];exact Mh.2.2.2.1,bQ Mh.2.2.2.2⟩
   ·cases hj
  ·rename_i Qr
   have hsm:=h.rows.row s (aLr hj)
   exact⟨hsm.1,hsm.2.1,hsm.2.2.1,hsm.2.2.2.1,aX (fun he=>Qr (h.inj hr hj he)) hsm.2.2.2.2⟩
theorem MG.put {i j gB:Nat} {r:CF α} {y:α} (h:MG f e lo hi b g H rs) (hr:rs[i]? = some r) (hj:j<r.xs.length) (dR:gB≤lo) (hv:(aB (f y)).length=e) (hs:(aB (f y)).all bO=true) :
  bL gB e (.ptr r.b r.g j 0) (f y) H=some (H.set r.b (.row r.g ((r.xs.set j y).map f) e true)) :=
 dQ (f:=f) (h.row hr) hj (aKy dR (h.rows.row r (aLr hr)).1) hv hs
theorem MG.lt {i:Nat} {r:CF α} (h:MG f e lo hi b g H rs) (hr:rs[i]? = some r):lo≤r.b∧r.b<hi∧r.b<H.length:=⟨(h.rows.row r (aLr hr)).1,(h.rows.row r (aLr hr)).2.1,iR (h.row hr)⟩
theorem MG.cG {c:Nat} (h:MG f e lo hi b g H rs) (hc:rs.length≤c):RG f e (rs.map (·.xs)) lo hi H (.ref b g 0 rs.length c) := .inr ⟨b,g,c,rs,h.blo,h.bhi,by rw[aMe],by rw[aMe];exact hc,h.out,rfl,h.rows⟩
theorem MG.fz {d c:Nat} (h:MG f e lo hi b g H rs) (hc:rs.length≤c) (hp:∀x,aY (f x)=true):PM.fz (d+3) H (.ref b g 0 rs.length c)=some (aC (aC f) (rs.map (·.xs))):=Z6 hp h.out hc h.rows
theorem MG.wide {gB qI:Nat} (h:MG f e lo hi b g H rs) (hl:gB≤lo) (hh:hi≤qI):MG f e gB qI b g H rs:=⟨h.out,by have:=h.blo;omega,by have:=h.bhi;omega,h.rows.nd,fun r hr=>by
 obtain⟨k1,k2,k3,k4,k5⟩:=h.rows.row r hr
 exact⟨by omega,by omega,k3,k4,k5⟩⟩
end
theorem dS:type_of% (aMd @uT<|aMd @sA<|aMd @pA.eq_1<|aMd @sH.eq_1<|aMd @sH.eq_2<|aMd @FV.eq_1<|aMd @FV.eq_2<|aMd @AZ.eq_1<|aMd @AZ.eq_2<|aMd @I4<|aMd @Ed<|aMd @GN<|aMd @Gr<|aMd @aNM.{0}<|aMd @aLk.{0}<|aMd @List.take_nil.{0}<|aMd @aLJ.{0}<|aMd @aMi.{0}<|aMd @List.drop_nil.{0}<|aMd @aLF.{0} <| @aKx):=aMd @uT<|aMd @sA<|aMd @pA.eq_1<|aMd @sH.eq_1<|aMd @sH.eq_2<|aMd @FV.eq_1<|aMd @FV.eq_2<|aMd @AZ.eq_1<|aMd @AZ.eq_2<|aMd @I4<|aMd @Ed<|aMd @GN<|aMd @Gr<|aMd @aNM.{0}<|aMd @aLk.{0}<|aMd @List.take_nil.{0}<|aMd @aLJ.{0}<|aMd @aMi.{0}<|aMd @List.drop_nil.{0}<|aMd @aLF.{0} <| @aKx
def RX (P:Nat→Nat→aA→VV→Prop) (H:aA) (r:VV) (H':aA):Prop:=H <+: H'∧P H.length H'.length H' r
theorem rZ {F lo:Nat} {args:List VV} {P:Nat→Nat→aA→VV→Prop} {H:aA} {K:VV→aA→Prop} (CM:Fv.contains F=true) (h:jE F args lo H (RX P H)) (hk:∀r L,P H.length (H++L).length (H++L) r→K r (H++L)):dH F args lo H K:=by
 refine fV CM (h.mono ?_)
 rintro r H' ⟨⟨L,rfl⟩,hP⟩
 exact hk r L hP
end Go.PM
namespace Go.PM
open Go.Lib
abbrev cell0:fN := .row 0 [.agg [VB false,.tree [] .nil,.tree [] .nil]] 3 true
def dL (qs:List Rat):Rat:=qs.foldl (· + ·) 0
theorem C6 {qs:List Rat} {i:Nat} {q:Rat} (h:qs[i]? = some q):dL (qs.take (i+1))=dL (qs.take i)+q:=by
 rw[sQ h,dL,aNI];rfl
theorem QT {B:Nat}:∀ {qs:List Rat},(∀q∈qs,aK q≤B)→∀a:Rat,aK (qs.foldl (· + ·) a)≤qs.length*(B+1)+aK a
 | [],_,a=>by simp
 |
  q::qs,h,a=>by
  have h1:=QT (fun x hx=>h x (aK6 _ hx)) (a+q)
  have h2:=vF a q
  have h3:=h q aK7
  rw[aNO,aKH,Nat.succ_mul]
  omega
theorem A6 {B:Nat} {qs:List Rat} (h:∀q∈qs,aK q≤B) (i:Nat):aK (dL (qs.take i))≤qs.length*(B+1)+1:=by
 have h1:=QT (qs:=qs.take i) (fun q hq=>h q (aLu hq)) 0
 have h2:(qs.take i).length*(B+1)≤qs.length*(B+1):=aKY _ (by rw[aL6];omega)
 rw[sC] at h1
 unfold dL
 omega
set_option maxHeartbeats 1000000 in
abbrev rz:VV := .agg [VB false,.tree [] .nil,.tree [] .nil]
theorem lX {H H1:aA} {b:Nat} {x:fN} (h:H <+: H1) (hb:H.length≤b):H <+: H1.set b x:=by
 obtain⟨L,rfl⟩:=h
 rw[List.set_append_right _ _ hb]
 exact aMr _ _
theorem Gh {H H1 L:aA} (h:H <+: H1):H <+: H1++L:=h.trans (aMr _ _)
theorem Jn {lo:Nat} {H:aA} {q:Rat} (h:lo≤H.length):bL lo 3 (.ptr H.length 0 0 0) (aF q) (H++[cell0])=some (H++[.row 0 [aF q] 3 true]):=by
 rw[bS (g:=0) (e:=3) (j:=0) lF (by exact aNP) h rfl rfl,Pv]
 rfl
theorem aaX {H K:aA} {q:Rat}:bF true 3 (.ptr H.length 0 0 0) (H ++ .row 0 [aF q] 3 true::K)=some (aF q):=by
 rw[bK,Cn,aT]
 exact bI _
theorem OM {lo:Nat} {H:aA} {v:VV} (qs:List Rat) {B:Nat} (hv:Rd aF 3 qs H v) (dR:lo≤H.length) (hb:∀q∈qs,aK q≤B) (hk:qs.length*(B+1)+1≤1099511627776) (hB:B≤1099511627776) (hn:qs.length≤1000000000) :
  jE 70 [v] lo H (RX (fun _ _ _ r=>r=aF (dL qs)) H):=by
 refine jE.walk ⟨true,false⟩ Xt (aMl rfl) ?_
 have e1:TC 64 [VI 0] (aF 0):=kU 0 (by decide) (by decide)
 have e2:=hv.len (H++[cell0,.row 0 [aF 0] 3 true]) (aMr _ _)
 have s0:bL lo 3 (.ptr (H.length+1) 0 0 0) (aF 0) (H++[cell0,cell0])=some (H++[cell0,.row 0 [aF 0] 3 true]):=by
  have:=Jn (lo:=lo) (H:=H++[cell0]) (q:=0) (by rw[aKI];omega)
  simpa only[aKI,aKH,aMa,aL5,aMj,List.cons_append,aLP] using this
 simp only[Ve,PH,e1,e2,s0,aKI,aKH,aMa,aMj,List.cons_append,aLP,dS,VX,Nat.reduceEqDiff,Nat.reduceAdd,Nat.reduceLeDiff,Nat.reduceLT,Nat.reduceSub]
 refine aP (fun(i:Nat) ρ H1=>i≤qs.length∧H <+: H1∧aG H1 H.length 0=some ([rz],3,true)∧aG H1 (H.length+1) 0=some ([aF (dL (qs.take i))],3,true)∧ρ 2 = .ptr H.length 0 0 0∧ρ 3 = .ptr (H.length+1) 0 0 0∧ρ 7=v∧ρ 8=VI qs.length∧ρ 9=VI i) (fun i=>qs.length-i) 0 ⟨aK1 _,aMr _ _,Cn.trans aT,NN.trans (eJ.trans aT),rfl,rfl,rfl,rfl,rfl⟩ ?_
 rintro i ρ H1 ⟨hi,hp,Kh,TT,g2,g3,g7,g8,g9⟩
 have CQ:=iR TT
 by_cases bW:(i:Int)<(qs.length:Int)
 ·obtain⟨q,hq⟩:∃q,qs[i]? = some q:=⟨_,aKE (by omega)⟩
  obtain⟨p,a1,a2⟩:=hv.get H1 hp i q hq
  have a2':=(a2 true).trans (bI _)
  have wi:IntKind.i64.wrap ((i:Int)+1)=((i+1:Nat):Int):=wrapN (i+1) (by omega) (by omega)
  have h1:=A6 hb i
  have h2:=hb q (aLr hq)
  have h3:(i+1)*(B+1)≤qs.length*(B+1):=aKY _ (by omega)
  have e3:=oD (dL (qs.take i)) q (by omega) (by omega)
  rw[←C6 hq] at e3
  have s1:=Jn (lo:=lo) (H:=H1) (q:=q) (by omega)
  have s2:=aaX (H:=H1) (K:=[]) (q:=q)
  have s3:bF true 3 (.ptr (H.length+1) 0 0 0) (H1++[.row 0 [aF q] 3 true])=some (aF (dL (qs.take i))):=by
   rw[bK,eT TT]
   exact bI _
  have s4:=bS (lo:=lo) (v:=aF (dL (qs.take (i+1)))) (j:=0) (eT (L:=[.row 0 [aF q] 3 true]) TT) (by exact aNP) (by omega) rfl rfl
  rw[aMb] at s4
  simp only[Gi,g2,g3,g7,g8,g9,bW,a1,a2',e3,s1,s2,s3,s4,wi,bI,dS,VX,Nat.reduceEqDiff,Nat.reduceAdd,Nat.reduceLeDiff,Nat.reduceLT,Nat.reduceSub]
  exact⟨i+1,by omega,by omega,lX (Gh hp) (by omega),aX (by omega) (eT Kh),bQ (eT TT),by (repeat' apply aMd)<;>first | rfl | trivial | assumption⟩
 ·have mI:i=qs.length:=by omega
  subst mI
  rw[aLK] at TT
  have s3:bF true 3 (.ptr (H.length+1) 0 0 0) H1=some (aF (dL qs)):=by
   rw[bK,TT]
   exact bI _
  have s4:=bS (lo:=lo) (v:=aF (dL qs)) (j:=0) Kh (by exact aNP) dR rfl rfl
  rw[aMb] at s4
  have s5:bF true 3 (.ptr H.length 0 0 0) (H1.set H.length (.row 0 [aF (dL qs)] 3 true))=some (aF (dL qs)):=by
   rw[bK,bQ Kh]
   exact bI _
  simp only[Gi,g2,g3,g8,g9,bW,s3,s4,s5,dS,VX,Nat.reduceEqDiff,Nat.reduceAdd,Nat.reduceLeDiff,Nat.reduceLT,Nat.reduceSub]
  exact⟨lX hp (aKx _),rfl⟩
theorem RA {q:Rat}:jJ q<0↔q<0:=by
 have e:q.num<0↔q<0:=by rw[←Int.not_le,Rat.num_nonneg];constructor<;>intro h<;>grind
 rw[←e]
 rcases Int.lt_trichotomy q.num 0 with h | h | h
 ·rw[oP h];omega
 ·rw[lB h];omega
 ·rw[oV h];omega
theorem Bt (q:Rat):TC 67 [aF q] (VB (decide (q<0))):=by
 refine TC.walk ⟨true,false⟩ PR rfl (aMl rfl) (by simp[aO,fZ]) rfl ?_
 have e1:=dI q
 by_cases h:jJ q<0
 ·rw[decide_eq_true (RA.1 h)]
  simp only[Ep,BH,e1,h,aJ,cM,bI,bA,aZ,aS,gH,Nat.reduceLeDiff,Nat.reduceLT,Nat.reduceSub,nH,cD,cP,gP,lO,pN,bne_iff_ne,ne_eq,not_false_eq_true,not_true_eq_false,VX,Nat.reduceEqDiff,Nat.reduceAdd]
  exact aL rfl
 ·rw[decide_eq_false (mt RA.2 h)]
  simp only[Ep,BH,e1,h,aJ,cM,bI,bA,aZ,aS,gH,Nat.reduceLeDiff,Nat.reduceLT,Nat.reduceSub,nH,cD,cP,gP,lO,pN,bne_iff_ne,ne_eq,not_false_eq_true,not_true_eq_false,VX,Nat.reduceEqDiff,Nat.reduceAdd]
  exact aL rfl
theorem DY (xs:List Rat) (g:Nat) (p:Rat→Bool) (hg:∀x∈xs,TC g [aF x] (VB (p x))) (hn:xs.length≤1000000000) :
  ∃k:Int,(0≤k↔xs.any p=true)∧TC 141 [aC aF xs,.xT g []] (VI k):=by
 refine⟨match xs.findIdx? p with | some i=>i | none => -1,?_,?_⟩
 ·cases h:xs.findIdx? p with
  |
   none =>
   rw[aNQ] at h
   simp only[List.any_eq_true]
   constructor
   ·intro h';omega
   ·rintro⟨x,hx,hp⟩;rw[h x hx] at hp;cases hp
  |
   some i =>
   simp only[List.any_eq_true]
   obtain⟨hi,hp,_⟩:=aNR.1 h
   exact⟨fun _=>⟨_,aKK hi,hp⟩,fun _=>by omega⟩
 ·refine TC.walk ⟨true,false⟩ qY rfl (aMl rfl) (by simp[aO,gO];rfl) rfl ?_
  simp only[kD,jH,VX,Nat.reduceEqDiff,Nat.reduceAdd]
  refine aP (fun(i:Nat) ρ H=>i≤xs.length∧H=[]∧(∀j x,j<i→xs[j]? = some x→p x=false)∧ρ 0=aC aF xs∧ρ 1 = .xT g []∧ρ 7=VI xs.length∧ρ 8=VI i) (fun i=>xs.length-i) 0 ⟨aK1 _,rfl,fun j x h=>by omega,rfl,rfl,rfl,rfl⟩ ?_
  rintro i ρ H ⟨hi,rfl,jW,h0,h1,h7,h8⟩
  by_cases bW:(i:Int)<(xs.length:Int)
  ·obtain⟨x,hx⟩:∃x,xs[i]? = some x:=⟨_,aKE (by omega)⟩
   have e1:=aH (f:=aF) (t := .op) (H:=[]) (size:=3) (k := .i64) hx rfl
   have wi:IntKind.i64.wrap ((i:Int)+1)=((i+1:Nat):Int):=wrapN (i+1) (by omega) (by omega)
   have e2:=hg x (aLr hx)
   cases hp:p x with
   |
    false =>
    rw[hp] at e2
    simp only[cU,h0,h1,h7,h8,bW,e1,e2,wi,DN,aLF,aJ,cM,bI,bA,aZ,aS,VX,Nat.reduceEqDiff,Nat.reduceAdd]
    refine⟨i+1,by omega,by omega,fun j y hj hy => ?_,by (repeat' apply aMd)<;>first | rfl | trivial⟩
    rcases Nat.lt_or_ge j i with Ev | Ev
    ·exact jW j y Ev hy
    ·have:j=i:=by omega
     subst this
     rw[hx] at hy
     injection hy with hy
     exact hy▸hp
   |
    true =>
    rw[hp] at e2
    simp only[cU,h0,h1,h7,h8,bW,e1,e2,wi,DN,aLF,aJ,cM,bI,bA,aZ,aS,VX,Nat.reduceEqDiff,Nat.reduceAdd]
    have:xs.findIdx? p=some i:=by
     rw[aNR]
     obtain⟨bH,Hj⟩:=aKw.1 hx
     exact⟨bH,by rw[Hj];exact hp,fun j hj=>by
      have:=jW j _ hj (aKE (by omega))
      simp[this]⟩
    rw[this]
    exact aL rfl
  ·simp only[cU,h0,h1,h7,h8,bW,VX,Nat.reduceEqDiff,Nat.reduceAdd]
   have:xs.findIdx? p=none:=by
    rw[aNQ]
    intro x hx
    obtain⟨j,hj⟩:=aMs hx
    exact jW j x (by have:=(aKw.1 hj).1;omega) hj
   rw[this]
   exact aL rfl
theorem mF (xs:List Rat) (g:Nat) (p:Rat→Bool) (hg:∀x∈xs,TC g [aF x] (VB (p x))) (hn:xs.length≤1000000000):TC 66 [aC aF xs,.xT g []] (VB (xs.any p)):=by
 refine TC.walk ⟨true,false⟩ pH rfl (aMl rfl) (by simp[aO,gO];rfl) rfl ?_
 obtain⟨k,hk,hc⟩:=DY xs g p hg hn
 have e:decide (0≤k)=xs.any p:=by
  cases h:xs.any p with
  | true=>rw[decide_eq_true (hk.2 h)]
  | false=>rw[decide_eq_false fun h'=>by rw[hk.1 h'] at h;cases h]
 simp only[iU,iF,hc,e,VX,Nat.reduceEqDiff,Nat.reduceAdd]
 exact aL rfl
def iZ (qs:List Rat):Bool := !(qs.any fun q=>decide (q<0))&&decide (dL qs=1)
def mQ (xs:List ByteArray):Option (List Rat):=match sZ xs with
 | some qs=>if iZ qs=true then some qs else none
 | none=>none
theorem Qu {xs:List ByteArray} {qs:List Rat} (h:mQ xs=some qs):sZ xs=some qs∧iZ qs=true:=by
 unfold mQ at h
 split at h
 ·rename_i ps hp
  split at h
  ·rename_i hw
   cases h
   exact⟨hp,hw⟩
  ·cases h
 ·cases h
theorem Pb {n:Nat} (h:n≤300):n*(665+1)+1≤1099511627776:=by omega
theorem Fi {xs:List ByteArray} {qs:List Rat} (h:sZ xs=some qs):mQ xs=if iZ qs=true then some qs else none:=by unfold mQ;rw[h]
theorem Mo {xs:List ByteArray} (h:sZ xs=none):mQ xs=none:=by unfold mQ;rw[h]
theorem rV:Q5 none = .eG [aC aF [],VB false]:=rfl
theorem xU (qs:List Rat):Q5 (some qs) = .eG [aC aF qs,VB true]:=rfl
set_option maxHeartbeats 1000000 in
theorem Lo (xs:List ByteArray) (hn:xs.length≤1000000000) (hs:∀s∈xs,s.size≤1000000000):TC 98 [gL xs] (Q5 (mQ xs)):=by
 refine TC.walk ⟨true,false⟩ Ly rfl (aMl rfl) (by simp[aO,kH]) (Rb _) ?_
 have e1:=Gc xs hn hs
 cases h:sZ xs with
 |
  none =>
  rw[h,rV] at e1
  rw[Mo h,rV]
  simp only[rC,oF,e1,VX,Nat.reduceEqDiff,Nat.reduceAdd]
  exact Ij
 |
  some qs =>
  rw[h,xU] at e1
  rw[Fi h]
  obtain⟨hb,hl,_⟩:=nD h
  have e2:=mF qs 67 (fun q=>decide (q<0)) (fun q _=>Bt q) (by omega)
  have hm:qs.length*666≤199800:=by omega
  have e3:=fun(K:aA)=>OM (lo:=0) (H:=K) (v:=aC aF qs) qs (B:=665) (Rd.tree dD) (aK1 _) hb (Pb hl) (by decide) (by omega)
  have hsb:=A6 hb qs.length
  rw[aLK] at hsb
  have e4:=Lp (dL qs) (by omega)
  cases Ag:qs.any (fun q=>decide (q<0)) with
  |
   true =>
   rw[Ag] at e2
   have hw:¬iZ qs=true:=by unfold iZ;rw[Ag];simp
   rw[if_neg hw,rV]
   simp only[rC,oF,e1,e2,VX,Nat.reduceEqDiff,Nat.reduceAdd]
   exact Ij
  |
   false =>
   rw[Ag] at e2
   by_cases abK:dL qs=1
   ·rw[decide_eq_true abK] at e4
    have hw:iZ qs=true:=by unfold iZ;rw[Ag,decide_eq_true abK];rfl
    rw[if_pos hw,xU]
    simp only[rC,oF,e1,e2,VX,Nat.reduceEqDiff,Nat.reduceAdd]
    refine rZ rfl (e3 _) fun r L hr => ?_
    subst hr
    simp only[e4,VX,Nat.reduceEqDiff,Nat.reduceAdd]
    exact aL (abL (gO _) rfl)
   ·rw[decide_eq_false abK] at e4
    have hw:¬iZ qs=true:=by unfold iZ;rw[Ag,decide_eq_false abK];simp
    rw[if_neg hw,rV]
    simp only[rC,oF,e1,e2,VX,Nat.reduceEqDiff,Nat.reduceAdd]
    refine rZ rfl (e3 _) fun r L hr => ?_
    subst hr
    simp only[e4,VX,Nat.reduceEqDiff,Nat.reduceAdd]
    exact Ij
end Go.PM
namespace Go.PM
open Go.Lib
def Ut (qs:List Rat) (n:Nat):Nat→Rat
 | 0=>0
 | i+1=>Ut qs n i+qs.getD i 0*(i:Rat)^n
theorem V4 {i:Nat} (h:i≤300) (n:Nat) (hn:n≤10):aK (((i:Int):Rat))≤9∧aK (((i:Int):Rat)^n)≤91:=by
 have h1:=Db (i:Int)
 have h2:bl (i:Int).natAbs≤9:=by rw[Int.natAbs_natCast];exact xL (by omega)
 have h3:aK (((i:Int):Rat))≤9:=by omega
 have h4:=Q2 (((i:Int):Rat)) n
 have h5:n*aK (((i:Int):Rat))≤10*9:=Nat.mul_le_mul hn h3
 exact⟨h3,by omega⟩
theorem zR {qs:List Rat} {n:Nat} (hb:∀q∈qs,aK q≤665) (hl:qs.length≤300) (hn:n≤10):∀i,i≤qs.length→aK (Ut qs n i)≤1000*i+1
 | 0,_=>by rw[Ut,sC];omega
 |
  i+1,hi=>by
  have h1:=zR hb hl hn i (by omega)
  have hq:qs[i]? = some qs[i]:=aKE (by omega)
  have h2:=hb _ (aKK (by omega:i<qs.length))
  have h3:=(V4 (i:=i) (by omega) n hn).2
  have h4:=fW qs[i] (((i:Int):Rat)^n)
  have h5:=vF (Ut qs n i) (qs[i]*((i:Int):Rat)^n)
  have e:((i:Nat):Rat)=((i:Int):Rat):=rfl
  rw[Ut,aKu,hq,aNL,e]
  omega
end Go.PM
namespace Go.PM
def Cu:aE:=(LS [LO 10 (.bin .lss (LT 9) (LT 8))] (.seq (.cond (LT 10) .skip (.exit 0)) (.seq (.block 1 (LS [LM 11 9,LM 4 11] (.cT [LM 12 3,LM 13 4,LO 14 (.call 64 [(LI 0)]),LO 15 (.lit [(.bool false),(.slice none 0 0),(.slice none 0 0)] 1 [(0,(LT 14))]),LM 16 0,LO 17 (.call 162 [(LT 15),(LT 16)]),LO 18 (.iaddr 1 (LT 12) (LT 13)),LN (.store 1 (LT 18) (LT 17))]))) (.cT [LO 19 (.bin .add (LT 9) (LI 1)),LM 9 19]))))
def JB:aE:=(LS [LO 2 (.mv (.const (.slice none 0 0)))] (LS [LM 5 0,LO 6 (.make [(.slice none 0 0)] 24 (LT 5) (LT 5)),LM 3 6] (.seq (LS [LM 7 3,LO 8 (.len (LT 7)),LO 9 (.mv (LI 0))] (.block 0 (.loop Cu))) (LS [LM 20 3,LM 2 20] .ret))))
def Oz:aU:=⟨21,[(.tmp 2)],JB⟩
theorem Sv:fQ 99=some Oz:=by kernel_rfl
def CC:aE:=(.seq (LS [LM 21 8,LM 22 6,LO 23 (.bin .lss (LT 21) (LT 22)),LM 24 23,LY 24 25 (.mv (LT 0)),LY 24 26 (.mv (LT 8)),LY 24 27 (.iaddr 1 (LT 25) (LT 26)),LY 24 28 (LL 27),LY 24 29 (.mv (LT 7)),LY 24 30 (.iaddr 3 (LT 28) (LT 29)),LY 24 31 (LK 30),LY 24 32 (.call 68 [(LT 31)]),LY 24 33 (.bin .eql (LT 32) (LI 0)),LO 34 (.pick (LT 24) (LT 33) LF)] (.cond (LT 34) .skip (.exit 2))) (.block 3 (.cT [LM 35 8,LO 36 (.bin .add (LT 35) (LI 1)),LM 8 36])))
def CO:aE:=(.seq (LS [LM 100 11,LM 101 6,LO 102 (.bin .lss (LT 100) (LT 101))] (.cond (LT 102) .skip (.exit 6))) (.seq (.block 7 (.cT [LM 105 0,LM 106 9,LO 107 (.iaddr 1 (LT 105) (LT 106)),LO 108 (LL 107),LM 109 11,LM 110 0,LM 111 9,LO 112 (.iaddr 1 (LT 110) (LT 111)),LO 113 (LL 112),LM 114 11,LO 115 (.iaddr 3 (LT 113) (LT 114)),LO 116 (LK 115),LO 117 (LK 10),LM 118 0,LM 119 7,LO 120 (.iaddr 1 (LT 118) (LT 119)),LO 121 (LL 120),LM 122 11,LO 123 (.iaddr 3 (LT 121) (LT 122)),LO 124 (LK 123),LQ 125 (.call 132 [(LT 117),(LT 124)]),LQ 126 (.call 128 [(LT 116),(LT 125)]),LO 127 (.iaddr 3 (LT 108) (LT 109)),LN (.store 3 (LT 127) (LT 126))])) (.cT [LM 103 11,LO 104 (.bin .add (LT 103) (LI 1)),LM 11 104])))
def yZ:aE:=(.seq (LS [LM 70 9,LM 71 6,LO 72 (.bin .lss (LT 70) (LT 71))] (.cond (LT 72) .skip (.exit 4))) (.seq (.block 5 (.seq (LS [LM 75 0,LM 76 9,LO 77 (.iaddr 1 (LT 75) (LT 76)),LO 78 (LL 77),LM 79 7,LO 80 (.iaddr 3 (LT 78) (LT 79)),LO 81 (LK 80),LO 82 (.call 68 [(LT 81)]),LO 83 (.bin .eql (LT 82) (LI 0))] (.cond (LT 83) (.exit 5) .skip)) (LS [LM 84 0,LM 85 9,LO 86 (.iaddr 1 (LT 84) (LT 85)),LO 87 (LL 86),LM 88 7,LO 89 (.iaddr 3 (LT 87) (LT 88)),LO 90 (LK 89),LM 91 0,LM 92 7,LO 93 (.iaddr 1 (LT 91) (LT 92)),LO 94 (LL 93),LM 95 7,LO 96 (.iaddr 3 (LT 94) (LT 95)),LO 97 (LK 96),LQ 98 (.call 129 [(LT 90),(LT 97)]),LQ 10 (.new [(.bool false),(.slice none 0 0),(.slice none 0 0)]),LN (.store 3 (LT 10) (LT 98))] (.seq (LS [LM 99 7,LM 11 99] (.block 6 (.loop CO))) (.cT [LM 128 1,LM 129 9,LM 130 1,LM 131 9,LO 132 (.iaddr 3 (LT 130) (LT 131)),LO 133 (LK 132),LO 134 (LK 10),LM 135 1,LM 136 7,LO 137 (.iaddr 3 (LT 135) (LT 136)),LO 138 (LK 137),LQ 139 (.call 132 [(LT 134),(LT 138)]),LQ 140 (.call 128 [(LT 133),(LT 139)]),LO 141 (.iaddr 3 (LT 128) (LT 129)),LN (.store 3 (LT 141) (LT 140))]))))) (.cT [LM 73 9,LO 74 (.bin .add (LT 73) (LI 1)),LM 9 74])))
def Cw:aE:=(LS [LO 18 (.bin .lss (LT 17) (LT 16))] (.seq (.cond (LT 18) .skip (.exit 0)) (.seq (.block 1 (LS [LM 19 17,LM 7 19] (LS [LM 20 7,LM 8 20] (.seq (.block 2 (.loop CC)) (.seq (LS [LM 37 8,LM 38 6,LO 39 (.bin .eql (LT 37) (LT 38))] (.cond (LT 39) (LS [LO 4 (.mv (.const (.slice none 0 0))),LO 5 (.mv LF)] .ret) .skip)) (LS [LM 40 0,LM 41 7,LM 42 0,LM 43 8,LM 44 1,LM 45 7,LM 46 1,LM 47 8,LM 48 0,LM 49 8,LO 50 (.iaddr 1 (LT 48) (LT 49)),LO 51 (LL 50),LM 52 0,LM 53 7,LO 54 (.iaddr 1 (LT 52) (LT 53)),LO 55 (LL 54),LM 56 1,LM 57 8,LO 58 (.iaddr 3 (LT 56) (LT 57)),LO 59 (LK 58),LM 60 1,LM 61 7,LO 62 (.iaddr 3 (LT 60) (LT 61)),LO 63 (LK 62),LO 64 (.iaddr 1 (LT 40) (LT 41)),LN (.store 1 (LT 64) (LT 51)),LO 65 (.iaddr 1 (LT 42) (LT 43)),LN (.store 1 (LT 65) (LT 55)),LO 66 (.iaddr 3 (LT 44) (LT 45)),LN (.store 3 (LT 66) (LT 59)),LO 67 (.iaddr 3 (LT 46) (LT 47)),LN (.store 3 (LT 67) (LT 63))] (LS [LM 68 7,LO 69 (.bin .add (LT 68) (LI 1)),LM 9 69] (.block 4 (.loop yZ))))))))) (.cT [LO 142 (.bin .add (LT 17) (LI 1)),LM 17 142]))))
def CI:aE:=(.seq (LS [LM 151 13,LM 152 6,LO 153 (.bin .lss (LT 151) (LT 152))] (.cond (LT 153) .skip (.exit 10))) (.seq (.block 11 (.cT [LM 156 1,LM 157 12,LM 158 1,LM 159 12,LO 160 (.iaddr 3 (LT 158) (LT 159)),LO 161 (LK 160),LM 162 0,LM 163 12,LO 164 (.iaddr 1 (LT 162) (LT 163)),LO 165 (LL 164),LM 166 13,LO 167 (.iaddr 3 (LT 165) (LT 166)),LO 168 (LK 167),LM 169 1,LM 170 13,LO 171 (.iaddr 3 (LT 169) (LT 170)),LO 172 (LK 171),LQ 173 (.call 132 [(LT 168),(LT 172)]),LQ 174 (.call 128 [(LT 161),(LT 173)]),LO 175 (.iaddr 3 (LT 156) (LT 157)),LN (.store 3 (LT 175) (LT 174))])) (.cT [LM 154 13,LO 155 (.bin .add (LT 154) (LI 1)),LM 13 155])))
def CH:aE:=(.seq (LS [LM 145 12,LO 146 (.bin .geq (LT 145) (LI 0))] (.cond (LT 146) .skip (.exit 8))) (.seq (.block 9 (.seq (LS [LM 149 12,LO 150 (.bin .add (LT 149) (LI 1)),LM 13 150] (.block 10 (.loop CI))) (.cT [LM 176 1,LM 177 12,LM 178 1,LM 179 12,LO 180 (.iaddr 3 (LT 178) (LT 179)),LO 181 (LK 180),LM 182 0,LM 183 12,LO 184 (.iaddr 1 (LT 182) (LT 183)),LO 185 (LL 184),LM 186 12,LO 187 (.iaddr 3 (LT 185) (LT 186)),LO 188 (LK 187),LQ 189 (.call 129 [(LT 181),(LT 188)]),LO 190 (.iaddr 3 (LT 176) (LT 177)),LN (.store 3 (LT 190) (LT 189))]))) (.cT [LM 147 12,LO 148 (.bin .sub (LT 147) (LI 1)),LM 12 148])))
def Jj:aE:=(LS [LO 4 (.mv (.const (.slice none 0 0))),LO 5 (.mv LF)] (LS [LM 14 0,LO 15 (.len (LT 14)),LM 6 15] (.seq (LS [LM 16 6,LO 17 (.mv (LI 0))] (.block 0 (.loop Cw))) (.seq (LS [LM 143 6,LO 144 (.bin .sub (LT 143) (LI 1)),LM 12 144] (.block 8 (.loop CH))) (LS [LM 191 1,LM 4 191,LO 5 (.mv LG)] .ret)))))
def N6:aU:=⟨192,[(.tmp 4),(.tmp 5)],Jj⟩
theorem TR:fQ 118=some N6:=by kernel_rfl
end Go.PM
namespace Go.PM
open Go.Lib
theorem Rk (x:List Rat):(aB (aC aF x)).length=1:=rfl
theorem Jv (m:List (List Rat)):aY (aC (aC aF) m)=true:=mN Rk gO
theorem aqD (m:List (List Rat)):gZ (aC (aC aF) m)=true:=zL Rk GY fun _=>rfl
end Go.PM
namespace Go.PM
theorem S4 (n:Nat) (h:n<18446744073709551616):dK .and (.int .u64 (n:Int)) (.int .u64 4294967295)=some (.int .u64 ((n % 4294967296:Nat):Int)):=by
 simp only[dK,if_true]
 have h1:(BitVec.ofInt IntKind.u64.bits (n:Int) &&& BitVec.ofInt IntKind.u64.bits 4294967295).toNat=n % 4294967296:=by
  rw[BitVec.toNat_and]
  have e1:(BitVec.ofInt IntKind.u64.bits (n:Int)).toNat=n:=by
   rw[BitVec.toNat_ofInt]
   simp only[IntKind.bits]
   omega
  have e2:(BitVec.ofInt IntKind.u64.bits 4294967295).toNat=2^32-1:=by
   rw[BitVec.toNat_ofInt]
   simp only[IntKind.bits]
   omega
  rw[e1,e2,Nat.and_two_pow_sub_one_eq_mod]
 rw[h1,eR _ (by omega)]
end Go.PM
namespace Go.PM
def P9 (cs:List lT) (i:Nat):Int:=((cs[i]?).map (·.t)).getD 0
def wkC (cs:List lT) (i:Nat):Int:=((cs[i]?).map (·.w)).getD 0
def klC (cs:List lT) (i:Nat):Int:=((cs[i]?).map (·.k)).getD 0
def KR (st:List Int) (i:Nat):Int:=(st[i]?).getD 0
theorem X7 {cs:List lT} {i:Nat} {x:lT} (h:cs[i]? = some x):P9 cs i=x.t:=by simp[P9,h]
theorem axK {cs:List lT} {i:Nat} {x:lT} (h:cs[i]? = some x):wkC cs i=x.w:=by simp[wkC,h]
theorem ahL {st:List Int} {i:Nat} {x:Int} (h:st[i]? = some x):KR st i=x:=by simp[KR,h]
def inS (cs:List lT) (st:List Int) (t:Int) (i:Nat):Bool:=decide (0≤KR st i)&&decide (KR st i≤t)&&decide (t<KR st i+wkC cs i)
def bz (cs:List lT) (st:List Int) (t:Int):Nat:=(aKt cs.length).countP (inS cs st t)
def isW (cs:List lT) (st:List Int) (t:Int) (i:Nat):Bool:=decide (KR st i<0)&&decide (P9 cs i≤t)
def wt (cs:List lT) (st:List Int) (t:Int):List Nat:=(aKt cs.length).filter (isW cs st t)
def M1 (cO:Int) (cs:List lT) (i k:Nat):Bool :=
 if cO=1 then true else if cO=2 then decide (wkC cs i<wkC cs k) else if cO=3 then decide (klC cs i<klC cs k) else false
def Ci (cO:Int) (cs:List lT) (b:Option Nat) (i:Nat):Option Nat:=match b with
 | none=>some i
 | some k=>if M1 cO cs i k then some i else some k
def nxt (cO:Int) (cs:List lT) (st:List Int) (t:Int):Option Nat:=(wt cs st t).foldl (Ci cO cs) none
def fill (cO vN:Int) (cs:List lT) (t:Int):Nat→List Int→List Int
 | 0,st=>st
 |
  n+1,st=>if (bz cs st t:Int)<vN then (match nxt cO cs st t with
  | none=>st
  | some k=>fill cO vN cs t n (st.set k t)) else st
def full (cO vN:Int) (cs:List lT) (st:List Int) (t:Int):Prop:=vN≤(bz cs st t:Int)∨nxt cO cs st t=none
def runT (cO vN:Int) (cs:List lT):Int→Nat→List Int→List Int
 | _,0,st=>st
 | t,n+1,st=>runT cO vN cs (t+1) n (fill cO vN cs t cs.length st)
def stL (cO vN:Int) (cs:List lT):List Int:=runT cO vN cs 0 100000 (List.replicate cs.length (-1))
section
variable {cO vN:Int} {cs:List lT} {st:List Int} {t:Int}
theorem AP (h:full cO vN cs st t) (n:Nat):fill cO vN cs t n st=st:=by
 cases n with
 | zero=>rfl
 |
  succ n =>
  rw[fill]
  rcases h with h | h
  ·rw[if_neg (by omega)]
  ·split
   ·rw[h]
   ·rfl
theorem RS (m:Nat):∀(t:Int) (n:Nat),(∀u,t≤u→u<t+m→full cO vN cs st u)→m≤n→runT cO vN cs t n st=runT cO vN cs (t+m) (n-m) st:=by
 induction m with
 | zero=>intro t n _ _;simp
 |
  succ m ih =>
  intro t n h hm
  obtain⟨n,rfl⟩:∃k,n=k+1:=⟨n-1,by omega⟩
  rw[runT,AP (h t (Int.le_refl _) (by omega)),ih (t+1) n (fun u h1 h2=>h u (by omega) (by omega)) (by omega)]
  congr 1
  ·omega
  ·omega
theorem afA (n:Nat):∀(t:Int),(∀u,t≤u→full cO vN cs st u)→runT cO vN cs t n st=st:=by
 intro t h
 rw[RS n t n (fun u h1 _=>h u h1) (aKx _),Nat.sub_self]
 rfl
theorem ZA {a b:Int} (ha:0≤a) (IS:a≤b) (hb:b≤100000) (h:∀u,a≤u→u<b→full cO vN cs st u):runT cO vN cs a (100000-a).toNat st=runT cO vN cs b (100000-b).toNat st:=by
 rw[RS (b-a).toNat a _ (fun u h1 h2=>h u h1 (by omega)) (by omega)]
 congr 1
 ·omega
 ·omega
theorem akU {a:Int} (ha:0≤a) (hb:a<100000):runT cO vN cs a (100000-a).toNat st=runT cO vN cs (a+1) (100000-(a+1)).toNat (fill cO vN cs a cs.length st):=by
 rw[show (100000-a).toNat=(100000-(a+1)).toNat+1 by omega,runT]
theorem Q1 {ws:List Nat} {k:Nat}:∃j,(ws.foldl (Ci cO cs) (some k))=some j∧(j=k∨j∈ws):=by
 induction ws generalizing k with
 | nil=>exact⟨k,rfl,.inl rfl⟩
 |
  cons i ws ih =>
  rw[aNO]
  have:∃q,Ci cO cs (some k) i=some q∧(q=k∨q=i):=by
   unfold Ci
   simp only
   split
   ·exact⟨i,rfl,.inr rfl⟩
   ·exact⟨k,rfl,.inl rfl⟩
  obtain⟨q,hq,hqq⟩:=this
  rw[hq]
  obtain⟨j,h1,h2⟩:=ih (k:=q)
  refine⟨j,h1,?_⟩
  rcases h2 with rfl | h2
  ·rcases hqq with rfl | rfl
   ·exact .inl rfl
   ·exact .inr aK7
  ·exact .inr (aK6 _ h2)
theorem Bb:nxt cO cs st t=none↔wt cs st t=[]:=by
 unfold nxt
 cases h:wt cs st t with
 | nil=>exact⟨fun _=>rfl,fun _=>rfl⟩
 |
  cons i ws =>
  refine⟨fun h2 => ?_,fun h2=>(by cases h2)⟩
  rw[aNO] at h2
  obtain⟨j,h3,_⟩:=Q1 (cO:=cO) (cs:=cs) (ws:=ws) (k:=i)
  rw[show Ci cO cs none i=some i from rfl,h3] at h2
  cases h2
theorem Ts {k:Nat} (h:nxt cO cs st t=some k):k∈wt cs st t:=by
 unfold nxt at h
 cases hw:wt cs st t with
 | nil=>rw[hw] at h;cases h
 |
  cons i ws =>
  rw[hw,aNO] at h
  obtain⟨j,h3,h4⟩:=Q1 (cO:=cO) (cs:=cs) (ws:=ws) (k:=i)
  rw[show Ci cO cs none i=some i from rfl,h3] at h
  injection h with h
  subst h
  rcases h4 with rfl | h4
  ·exact aK7
  ·exact aK6 _ h4
theorem Pg {k:Nat}:k∈wt cs st t↔k<cs.length∧KR st k<0∧P9 cs k≤t:=by
 simp[wt,isW]
theorem amA:(wt cs st t).Nodup:=List.Pairwise.filter _ List.nodup_range
theorem J7 {k i:Nat} (hk:k<st.length):KR (st.set k t) i=if i=k then t else KR st i:=by
 unfold KR
 rw[aNN]
 by_cases h:i=k
 ·subst h
  simp[hk]
 ·rw[if_neg (fun h'=>h h'.symm),if_neg h]
theorem Td {p q:Nat→Bool} {k:Nat} (hp:p k=false) (h:∀i,i≠k→q i=p i):∀n,(aKt n).countP q=(aKt n).countP p+if k<n∧q k=true then 1 else 0:=by
 intro n
 induction n with
 | zero=>simp
 |
  succ n ih =>
  rw[aNS,List.countP_append,List.countP_append,ih]
  by_cases hk:n=k
  ·subst hk
   simp only[aNT,hp]
   cases hq:q n<;>simp
  ·rw[aNT,aNT,h n hk]
   have:(k<n+1∧q k=true)↔(k<n∧q k=true):=by
    constructor
    ·rintro⟨h1,h2⟩;exact⟨by omega,h2⟩
    ·rintro⟨h1,h2⟩;exact⟨by omega,h2⟩
   simp only[this]
   omega
theorem awB {k:Nat} {u:Int} (hk:k<cs.length) (hl:st.length=cs.length) (hs:KR st k<0) (h0:0≤t):bz cs (st.set k t) u=bz cs st u+if t≤u∧u<t+wkC cs k then 1 else 0:=by
 unfold bz
 rw[Td (p:=inS cs st u) (q:=inS cs (st.set k t) u) (k:=k)]
 ·congr 1
  have:(k<cs.length∧inS cs (st.set k t) u k=true)↔(t≤u∧u<t+wkC cs k):=by
   simp only[inS,J7 (t:=t) (i:=k) (by omega:k<st.length),if_true,aK5,decide_eq_true_eq]
   constructor
   ·rintro⟨_,⟨_,h1⟩,h2⟩;exact⟨h1,h2⟩
   ·rintro⟨h1,h2⟩;exact⟨hk,⟨h0,h1⟩,h2⟩
  simp only[this]
 ·simp only[inS]
  rw[decide_eq_false (by omega)]
  rfl
 ·intro i hi
  simp only[inS,J7 (t:=t) (i:=i) (by omega:k<st.length),if_neg hi]
theorem avX {k:Nat} {u:Int} (hl:st.length=cs.length) (hk:k<cs.length) (h0:0≤t):wt cs (st.set k t) u=(wt cs st u).filter (· != k):=by
 unfold wt
 rw[List.filter_filter]
 refine List.filter_congr fun i hi => ?_
 simp only[isW,J7 (t:=t) (i:=i) (by omega:k<st.length)]
 by_cases h:i=k
 ·subst h
  simp
  omega
 ·simp[h]
def Ig (st:List Int):Nat:=st.countP (fun s=>decide (s<0))
theorem Df {k:Nat} (hk:k<st.length) (hs:KR st k<0) (h0:0≤t):Ig (st.set k t)+1=Ig st:=by
 unfold Ig
 rw[List.countP_set hk]
 have hx:st[k]=KR st k:=by
  rw[ahL (x:=st[k]) (aKE hk)]
 have h1:decide (st[k]<0)=true:=by rw[hx];exact decide_eq_true hs
 have h2:decide (t<0)=false:=decide_eq_false (by omega)
 have h3:0<st.countP (fun s=>decide (s<0)):=by
  rw[List.countP_pos_iff]
  exact⟨st[k],aKK hk,h1⟩
 simp only[h1,h2,if_true,aK9,if_false]
 omega
theorem abH (hl:st.length=cs.length) (h0:0≤t):∀(n m:Nat),Ig st≤n→Ig st≤m→fill cO vN cs t n st=fill cO vN cs t m st:=by
 intro n
 induction n generalizing st with
 |
  zero =>
  intro m hn hm
  have hf:full cO vN cs st t:=by
   right
   rw[Bb]
   cases hw:wt cs st t with
   | nil=>rfl
   |
    cons i ws =>
    have h1:i∈wt cs st t:=by rw[hw];exact aK7
    obtain⟨h2,h3,_⟩:=Pg.1 h1
    have:=Df (t:=t) (by omega:i<st.length) h3 h0
    omega
  rw[AP hf,AP hf]
 |
  succ n ih =>
  intro m hn hm
  cases m with
  |
   zero =>
   have hf:full cO vN cs st t:=by
    right
    rw[Bb]
    cases hw:wt cs st t with
    | nil=>rfl
    |
     cons i ws =>
     have h1:i∈wt cs st t:=by rw[hw];exact aK7
     obtain⟨h2,h3,_⟩:=Pg.1 h1
     have:=Df (t:=t) (by omega:i<st.length) h3 h0
     omega
   rw[AP hf,AP hf]
  |
   succ m =>
   rw[fill,fill]
   split
   ·split
    ·rfl
    ·rename_i k hk
     obtain⟨h2,h3,_⟩:=Pg.1 (Ts hk)
     have:=Df (t:=t) (by omega:k<st.length) h3 h0
     exact ih (by simp[hl]) m (by omega) (by omega)
   ·rfl
theorem aaV:Ig st≤st.length:=List.countP_le_length
theorem adN {k:Nat} (hl:st.length=cs.length) (h0:0≤t) (hb:(bz cs st t:Int)<vN) (hk:nxt cO cs st t=some k):fill cO vN cs t cs.length (st.set k t)=fill cO vN cs t cs.length st:=by
 obtain⟨h2,h3,_⟩:=Pg.1 (Ts hk)
 have h4:=Df (t:=t) (by omega:k<st.length) h3 h0
 have h5:=aaV (st:=st)
 rw[abH (st:=st) hl h0 cs.length (cs.length+1) (by omega) (by omega)]
 conv=>rhs;rw[fill,if_pos hb,hk]
def evT (cs:List lT) (st:List Int) (i:Nat):Int:=if 0≤KR st i then KR st i+wkC cs i else P9 cs i
def awT (cs:List lT) (st:List Int) (t:Int) (b:Int) (i:Nat):Int:=if t<evT cs st i∧(b<0∨evT cs st i<b) then evT cs st i else b
def later (cs:List lT) (st:List Int) (t:Int):Int:=(aKt cs.length).foldl (awT cs st t) (-1)
structure Way (cs:List lT) (st:List Int) (t:Int):Prop where
 len:st.length=cs.length
 low:∀i,i<cs.length → -1≤KR st i
 high:∀i,i<cs.length→KR st i≤t
 bd:∀i,i<cs.length→KR st i+1000*(Ig st:Int)≤10000+1000*(cs.length:Int)
 tm:0≤t∧t+1000*(Ig st:Int)≤11000+1000*(cs.length:Int)
theorem Way.set {k:Nat} (h:Way cs st t) (hk:k<cs.length) (hs:KR st k<0):Way cs (st.set k t) t:=by
 have hl:=h.len
 have htm:=h.tm
 have h4:=Df (t:=t) (by omega:k<st.length) hs htm.1
 refine⟨by simp[hl],fun i hi => ?_,fun i hi => ?_,fun i hi => ?_,htm.1,by omega⟩
 all_goals rw[J7 (by omega:k<st.length)]
 ·have:=h.low i hi
  split<;>omega
 ·have:=h.high i hi
  split<;>omega
 ·have:=h.bd i hi
  split<;>omega
theorem Way.le (h:Way cs st t) (hc:oS cs):t≤35000∧∀i,i<cs.length→KR st i≤34000:=by
 have hlen:=hc.2
 have htm:=h.tm
 refine⟨by omega,fun i hi => ?_⟩
 have:=h.bd i hi
 omega
theorem oS.bnd (hc:oS cs) {i:Nat} (hi:i<cs.length):(0≤P9 cs i∧P9 cs i≤10000)∧(1≤wkC cs i∧wkC cs i≤1000):=by
 have hx:cs[i]? = some cs[i]:=aKE hi
 have:=hc.at hx
 rw[X7 hx,axK hx]
 exact⟨this.1,this.2.1⟩
def NT (cO:Int) (cs:List lT) (ws:List Nat):Nat :=
 if cO=1 then ws.length-1 else if cO=2∨cO=3 then (aKt ws.length).foldl (fun b k=>if M1 cO cs (ws.getD k 0) (ws.getD b 0) then k else b) 0 else 0
theorem Xs {ws:List Nat} {k:Nat} (h:∀i j,M1 cO cs i j=false):ws.foldl (Ci cO cs) (some k)=some k:=by
 induction ws with
 | nil=>rfl
 |
  cons i ws ih =>
  rw[aNO]
  have:Ci cO cs (some k) i=some k:=by
   unfold Ci
   simp only[h]
   rfl
  rw[this,ih]
theorem ahD {ws:List Nat} (fS:ws≠[]) (hr:0≤cO∧cO≤3):NT cO cs ws<ws.length∧ws[NT cO cs ws]? = ws.foldl (Ci cO cs) none:=by
 have hlen:0<ws.length:=aNv.2 fS
 unfold NT
 by_cases h1:cO=1
 ·rw[if_pos h1]
  rcases List.eq_nil_or_concat ws with rfl | ⟨xs,y,rfl⟩
  ·exact absurd rfl fS
  ·rw[List.concat_eq_append,aNI]
   refine⟨by simp,?_⟩
   simp only[aKI,aKH,aMa,aL5,Nat.add_sub_cancel,aNO,aNU]
   rw[List.getElem?_append_right (aKx _),Nat.sub_self]
   unfold Ci
   split
   ·rfl
   ·simp only[M1,if_pos h1,if_true]
    rfl
 ·rw[if_neg h1]
  by_cases h2:cO=2∨cO=3
  ·rw[if_pos h2]
   have aEK:∀i,M1 cO cs i i=false:=fun i=>by
    unfold M1
    rw[if_neg h1]
    split
    ·exact decide_eq_false (by omega)
    ·split
     ·exact decide_eq_false (by omega)
     ·rfl
   have key:∀n,n<ws.length→(aKt (n+1)).foldl (fun b k=>if M1 cO cs (ws.getD k 0) (ws.getD b 0) then k else b) 0<ws.length ∧
     ws[(aKt (n+1)).foldl (fun b k=>if M1 cO cs (ws.getD k 0) (ws.getD b 0) then k else b) 0]? = (ws.take (n+1)).foldl (Ci cO cs) none:=by
    intro n
    induction n with
    |
     zero =>
     intro _
     have:(aKt (0+1)).foldl (fun b k=>if M1 cO cs (ws.getD k 0) (ws.getD b 0) then k else b) 0=0:=by
      simp[aNS,aEK]
     rw[this]
     refine⟨hlen,?_⟩
     cases ws with
     | nil=>exact absurd rfl fS
     | cons i ws=>rfl
    |
     succ n ih =>
     intro hn
     obtain⟨g1,g2⟩:=ih (by omega)
     rw[aNS,aNI,aNO,aNU]
     generalize (aKt (n+1)).foldl (fun b k=>if M1 cO cs (ws.getD k 0) (ws.getD b 0) then k else b) 0=b at *
     obtain⟨x,hx⟩:∃x,ws[n+1]? = some x:=⟨_,aKE hn⟩
     obtain⟨y,hy⟩:∃y,ws[b]? = some y:=⟨_,aKE g1⟩
     rw[aMn,hx,aNI,←g2,hy]
     simp only[Option.toList_some,aNO,aNU,aKu,hx,hy,aNL,Ci]
     split
     ·exact⟨hn,hx⟩
     ·exact⟨g1,hy⟩
   have:=key (ws.length-1) (by omega)
   rw[show ws.length-1+1=ws.length by omega,aLq (aKx _)] at this
   exact this
  ·rw[if_neg h2]
   refine⟨hlen,?_⟩
   have hb:∀i j,M1 cO cs i j=false:=fun i j=>by
    unfold M1
    rw[if_neg h1,if_neg (by omega),if_neg (by omega)]
   cases ws with
   | nil=>exact absurd rfl fS
   |
    cons i ws =>
    rw[aNO,show Ci cO cs none i=some i from rfl,Xs hb]
    rfl
end
end Go.PM