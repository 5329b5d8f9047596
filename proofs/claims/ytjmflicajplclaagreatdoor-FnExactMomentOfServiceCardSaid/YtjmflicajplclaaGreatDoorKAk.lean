/- Texts of a claim, in one: part 11. -/
import Derived.Lib.Bytealg
import Derived.Lib.ParseIntB
import Derived.KernelRfl
import Derived.Test.YtjmflicajplclaaGreatDoorKAj
open And renaming intro → aMk
open Bool renaming and_eq_true → aLc,and_self → aL2,false_eq_true → aLg
open Int renaming tmod_eq_emod_of_nonneg → aMG,toNat_natCast → aL0
open List renaming all_append → aNQ,all_eq_true → aKS,append_assoc → aMq,append_nil → aLM,countP_singleton → aN0,drop_succ_cons → aMp,drop_zero → aLQ,findIdx?_eq_none_iff → aNX,findIdx?_eq_some_iff_getElem → aNY,foldl_append → aNP,foldl_cons → aNV,foldl_nil → aN1,getD_eq_getElem?_getD → aKB,getElem?_eq_getElem → aKL,getElem?_eq_some_iff → aKD,getElem?_of_mem → aMz,getElem?_set → aNU,getElem_mem → aKR,length_append → aKP,length_cons → aKO,length_eq_zero_iff → aMM,length_map → aMl,length_nil → aMh,length_pos_iff → aNC,length_take → aMd,mapM_cons → aL1,mem_cons → aLS,mem_cons_of_mem → aLd,mem_cons_self → aLe,mem_of_getElem? → aLy,mem_of_mem_take → aLB,nil_append → aLW,prefix_append → aMy,range → aKA,range_succ → aNZ,set_cons_zero → aMi,take_add_one → aMu,take_append_drop → aLN,take_length → aLR,take_of_length_le → aLx,take_succ_cons → aLr,take_zero → aNT
open Nat renaming gcd → aNm,le_of_ble_eq_true → aMs,le_refl → aKE,le_trans → aKF,lt_of_lt_of_le → aKG,mul_le_mul_right → aK5,pow_le_pow_right → aMH,pow_succ → aL5,zero_add → aMc,zero_le → aK8,zero_lt_one → aNW
open Option renaming getD_some → aNS,isSome_none → aLj,isSome_some → aNR,map_some → aLZ
set_option linter.unusedSimpArgs false
set_option linter.unusedVariables false
namespace Go.PM
open Go.Lib
abbrev bV (b:UInt8):VV := .sc (.int .u8 (b.toNat:Int))
theorem Pc:∀bs:List UInt8,Lv (bs.map bV)=some bs
 | []=>rfl
 |
  b::bs=>by
  rw[List.map_cons]
  show (Lv (bs.map bV)).map (UInt8.ofNat ((b.toNat:Int)).toNat :: ·)=_
  rw[Pc bs]
  simp
structure I7 (v:VV) (H:aA) (bs:List UInt8):Prop where
 len:sE v H=some (VI bs.length)
 src:cW 1 v H=some (bs.map bV)
 nsc:∀x,v ≠ .sc x
theorem I7.str {v:VV} {H:aA} {bs:List UInt8} (h:I7 v H bs) {fl:Fl} {lo:Nat} {x:Operand} {ρ:cV} (hx:fJ ρ x=v):vop fl lo (.b2s x) ρ H=some (bD bs,H):=by
 have h1:=h.nsc
 have h2:=h.src
 unfold vop
 dsimp only
 rw[hx]
 cases v with
 | sc x=>exact absurd rfl (h1 x)
 | _=>simp only[h2,Pc,aLZ]
theorem aeP {bs:List UInt8} {k:TK} {H:aA}:cW 1 (.tree (bs.map bV) k) H=some (bs.map bV):=by
 have:((bs.map bV).all fun x=>(aB x).length == 1&&(aB x).all bP)=true:=by
  rw[aKS]
  intro x hx
  obtain⟨d,_,rfl⟩:=List.mem_map.1 hx
  rfl
 simp only[cW,this,if_true]
theorem I7.tree {bs:List UInt8} {k:TK} {H:aA}:I7 (.tree (bs.map bV) k) H bs:=⟨eR,aeP,fun x=>by simp⟩
theorem I7.row {bs:List UInt8} {H:aA} {b g:Nat} {w:Bool} (h:aG H b g=some (bs.map bV,1,w)):I7 (.ref b g 0 bs.length bs.length) H bs:=by
 refine⟨eI h,?_,fun x=>by simp⟩
 have jO:(((bs.map bV).drop 0).take bs.length).all (fun x=>(aB x).all bP)=true:=by
  rw[aKS]
  intro x hx
  obtain⟨d,_,rfl⟩:=List.mem_map.1 (List.mem_of_mem_drop (aLB hx))
  rfl
 simp only[cW,h]
 rw[if_pos ⟨trivial,by simp,jO⟩,aLQ,aLx (by simp)]
theorem I7.cons {v:VV} {H:aA} {bs:List UInt8} (h:I7 v H bs) (x:UInt8) (hl:bs.length≤1000000) (lo:Nat):∃v' H',dO lo 1 1 (.tree [bV x] (.cl 1)) (bs.map bV) H=some (v',H')∧I7 v' H' (x::bs):=by
 by_cases hb:bs=[]
 ·subst hb
  exact⟨_,_,rfl,I7.tree (bs:=[x])⟩
 ·have gF:bs.length≠0:=fun h=>hb (aMM.1 h)
  refine⟨.ref H.length 0 0 (x::bs).length (x::bs).length,H++[.row 0 ((x::bs).map bV) 1 true],?_,I7.row (T6 rfl)⟩
  simp only[dO,aMl]
  rw[if_pos ⟨by decide,by decide⟩,if_pos trivial,if_neg gF,if_pos (by simp;omega)]
  simp[Nat.add_comm]
theorem Zn (r:Int):dK .rem (.int .i64 r) (.int .i64 10)=some (.int .i64 (r.tmod 10)):=rfl
theorem aB7 (r:Int) (h0 : -9223372036854775808≤r) (h1:r≤9223372036854775807):dK .quo (.int .i64 r) (.int .i64 10)=some (.int .i64 (r.tdiv 10)):=by
 show some (Value.int .i64 (IntKind.i64.wrap (r.tdiv 10)))=_
 have h2:(r.tdiv 10).natAbs=r.natAbs / 10:=by rw[Int.natAbs_tdiv];rfl
 rw[wrap64 (by omega) (by omega)]
theorem afR {d:Nat} (h:d<10):(d10 d).toNat=48+d:=by
 unfold d10
 simp
 omega
theorem RQ {n r:Nat} {bs:List UInt8} (h:decDigits n=decDigits r++bs):decDigits n=uM (r / 10)++d10 (r % 10)::bs:=by
 rw[h]
 by_cases hr:r<10
 ·rw[kD hr,uM,if_pos (by omega),Nat.mod_eq_of_lt hr];rfl
 ·rw[Ck hr,uM,if_neg (by omega),aMq];rfl
theorem Qu (n:Int) (h0 : -9223372036854775808≤n) (h1:n≤9223372036854775807):TC 219 [VI n] (bD ((if n<0 then [45] else [])++decDigits n.natAbs)):=by
 refine TC.walk ⟨true,false⟩ Qy rfl (aMs rfl) rfl rfl ?_
 have e0:∀lr,mV lr [.int .u8 0] 0 [] []=some (.ref 0 0 0 0 0,[.row 0 (([]:List UInt8).map bV) 1 true]):=fun lr=>mX (H:=[]) rfl
 have e1:∀(x:UInt8) (H:aA),mV false [.int .u8 0] 1 [(0,bV x)] H=some (.tree [bV x] (.cl 1),H):=fun x H=>iU rfl rfl rfl
 have hdl:=DP n.natAbs 19 (by omega)
 simp only[L9,Hv,e0,VX,Nat.reduceEqDiff,Nat.reduceAdd]
 refine aP (fun(s:Int×List UInt8) ρ H => -9223372036854775808≤s.1∧s.1≤9223372036854775807∧(s.2=[]→s.1=n)∧(s.2≠[]→decDigits n.natAbs=uM s.1.natAbs++s.2)∧I7 (ρ 3) H s.2∧ρ 0=VI n∧ρ 4=VI s.1) (fun s=>s.1.natAbs+(if s.2=[] then 1 else 0)) (n,[]) ⟨h0,h1,fun _=>rfl,fun h=>absurd rfl h,by simp only[VX,Nat.reduceEqDiff,Nat.reduceAdd];exact I7.row (bs:=[]) aU,rfl,rfl⟩ ?_
 rintro⟨r,bs⟩ ρ H ⟨Kk,T1,hn,hd,ho,g0,g4⟩
 simp only at Kk T1 hn hd ho g4
 generalize hv3:ρ 3=v3 at ho
 have hlen:=ho.len
 have C6:=ho.src
 by_cases Ok:bs≠[]∧r=0
 ·obtain⟨hb,hr⟩:=Ok
  subst hr
  have hl:¬(bs.length:Int)=0:=by have:=aNC.2 hb;omega
  have hdd:=hd hb
  simp only[uM,Int.natAbs_zero,if_true,aLW] at hdd
  by_cases mK:n<0
  ·obtain⟨v',H',ap,ho'⟩:=ho.cons 45 (by rw[←hdd];omega) 0
   have QV:mV false [.int .u8 0] 1 [(0,.sc (.int .u8 45))] H=some (.tree [bV 45] (.cl 1),H):=e1 45 H
   have bs2:=fun aQ (h:fJ aQ (.tmp 34)=v')=>ho'.str (fl:=⟨true,false⟩) (lo:=0) h
   simp only[lU,g0,g4,hv3,hlen,hl,VX,Nat.reduceEqDiff,Nat.reduceAdd]
   simp only[g0,mK,hv3,QV,C6,ap,Z8,VX,Nat.reduceEqDiff,Nat.reduceAdd]
   rw[bs2 _ (by rfl)]
   simp only[VX,Nat.reduceEqDiff,Nat.reduceAdd]
   rw[hdd]
   exact aJ rfl
  ·have bs2:=fun aQ (h:fJ aQ (.tmp 34)=v3)=>ho.str (fl:=⟨true,false⟩) (lo:=0) h
   simp only[lU,g0,g4,hv3,hlen,hl,VX,Nat.reduceEqDiff,Nat.reduceAdd]
   simp only[g0,mK,hv3,Z8,VX,Nat.reduceEqDiff,Nat.reduceAdd]
   rw[bs2 _ (by simp only[VX,Nat.reduceEqDiff,Nat.reduceAdd];try exact hv3)]
   simp only[VX,Nat.reduceEqDiff,Nat.reduceAdd]
   rw[hdd]
   exact aJ rfl
 ·have hm:r.tmod 10=if r<0 then -((r.natAbs % 10:Nat):Int) else ((r.natAbs % 10:Nat):Int):=by
   have:=aMG (a:=r) (b:=10)
   by_cases h:r<0
   ·rw[if_pos h]
    have h2:=Int.neg_tmod (-r) 10
    rw[Int.neg_neg] at h2
    rw[h2,aMG (by omega)]
    omega
   ·rw[if_neg h,this (by omega)]
    omega
  have hq:(r.tdiv 10).natAbs=r.natAbs / 10:=by rw[Int.natAbs_tdiv];rfl
  have hmd:=Nat.mod_lt r.natAbs (show 0<10 by decide)
  have q1:=aB7 r Kk T1
  have zD:bs.length≤19:=by
   by_cases hb:bs=[]
   ·subst hb;simp
   ·have h2:=hd hb
    have h3:=congrArg List.length h2
    rw[aKP] at h3
    have h4:r≠0:=fun h=>Ok ⟨hb,h⟩
    have h5:=aNC.2 (St r.natAbs)
    rw[uM,if_neg (by omega)] at h3
    omega
  obtain⟨v',H',ap,ho'⟩:=ho.cons (d10 (r.natAbs % 10)) (by omega) 0
  have w2:IntKind.i64.wrap (48+((r.natAbs % 10:Nat):Int))=((48+r.natAbs % 10:Nat):Int):=wrapN _ (by omega) (by omega)
  have w3:IntKind.u8.wrap ((48+r.natAbs % 10:Nat):Int)=((48+r.natAbs % 10:Nat):Int):=by
   simp[IntKind.wrap,IntKind.bits,IntKind.signed]
   omega
  have hx:VV.sc (.int .u8 ((48+r.natAbs % 10:Nat):Int))=bV (d10 (r.natAbs % 10)):=by rw[bV,afR hmd]
  have QV:=e1 (d10 (r.natAbs % 10)) H
  rw[←hx] at QV ap
  have next:∃s':Int×List UInt8,s'.1.natAbs+(if s'.2=[] then 1 else 0)<r.natAbs+(if bs=[] then 1 else 0) ∧ -9223372036854775808≤s'.1∧s'.1≤9223372036854775807∧(s'.2=[]→s'.1=n)∧(s'.2≠[]→decDigits n.natAbs=uM s'.1.natAbs++s'.2)∧I7 v' H' s'.2∧r.tdiv 10=s'.1:=by
   refine⟨(r.tdiv 10,d10 (r.natAbs % 10)::bs),?_,by simp only;omega,by simp only;omega,fun h=>(by simp at h),fun _ => ?_,ho',rfl⟩
   ·simp only[hq,List.cons_ne_nil,if_false]
    by_cases hb:bs=[]
    ·rw[if_pos hb];omega
    ·have h4:r≠0:=fun h=>Ok ⟨hb,h⟩
     rw[if_neg hb];omega
   ·simp only[hq]
    by_cases hb:bs=[]
    ·subst hb
     refine RQ ?_
     rw[hn rfl,aLM]
    ·have h4:r≠0:=fun h=>Ok ⟨hb,h⟩
     have h2:=hd hb
     rw[uM,if_neg (by omega)] at h2
     exact RQ h2
  by_cases hrn:r.tmod 10<0
  ·have w1:IntKind.i64.wrap (0-r.tmod 10)=((r.natAbs % 10:Nat):Int):=by
    have:r.tmod 10 = -((r.natAbs % 10:Nat):Int):=by
     by_cases h:r<0
     ·rw[if_pos h] at hm;exact hm
     ·rw[if_neg h] at hm;omega
    rw[this]
    exact wrapN _ (by omega) (by omega)
   by_cases hb:bs=[]
   ·have hl:(bs.length:Int)=0:=by rw[hb];rfl
    simp only[lU,g0,g4,hv3,hlen,hl,Zn,q1,hrn,w1,w2,w3,QV,C6,ap,VX,Nat.reduceEqDiff,Nat.reduceAdd]
    obtain⟨s',n1,n2,n3,n4,n5,n6,n7⟩:=next
    exact⟨s',n1,n2,n3,n4,n5,n6,by rw[n7]⟩
   ·have hl:¬(bs.length:Int)=0:=by have:=aNC.2 hb;omega
    have hr:¬r=0:=fun h=>Ok ⟨hb,h⟩
    simp only[lU,g0,g4,hv3,hlen,hl,hr,Zn,q1,hrn,w1,w2,w3,QV,C6,ap,VX,Nat.reduceEqDiff,Nat.reduceAdd]
    obtain⟨s',n1,n2,n3,n4,n5,n6,n7⟩:=next
    exact⟨s',n1,n2,n3,n4,n5,n6,by rw[n7]⟩
  ·have hmm:r.tmod 10=((r.natAbs % 10:Nat):Int):=by
    rw[hm] at hrn ⊢
    split
    ·rename_i h;rw[if_pos h] at hrn;omega
    ·rfl
   have aBl:¬((r.natAbs % 10:Nat):Int)<0:=by omega
   by_cases hb:bs=[]
   ·have hl:(bs.length:Int)=0:=by rw[hb];rfl
    simp only[lU,g0,g4,hv3,hlen,hl,Zn,hmm,q1,aBl,w2,w3,QV,C6,ap,VX,Nat.reduceEqDiff,Nat.reduceAdd]
    obtain⟨s',n1,n2,n3,n4,n5,n6,n7⟩:=next
    exact⟨s',n1,n2,n3,n4,n5,n6,by rw[n7]⟩
   ·have hl:¬(bs.length:Int)=0:=by have:=aNC.2 hb;omega
    have hr:¬r=0:=fun h=>Ok ⟨hb,h⟩
    simp only[lU,g0,g4,hv3,hlen,hl,hr,Zn,hmm,q1,aBl,w2,w3,QV,C6,ap,VX,Nat.reduceEqDiff,Nat.reduceAdd]
    obtain⟨s',n1,n2,n3,n4,n5,n6,n7⟩:=next
    exact⟨s',n1,n2,n3,n4,n5,n6,by rw[n7]⟩
end Go.PM
namespace Go.PM
abbrev chV (c:List (List ByteArray)):VV := .agg [lW c]
def D6 (n:Nat) (H:aA) (bare:Bool) (c:List (List ByteArray)) (r:VV):Prop:=∃c0,r = .agg [c0]∧wG n H bare c c0
theorem D6.dB {n:Nat} {H H':aA} {bare:Bool} {s:List (List ByteArray)} {c:VV} (h:D6 n H bare s c) (hk:∀b g x,n<b→aG H b g=some x→aG H' b g=some x):D6 n H' bare s c:=by
 obtain⟨c0,rfl,h0⟩:=h
 exact⟨c0,rfl,h0.dB hk⟩
theorem D6.pre {n:Nat} {H H':aA} {bare:Bool} {s:List (List ByteArray)} {c:VV} (h:D6 n H bare s c) (hh:H <+: H'):D6 n H' bare s c:=h.dB fun _ _ _ _=>cJ hh
theorem D6.fz {n:Nat} {H:aA} {bare:Bool} {s:List (List ByteArray)} {c:VV} (h:D6 n H bare s c):PM.fz depth H c=some (chV s):=by
 obtain⟨c0,rfl,h0⟩:=h
 have f0:=h0.fz (d:=4)
 have e:PM.fz (7+1) H (.agg [c0])=if aY (.agg [c0])=true then some (.agg [c0]) else ([c0].mapM (PM.fz 7 H)).map .agg:=rfl
 show PM.fz (7+1) H (.agg [c0])=_
 rw[e]
 by_cases hp:aY (.agg [c0])=true
 ·rw[if_pos hp]
  have hu:aY c0=true:=by simpa[aY,aO] using hp
  rw[aM hu] at f0
  cases f0
  rfl
 ·rw[if_neg hp,aL1,f0]
  rfl
theorem ld1 {n b:Nat} {s:List (List ByteArray)} {bare:Bool} {H H':aA} {c:VV} (hc:D6 n H bare s c) (h:aG H' b 0=some ([c],1,true)):bF true 1 (.ptr b 0 0 0) H'=some c:=by
 obtain⟨c0,rfl,_⟩:=hc
 rw[bK,h]
 rfl
end Go.PM
namespace Go.PM
open Go.Lib
def jT (c:UInt8):Bool:=decide (48≤c.toNat)&&decide (c.toNat≤57)
def dv (c:UInt8):Nat:=c.toNat-48
def OZ (a:Nat) (l:List UInt8):Nat:=l.foldl (fun a c=>a*10+dv c) a
def bZ (l:List UInt8):Nat:=OZ 0 l
theorem YX (l:List UInt8):∀a,OZ a l=a*10^l.length+bZ l:=by
 induction l with
 | nil=>intro a;simp[OZ,bZ]
 |
  cons c l ih =>
  intro a
  have h1:OZ a (c::l)=OZ (a*10+dv c) l:=rfl
  have h2:bZ (c::l)=OZ (0*10+dv c) l:=rfl
  rw[h1,h2,ih,ih (0*10+dv c),aKO,aL5]
  grind
theorem OX (a b:List UInt8):bZ (a++b)=bZ a*10^b.length+bZ b:=by
 have:bZ (a++b)=OZ (bZ a) b:=by unfold bZ OZ;rw[aNP]
 rw[this,YX]
theorem NS:bZ []=0:=rfl
theorem adY (a:List UInt8) (c:UInt8):bZ (a++[c])=bZ a*10+dv c:=by
 rw[OX]
 simp[bZ,OZ]
theorem auS {c:UInt8} (h:jT c=true):dv c<10:=by
 simp only[jT,aLc,decide_eq_true_eq] at h
 unfold dv
 omega
theorem JF:∀ {l:List UInt8},l.all jT=true→bZ l<10^l.length:=by
 intro l
 induction l with
 | nil=>intro _;decide
 |
  cons c l ih =>
  intro h
  rw[List.all_cons,aLc] at h
  have h1:=auS h.1
  have h2:=ih h.2
  have h3:bZ (c::l)=OZ (0*10+dv c) l:=rfl
  rw[h3,YX,aKO,aL5]
  have h4:(0*10+dv c)*10^l.length≤9*10^l.length:=aK5 _ (by omega)
  omega
theorem axV {M:Nat} (hM:1000000000000000000≤M):∀(l:List UInt8) (k acc:Nat),l.all jT=true→acc<10^k→k+l.length≤18→parseUintM M acc l = .ok (OZ acc l):=by
 intro l
 induction l with
 | nil=>intro k acc _ _ _;rfl
 |
  cons c l ih =>
  intro k acc h hk hl
  rw[List.all_cons,aLc] at h
  have h1:=auS h.1
  have h0:=h.1
  simp only[jT,aLc,decide_eq_true_eq] at h0
  rw[aKO] at hl
  have h18:acc<10^17:=aKG hk (aMH (by decide) (by omega))
  have e17:(10:Nat)^17=100000000000000000:=by decide
  rw[e17] at h18
  have hd:c.toNat-48=dv c:=rfl
  rw[parseUintM,if_pos h0,if_neg (by omega),hd,if_neg (by omega),ih (k+1) _ h.2 (by rw[aL5];omega) (by omega)]
  rfl
theorem azV {l:List UInt8} (h:l.all jT=true) (h0:l≠[]) (hl:l.length≤18):parseUintB 64 l = .ok (bZ l):=by
 unfold parseUintB
 rw[if_neg h0]
 exact axV (by decide) l 0 0 h (by decide) (by omega)
def jG (l:List UInt8):Bool:=l.all jT&&decide (1≤l.length)&&decide (l.length≤200)&&(decide (l.length=1) || !decide (l.getD 0 0=48))
theorem lI {l:List UInt8}:jG l=true↔l.all jT=true∧1≤l.length∧l.length≤200∧(l.length=1∨l.getD 0 0≠48):=by
 unfold jG
 simp only[aLc,Bool.or_eq_true,Bool.not_eq_true',decide_eq_true_eq,decide_eq_false_iff_not,ne_eq,and_assoc]
theorem Bz {l:List UInt8} (h:jG l=true):bl (bZ l)≤665:=by
 obtain⟨h1,h2,h3,_⟩:=lI.1 h
 refine zS (aKG (JF h1) ?_)
 exact aKF (aMH (by decide) h3) (by decide +kernel)
def oL (c:UInt8):List UInt8→List UInt8×Option (List UInt8)
 | []=>([],none)
 | x::r=>if x=c then ([],some r) else (x::(oL c r).1,(oL c r).2)
theorem Dl {c:UInt8}:∀ {l:List UInt8},(oL c l).2=none→indexByte l c = -1∧(oL c l).1=l∧c∉l:=by
 intro l
 induction l with
 | nil=>intro _;exact⟨rfl,rfl,by simp⟩
 |
  cons x l ih =>
  intro h
  unfold oL at h ⊢
  by_cases hx:x=c
  ·rw[if_pos hx] at h
   cases h
  ·rw[if_neg hx] at h ⊢
   obtain⟨h1,h2,h3⟩:=ih h
   refine⟨?_,by rw[h2],?_⟩
   ·rw[indexByte,if_neg (by simpa using hx),h1]
    rfl
   ·rw[aLS,not_or]
    exact⟨fun h=>hx h.symm,h3⟩
theorem Ln {c:UInt8}:∀ {l r:List UInt8},(oL c l).2=some r→indexByte l c=((oL c l).1.length:Int)∧l=(oL c l).1++c::r∧c∉(oL c l).1:=by
 intro l
 induction l with
 | nil=>intro r h;cases h
 |
  cons x l ih =>
  intro r h
  unfold oL at h ⊢
  by_cases hx:x=c
  ·rw[if_pos hx] at h ⊢
   cases h
   subst hx
   refine⟨?_,rfl,by simp⟩
   rw[indexByte,if_pos (by simp)]
   rfl
  ·rw[if_neg hx] at h ⊢
   obtain⟨h1,h2,h3⟩:=ih h
   refine⟨?_,?_,?_⟩
   ·rw[indexByte,if_neg (by simpa using hx),h1,if_neg]
    ·simp
    ·simp
   ·conv=>lhs;rw[h2]
    rfl
   ·rw[aLS,not_or]
    exact⟨fun h=>hx h.symm,h3⟩
def rK (neg:Bool) (d:List UInt8) (s:Option (List UInt8)):Option Rat :=
 if jG d=false∨(neg=true∧bZ d=0) then none else
 match s with
 | none=>some (mkRat (mI neg (bZ d)) 1)
 | some t=>if jG t=true∧1<bZ t∧aNm (bZ d) (bZ t)=1 then some (mkRat (mI neg (bZ d)) (bZ t)) else none
def isNeg (l:List UInt8):Bool:=decide (1≤l.length)&&decide (l.getD 0 0=45)
def A8 (l:List UInt8):Option Rat:=rK (isNeg l) ((oL 47 (if isNeg l then l.drop 1 else l)).1) ((oL 47 (if isNeg l then l.drop 1 else l)).2)
theorem XU {neg:Bool} {d:List UInt8} {s:Option (List UInt8)} {q:Rat} (h:rK neg d s=some q):jG d=true∧¬(neg=true∧bZ d=0)∧((s=none∧q=mkRat (mI neg (bZ d)) 1)∨∃t,s=some t∧jG t=true∧1<bZ t∧aNm (bZ d) (bZ t)=1∧q=mkRat (mI neg (bZ d)) (bZ t)):=by
 unfold rK at h
 split at h
 ·cases h
 ·rename_i hc
  rw[not_or] at hc
  refine⟨by simpa using hc.1,hc.2,?_⟩
  split at h
  ·exact .inl ⟨rfl,(Option.some.inj h).symm⟩
  ·rename_i t
   split at h
   ·rename_i ht
    exact .inr ⟨t,rfl,ht.1,ht.2.1,ht.2.2,(Option.some.inj h).symm⟩
   ·cases h
theorem UO {neg:Bool} {d:List UInt8} {s:Option (List UInt8)} {q:Rat} (h:rK neg d s=some q):aL q≤665:=by
 obtain⟨h1,_,h3⟩:=XU h
 have hb:=Bz h1
 rcases h3 with⟨_,rfl⟩ | ⟨t,_,h4,h5,_,rfl⟩
 ·exact CY (by rw[qY];exact hb) (zS (by decide +kernel)) (by decide)
 ·exact CY (by rw[qY];exact hb) (Bz h4) (by omega)
theorem Ys {l:List UInt8} {q:Rat} (h:A8 l=some q):aL q≤665:=UO h
theorem LU {neg:Bool} {t b:Nat} (hb:b≠0) (hg:aNm t b=1):(mkRat (mI neg t) b).num=mI neg t∧(mkRat (mI neg t) b).den=b:=by
 rw[IM hb,Sk hb,hg,Nat.div_one,Nat.div_one]
 exact⟨rfl,rfl⟩
theorem Im {c:UInt8} {l:List UInt8}:isNeg (c::l)=decide (c=45):=by simp[isNeg]
theorem anT {l:List UInt8} (h:l.all jT=true):(47:UInt8)∉l:=by
 intro hm
 have:=aKS.1 h _ hm
 exact absurd this (by decide)
end Go.PM
namespace Go.PM
open Go.Lib
theorem F0 (l:List UInt8) {i:Nat} (h:i<l.length):Ke (.string ⟨l.toArray⟩) (.int .i64 (i:Int))=some (.int .u8 ((l.getD i 0).toNat:Int)):=by
 have hs:(⟨l.toArray⟩:ByteArray).size=l.length:=by simp[ByteArray.size]
 have e1:(0:Int)≤i∧(i:Int)<(l.length:Int):=by omega
 simp only[Ke,hs,e1,and_self,if_true,aL0]
theorem KI (l:List UInt8) (h:0<l.length):Ke (.string ⟨l.toArray⟩) (.int .i64 0)=some (.int .u8 ((l.getD 0 0).toNat:Int)):=F0 l h
theorem IZ (l:List UInt8) (a b:Nat):(⟨l.toArray⟩:ByteArray).extract a b=⟨((l.drop a).take (b-a)).toArray⟩:=by
 rw[ByteArray.ext_iff,ByteArray.data_extract]
 simp[List.extract_toArray,List.extract_eq_take_drop]
theorem Iz (l:List UInt8) {a:Nat} (h:a≤l.length):zO (bD l) (some (VI (a:Int))) none=some (bD (l.drop a)):=by
 have hs:(⟨l.toArray⟩:ByteArray).size=l.length:=by simp[ByteArray.size]
 have e2:(0:Int)≤a∧(a:Int)≤(l.length:Int):=by omega
 simp only[zO,IH,Co,hs,fC,e2,and_self,if_true,aL0,IZ]
 rw[aLx (by simp)]
theorem ON (l:List UInt8) {b:Nat} (hb:b≤l.length):zO (bD l) none (some (VI (b:Int)))=some (bD (l.take b)):=by
 have hs:(⟨l.toArray⟩:ByteArray).size=l.length:=by simp[ByteArray.size]
 have e1:(0:Int)≤b∧(b:Int)≤(l.length:Int):=by omega
 simp only[zO,IH,Co,hs,fC,e1,and_self,if_true,aL0,IZ]
 rw[aLQ,Nat.sub_zero]
theorem Vk (l:List UInt8):dK .eql (.string ⟨l.toArray⟩) (.string ⟨#[]⟩)=some (.bool (decide (l=[]))):=Zt l []
theorem Mk (l:List UInt8):dK .neq (.string ⟨l.toArray⟩) (.string ⟨#[]⟩)=some (.bool (!decide (l=[]))):=TD l []
theorem Vl (l:List UInt8):TC 210 [bD l,bD [45]] (VB (isNeg l)):=by
 refine TC.walk ⟨true,false⟩ wO rfl (aMs rfl) rfl rfl ?_
 have e1:DE (.string ⟨#[45]⟩)=some (.int .i64 1):=rfl
 by_cases h:(1:Int)≤(l.length:Int)
 ·have e2:=ON l (b:=1) (by omega)
  have e2:zO (bD l) none (some (VI 1))=some (bD (l.take 1)):=e2
  have e3:dK .eql (.string ⟨(l.take 1).toArray⟩) (.string ⟨#[45]⟩)=some (.bool (decide (l.take 1=[45]))):=Zt (l.take 1) [45]
  have e4:isNeg l=decide (l.take 1=[45]):=by
   cases l with
   | nil=>exact absurd h (by decide)
   | cons c l=>rw[Im];simp
  rw[e4]
  simp only[jC,iL,bO,e1,ge_iff_le,h,e2,e3,VX,Nat.reduceEqDiff,Nat.reduceAdd]
  exact aJ rfl
 ·have e4:isNeg l=false:=by unfold isNeg;rw[decide_eq_false (by omega)];rfl
  rw[e4]
  simp only[jC,iL,bO,e1,ge_iff_le,h,VX,Nat.reduceEqDiff,Nat.reduceAdd]
  exact aJ rfl
theorem Tv (l:List UInt8):TC 191 [bD l,bD [45]] (.dW [bD (if isNeg l then l.drop 1 else l),VB (isNeg l)]):=by
 refine TC.walk ⟨true,false⟩ wE rfl (aMs rfl) rfl rfl ?_
 have e0:=Vl l
 have e1:DE (.string ⟨#[45]⟩)=some (.int .i64 1):=rfl
 cases h:isNeg l with
 |
  true =>
  rw[h] at e0
  have hl:1≤l.length:=by
   cases l with
   | nil=>cases h
   | cons c l=>simp
  have e2:zO (bD l) (some (VI 1)) none=some (bD (l.drop 1)):=Iz l (a:=1) hl
  simp only[iY,iB,e0,e1,e2,VX,Nat.reduceEqDiff,Nat.reduceAdd]
  exact aJ rfl
 |
  false =>
  rw[h] at e0
  simp only[iY,iB,e0,aLg,if_false,VX,Nat.reduceEqDiff,Nat.reduceAdd]
  exact aJ rfl
theorem WZ (l:List UInt8):TC 173 [bD l,bD [45]] (.dW [bD (if isNeg l then l.drop 1 else l),VB (isNeg l)]):=by
 refine TC.walk ⟨true,false⟩ Hh rfl (aMs rfl) rfl rfl ?_
 have e0:=Tv l
 simp only[Ca,Ax,e0,VX,Nat.reduceEqDiff,Nat.reduceAdd]
 exact aJ rfl
theorem avZ (l:List UInt8) (hl:l.length≤1000000000000):TC 190 [bD l,bD [47]] (.dW [bD (oL 47 l).1,bD ((oL 47 l).2.getD []),VB (oL 47 l).2.isSome]):=by
 refine TC.walk ⟨true,false⟩ BK rfl (aMs rfl) rfl rfl ?_
 have e0:=asA l 47
 have e1:DE (.string ⟨#[47]⟩)=some (.int .i64 1):=rfl
 cases h:(oL 47 l).2 with
 |
  none =>
  obtain⟨h1,h2,_⟩:=Dl h
  rw[h1] at e0
  rw[h2]
  simp only[nI,lT,e0,ge_iff_le,Int.reduceNeg,Int.reduceLE,VX,Nat.reduceEqDiff,Nat.reduceAdd]
  exact aJ rfl
 |
  some r =>
  obtain⟨h1,h2,_⟩:=Ln h
  rw[h1] at e0
  generalize (oL 47 l).1=a at *
  subst h2
  rw[aKP,aKO] at hl
  have h0:(0:Int)≤(a.length:Int):=by omega
  have e2:=ON (a++47::r) (b:=a.length) (by simp)
  have e3:=Iz (a++47::r) (a:=a.length+1) (by simp)
  rw[List.take_left] at e2
  have ed:(a++47::r).drop (a.length+1)=r:=by rw[List.drop_append];simp
  rw[ed] at e3
  have w:IntKind.i64.wrap ((a.length:Int)+1)=((a.length+1:Nat):Int):=wrapN _ (by omega) (by omega)
  simp only[nI,lT,e0,e1,ge_iff_le,h0,w,e2,e3,VX,Nat.reduceEqDiff,Nat.reduceAdd]
  exact aJ rfl
theorem aCh (l:List UInt8) (hl:l.length≤1000000000000):TC 172 [bD l,bD [47]] (.dW [bD (oL 47 l).1,bD ((oL 47 l).2.getD []),VB (oL 47 l).2.isSome]):=by
 refine TC.walk ⟨true,false⟩ Ql rfl (aMs rfl) rfl rfl ?_
 have e0:=avZ l hl
 simp only[Mx,HK,e0,VX,Nat.reduceEqDiff,Nat.reduceAdd]
 exact aJ rfl
def CZ (l:List UInt8):VV:=if jG l=true then .dW [bR (bZ l),VB true] else .dW [bR 0,VB false]
theorem adK (l:List UInt8):gU (CZ l)=true:=by
 unfold CZ
 split<;>simp[gU,sO,uA,qH]
theorem awF {d:Nat}:fz (d+1) [.row 0 [] 1 true] (.ref 0 0 0 0 0)=some (bR 0):=by
 rw[GZ]
 cases d with
 | zero=>rfl
 | succ d=>rfl
theorem Oe {n:Nat} (hn:n≤9) {lo:Nat} {H:aA} {ρ:cV} {Q:VQ} (h58:ρ 58=VI n) (h59:ρ 59=VI 0) (h9:ρ 9=VK .u64 1) (hQ:∀aQ,(∀t,t<9→aQ t=ρ t)→aQ 9=VK .u64 ((10^n:Nat):Int)→Q .normal aQ H):VW ⟨true,false⟩ lo (.loop uF) (tH 4 Q) ρ H:=by
 refine aP (fun(i:Nat) aQ H'=>i≤n∧H'=H∧(∀t,t<9→aQ t=ρ t)∧aQ 58=VI n∧aQ 59=VI i∧aQ 9=VK .u64 ((10^i:Nat):Int)) (fun i=>n-i) 0 ⟨aK8 _,rfl,fun _ _=>rfl,h58,h59,h9⟩ ?_
 rintro i aQ H' ⟨hi,rfl,hk,g58,g59,g9⟩
 by_cases bW:(i:Int)<(n:Int)
 ·have wi:IntKind.i64.wrap ((i:Int)+1)=((i+1:Nat):Int):=wrapN (i+1) (by omega) (by omega)
  have hp:10^i≤10^8:=aMH (by decide) (by omega)
  have e8:(10:Nat)^8=100000000:=by decide
  have wp:IntKind.u64.wrap (((10^i:Nat):Int)*10)=((10^(i+1):Nat):Int):=by
   rw[aL5]
   generalize 10^i=p at *
   have:=eT (p*10) (by omega)
   rw[Int.natCast_mul] at this
   rw[Int.natCast_mul]
   exact this
  simp only[uF,g58,g59,g9,bW,wi,wp,VX,Nat.reduceEqDiff,Nat.reduceAdd]
  refine⟨i+1,by omega,by omega,fun t ht => ?_,rfl,rfl⟩
  try simp only[zF]
  repeat rw[if_neg (by omega)]
  exact hk t ht
 ·have mH:i=n:=by omega
  subst mH
  simp only[uF,g58,g59,bW,VX,Nat.reduceEqDiff,Nat.reduceAdd]
  refine hQ _ (fun t ht => ?_) ?_
  ·try simp only[zF]
   repeat rw[if_neg (by omega)]
   exact hk t ht
  ·simp only[g9,VX,Nat.reduceEqDiff,Nat.reduceAdd]
theorem alD {l:List UInt8} {i:Nat} (h:i<l.length):(l.take (i+1)).all jT=((l.take i).all jT&&jT (l.getD i 0)):=by
 rw[aMu,aNQ]
 have:l[i]? = some (l.getD i 0):=by rw[aKL h,aKB,aKL h];rfl
 rw[this]
 simp
theorem Ov {l:List UInt8} (hl:l.length≤1000000000000) {lo:Nat} {H:aA} {ρ:cV} {Q:VQ} (h0:ρ 0=bD l) (h29:ρ 29=VI l.length) (h30:ρ 30=VI 0)
  (hR:l.all jT=false→∀aQ:cV,aQ 2 = .tree [] .nil→aQ 3=VB false→Q .ret aQ H) (hN:l.all jT=true→∀aQ:cV,(∀t,t<5→aQ t=ρ t)→Q .normal aQ H):VW ⟨true,false⟩ lo (.loop mQ) (tH 0 Q) ρ H:=by
 refine aP (fun(i:Nat) aQ H'=>i≤l.length∧H'=H∧(l.take i).all jT=true∧(∀t,t<5→aQ t=ρ t)∧aQ 29=VI l.length∧aQ 30=VI i) (fun i=>l.length-i) 0 ⟨aK8 _,rfl,rfl,fun _ _=>rfl,h29,h30⟩ ?_
 rintro i aQ H' ⟨hi,rfl,hd,hk,g29,g30⟩
 have g0:=(hk 0 (by decide)).trans h0
 by_cases bW:(i:Int)<(l.length:Int)
 ·have XQ:i<l.length:=by omega
  have e1:=F0 l XQ
  have wi:IntKind.i64.wrap ((i:Int)+1)=((i+1:Nat):Int):=wrapN (i+1) (by omega) (by omega)
  have ht:=alD XQ
  rw[hd,Bool.true_and] at ht
  have YR:jT (l.getD i 0)=(decide (48≤(l.getD i 0).toNat)&&decide ((l.getD i 0).toNat≤57)):=rfl
  have jO:jT (l.getD i 0)=false→l.all jT=false:=by
   intro h
   rw[h] at ht
   rw[←aLN (i+1) l,aNQ,ht,Bool.false_and]
  generalize (l.getD i 0).toNat=c at *
  by_cases q1:(c:Int)<48
  ·have:=jO (by rw[YR,decide_eq_false (by omega)];rfl)
   simp only[mQ,g0,g29,g30,bW,e1,q1,VX,Nat.reduceEqDiff,Nat.reduceAdd]
   exact hR this _ (by simp only[VX,Nat.reduceEqDiff,Nat.reduceAdd]) (by simp only[VX,Nat.reduceEqDiff,Nat.reduceAdd])
  ·by_cases q2:(57:Int)<(c:Int)
   ·have:=jO (by rw[YR,decide_eq_false (show ¬c≤57 by omega),Bool.and_false])
    simp only[mQ,g0,g29,g30,bW,e1,q1,q2,VX,Nat.reduceEqDiff,Nat.reduceAdd]
    exact hR this _ (by simp only[VX,Nat.reduceEqDiff,Nat.reduceAdd]) (by simp only[VX,Nat.reduceEqDiff,Nat.reduceAdd])
   ·rw[YR,decide_eq_true (by omega),decide_eq_true (by omega),aL2] at ht
    simp only[mQ,g0,g29,g30,bW,e1,q1,q2,wi,VX,Nat.reduceEqDiff,Nat.reduceAdd]
    refine⟨i+1,by omega,by omega,ht,fun t ht => ?_,rfl⟩
    try simp only[zF]
    repeat rw[if_neg (by omega)]
    exact hk t ht
 ·have mH:i=l.length:=by omega
  subst mH
  rw[aLR] at hd
  simp only[mQ,g29,g30,bW,VX,Nat.reduceEqDiff,Nat.reduceAdd]
  refine hN hd _ fun t ht => ?_
  try simp only[zF]
  repeat rw[if_neg (by omega)]
  exact hk t ht
set_option maxHeartbeats 2000000 in
theorem N8 {l:List UInt8} (hd:l.all jT=true) (hl:l.length≤200) (gF:l≠[]) {ρ:cV} {Q:VQ} (h0:ρ 0=bD l) (h4:ρ 4 = .ref 0 0 0 0 0)
  (hQ:∀(aQ:cV),aQ 4=bR (bZ l)→Q .normal aQ [.row 0 [] 1 false]):VW ⟨true,false⟩ 0 (.loop pU) (tH 2 Q) ρ [.row 0 [] 1 true]:=by
 refine aP (fun(s:List UInt8×List UInt8) aQ H'=>l=s.1++s.2∧aQ 0=bD s.2∧((H'=[.row 0 [] 1 true]∧aQ 4 = .ref 0 0 0 0 0∧s.1=[])∨(H'=[.row 0 [] 1 false]∧aQ 4=bR (bZ s.1)))) (fun s=>s.2.length) ([],l) ⟨rfl,h0,.inl ⟨rfl,h4,rfl⟩⟩ ?_
 rintro⟨pre,rest⟩ aQ H' ⟨Ud,g0,hv⟩
 simp only at Ud g0 hv
 have e1:=Mk rest
 by_cases he:rest=[]
 ·subst he
  rw[aLM] at Ud
  subst Ud
  rcases hv with⟨_,_,h⟩ | ⟨rfl,g4⟩
  ·exact absurd h gF
  have QV:dK .neq (.string ⟨#[]⟩) (.string ⟨#[]⟩)=some (.bool false):=by
   have:=Mk []
   rw[decide_eq_true rfl] at this
   exact this
  simp only[pU,g0,QV,VX,Nat.reduceEqDiff,Nat.reduceAdd]
  exact hQ _ (by simp only[g4,VX,Nat.reduceEqDiff,Nat.reduceAdd])
 ·rw[Ud,aNQ,aLc] at hd
  obtain⟨hd1,hd2⟩:=hd
  rw[Ud,aKP] at hl
  have lR:0<rest.length:=aNC.2 he
  have QV:dK .neq (.string ⟨rest.toArray⟩) (.string ⟨#[]⟩)=some (.bool true):=by rw[e1,decide_eq_false he];rfl
  have wm:(rest.length:Int).tmod 9=((rest.length % 9:Nat):Int):=by rw[aMG (by omega)];simp
  have er:dK .rem (.int .i64 (rest.length:Int)) (.int .i64 9)=some (.int .i64 ((rest.length % 9:Nat):Int)):=by
   rw[←wm]
   rfl
  obtain⟨n,hn⟩:∃n,n=if rest.length % 9=0 then 9 else rest.length % 9:=⟨_,rfl⟩
  have hn1:1≤n∧n≤9∧n≤rest.length:=by
   rw[hn]
   split<;>omega
  obtain⟨n1,n9,nl⟩:=hn1
  have e2:=ON rest nl
  have e3:=Iz rest nl
  have hch:(rest.take n).length=n:=by rw[aMd];omega
  have hcd:(rest.take n).all jT=true:=by
   rw[←aLN n rest,aNQ,aLc] at hd2
   exact hd2.1
  have hp:=aqR (rest.take n) (bZ (rest.take n)) (by omega) (azV hcd (fun h=>by rw[h] at hch;simp at hch;omega) (by omega))
  have HF:=JF hcd
  rw[hch] at HF
  have hp9:10^n≤10^9:=aMH (by decide) n9
  have e9:(10:Nat)^9=1000000000:=by decide
  have aIL:bZ (rest.take n)<1000000000:=by omega
  have c1:=oS (10^n) (by omega)
  have c2:=oS (bZ (rest.take n)) (by omega)
  have hbp:bl (bZ pre)≤665:=by
   refine zS (aKG (JF hd1) ?_)
   exact aKF (aMH (by decide) (by omega:pre.length≤200)) (by decide +kernel)
  have hb9:bl (10^n)≤64:=zS (by omega)
  have hbm:=oC (bZ pre) (10^n)
  have hbc:bl (bZ (rest.take n))≤64:=zS (by omega)
  have tm:=jS (bZ pre) (10^n) (gK (by omega)) (gK (by omega))
  have c4:=Fu (bZ pre*10^n) (bZ (rest.take n)) (gK (by omega)) (gK (by omega))
  have pY:bZ pre*10^n+bZ (rest.take n)=bZ (pre++rest.take n):=by rw[OX,hch]
  rw[pY] at c4
  have fin:(rest.drop n).length<rest.length∧pre++rest=(pre++rest.take n)++rest.drop n:=⟨by rw[List.length_drop];omega,by rw[aMq,aLN]⟩
  obtain⟨v4,g4,c3⟩:∃v4,aQ 4=v4∧∀lo K,dH 143 [v4,bR (10^n)] lo H' K=K (bR (bZ pre*10^n)) [.row 0 [] 1 false]:=by
   rcases hv with⟨rfl,g4,Zf⟩ | ⟨rfl,g4⟩
   ·refine⟨_,g4,fun lo K => ?_⟩
    subst Zf
    have:=tm.Dj (H:=[.row 0 [] 1 true]) (args:=[.ref 0 0 0 0 0,bR (10^n)]) (lo:=lo) (k:=K) rfl (by simp[aO,bU]) (fz2 awF (aM (bU _))) rfl
    rw[this,show Jh (bR (bZ []*10^n))=false from rfl,if_neg (by decide),List.flatMap_cons,List.flatMap_cons,List.flatMap_nil,Ec (bU _),K9 (n:=0) (c:=0) (es:=[]) (e:=1) (w:=true) aU rfl rfl]
    rfl
   ·exact⟨_,g4,fun lo K=>tm lo [.row 0 [] 1 false] K⟩
  clear hv
  obtain⟨P,hP⟩:∃P,P=10^n:=⟨_,rfl⟩
  rw[←hP] at c1 c4 c3
  have hnI:(rest.length % 9:Nat)=0∨¬(rest.length % 9:Nat)=0:=by omega
  rcases hnI with h9 | h9
  ·rw[if_pos h9] at hn
   subst hn
   have q:((rest.length % 9:Nat):Int)=0:=by omega
   have e2':zO (bD rest) none (some (VI 9))=some (bD (rest.take 9)):=e2
   have e3':zO (bD rest) (some (VI 9)) none=some (bD (rest.drop 9)):=e3
   simp only[pU,g0,g4,QV,bO,er,q,e2',hp,VX,Nat.reduceEqDiff,Nat.reduceAdd]
   refine Oe (n:=9) (by decide) ?_ ?_ ?_ fun AS k1 q9 => ?_
   ·simp only[VX,Nat.reduceEqDiff,Nat.reduceAdd];rfl
   ·simp only[VX,Nat.reduceEqDiff,Nat.reduceAdd]
   ·simp only[VX,Nat.reduceEqDiff,Nat.reduceAdd]
   rw[←hP] at q9
   have u0:AS 0=bD rest:=by rw[k1 0 (by decide)];simp only[g0,VX,Nat.reduceEqDiff,Nat.reduceAdd]
   have u4:AS 4=v4:=by rw[k1 4 (by decide)];simp only[g4,VX,Nat.reduceEqDiff,Nat.reduceAdd]
   have u6:AS 6=VI 9:=by rw[k1 6 (by decide)];simp only[VX,Nat.reduceEqDiff,Nat.reduceAdd]
   have u7:AS 7=VK .u64 (bZ (rest.take 9)):=by rw[k1 7 (by decide)];simp only[VX,Nat.reduceEqDiff,Nat.reduceAdd]
   simp only[u0,u4,u6,u7,q9,c1,c2,c3,c4,e3',VX,Nat.reduceEqDiff,Nat.reduceAdd]
   exact⟨(pre++rest.take 9,rest.drop 9),fin.1,Ud.trans fin.2,rfl,.inr rfl⟩
  ·rw[if_neg h9] at hn
   rw[←hn] at er
   have q:¬(n:Int)=0:=by omega
   simp only[pU,g0,g4,QV,bO,er,q,e2,hp,VX,Nat.reduceEqDiff,Nat.reduceAdd]
   refine Oe (n:=n) n9 ?_ ?_ ?_ fun AS k1 q9 => ?_
   ·simp only[VX,Nat.reduceEqDiff,Nat.reduceAdd]
   ·simp only[VX,Nat.reduceEqDiff,Nat.reduceAdd]
   ·simp only[VX,Nat.reduceEqDiff,Nat.reduceAdd]
   rw[←hP] at q9
   have u0:AS 0=bD rest:=by rw[k1 0 (by decide)];simp only[g0,VX,Nat.reduceEqDiff,Nat.reduceAdd]
   have u4:AS 4=v4:=by rw[k1 4 (by decide)];simp only[g4,VX,Nat.reduceEqDiff,Nat.reduceAdd]
   have u6:AS 6=VI n:=by rw[k1 6 (by decide)];simp only[VX,Nat.reduceEqDiff,Nat.reduceAdd]
   have u7:AS 7=VK .u64 (bZ (rest.take n)):=by rw[k1 7 (by decide)];simp only[VX,Nat.reduceEqDiff,Nat.reduceAdd]
   simp only[u0,u4,u6,u7,q9,c1,c2,c3,c4,e3,VX,Nat.reduceEqDiff,Nat.reduceAdd]
   exact⟨(pre++rest.take n,rest.drop n),fin.1,Ud.trans fin.2,rfl,.inr rfl⟩
set_option maxHeartbeats 2000000 in
theorem FZ (l:List UInt8) (hl:l.length≤1000000000000):TC 174 [bD l] (CZ l):=by
 refine TC.walk ⟨true,false⟩ OP rfl (aMs rfl) rfl (adK l) ?_
 have e1:=Vk l
 by_cases he:l=[]
 ·have hk:jG l=false:=by rw[he];rfl
  have QV:dK .eql (.string ⟨l.toArray⟩) (.string ⟨#[]⟩)=some (.bool true):=by rw[e1,decide_eq_true he]
  unfold CZ
  rw[hk]
  simp only[sN,oF,QV,aLg,if_false,VX,Nat.reduceEqDiff,Nat.reduceAdd]
  exact bN (d:=6) AI (aM (v:=VB false) rfl)
 have lR:0<l.length:=aNC.2 he
 by_cases aqA:(200:Int)<(l.length:Int)
 ·have hk:jG l=false:=by
   cases h:jG l with
   | false=>rfl
   | true=>have:=(lI.1 h).2.2.1;omega
  unfold CZ
  rw[hk]
  simp only[sN,oF,e1,he,decide_false,bO,aqA,aLg,if_false,VX,Nat.reduceEqDiff,Nat.reduceAdd]
  exact bN (d:=6) AI (aM (v:=VB false) rfl)
 have e2:=KI l lR
 by_cases hz:(((l.getD 0 0).toNat:Int)=48∧1<(l.length:Int))
 ·obtain⟨Kq,Nz⟩:=hz
  have hk:jG l=false:=by
   cases h:jG l with
   | false=>rfl
   |
    true =>
    rcases(lI.1 h).2.2.2 with h1 | h1
    ·omega
    ·exact absurd (UInt8.toNat_inj.1 (by rw[show (48:UInt8).toNat=48 from rfl];omega)) h1
  unfold CZ
  rw[hk]
  simp only[sN,oF,e1,he,decide_false,bO,aqA,e2,Kq,Nz,aLg,if_false,VX,Nat.reduceEqDiff,Nat.reduceAdd]
  exact bN (d:=6) AI (aM (v:=VB false) rfl)
 have aAR:l.length=1∨l.getD 0 0≠48:=by
  by_cases h1:l.length=1
  ·exact .inl h1
  ·right
   intro h2
   apply hz
   rw[h2]
   exact⟨rfl,by omega⟩
 have e3:∀lr,mV lr [.int .u32 0] 0 [] []=some (.ref 0 0 0 0 0,[.row 0 [] 1 true]):=fun lr=>mX (H:=[]) (lr:=lr) (z:=[.int .u32 0]) rfl
 have kN:l.all jT=true→jG l=true:=fun h=>lI.2 ⟨h,lR,by omega,aAR⟩
 have kF:l.all jT=false→jG l=false:=fun h=>by unfold jG;rw[h];rfl
 have rF:jG l=false→CZ l = .dW [bR 0,VB false]:=fun h=>by unfold CZ;rw[h];rfl
 have rT:jG l=true→CZ l = .dW [bR (bZ l),VB true]:=fun h=>if_pos h
 by_cases hA:(((l.getD 0 0).toNat:Int)=48)
 ·have hB:¬1<(l.length:Int):=fun h=>hz ⟨hA,h⟩
  simp only[sN,oF,e1,e3,he,decide_false,bO,aqA,e2,hA,hB,aLg,if_false,VX,Nat.reduceEqDiff,Nat.reduceAdd]
  refine Ov hl ?_ ?_ ?_ (fun hd AS g2 g3 => ?_) fun hd AS k1 => ?_
  ·simp only[VX,Nat.reduceEqDiff,Nat.reduceAdd]
  ·simp only[VX,Nat.reduceEqDiff,Nat.reduceAdd]
  ·simp only[VX,Nat.reduceEqDiff,Nat.reduceAdd]
  ·rw[rF (kF hd)]
   simp only[g2,g3,VX,Nat.reduceEqDiff,Nat.reduceAdd]
   exact bN (d:=6) AI (aM (v:=VB false) rfl)
  ·rw[rT (kN hd)]
   simp only[VX,Nat.reduceEqDiff,Nat.reduceAdd]
   refine N8 hd (by omega) he ?_ ?_ fun tK g4 => ?_
   ·rw[k1 0 (by decide)];simp only[VX,Nat.reduceEqDiff,Nat.reduceAdd]
   ·rw[k1 4 (by decide)];simp only[VX,Nat.reduceEqDiff,Nat.reduceAdd]
   ·simp only[g4,VX,Nat.reduceEqDiff,Nat.reduceAdd]
    exact bN (d:=6) (aM (bU _)) (aM (v:=VB true) rfl)
 ·simp only[sN,oF,e1,e3,he,decide_false,bO,aqA,e2,hA,aLg,if_false,VX,Nat.reduceEqDiff,Nat.reduceAdd]
  refine Ov hl ?_ ?_ ?_ (fun hd AS g2 g3 => ?_) fun hd AS k1 => ?_
  ·simp only[VX,Nat.reduceEqDiff,Nat.reduceAdd]
  ·simp only[VX,Nat.reduceEqDiff,Nat.reduceAdd]
  ·simp only[VX,Nat.reduceEqDiff,Nat.reduceAdd]
  ·rw[rF (kF hd)]
   simp only[g2,g3,VX,Nat.reduceEqDiff,Nat.reduceAdd]
   exact bN (d:=6) AI (aM (v:=VB false) rfl)
  ·rw[rT (kN hd)]
   simp only[VX,Nat.reduceEqDiff,Nat.reduceAdd]
   refine N8 hd (by omega) he ?_ ?_ fun tK g4 => ?_
   ·rw[k1 0 (by decide)];simp only[VX,Nat.reduceEqDiff,Nat.reduceAdd]
   ·rw[k1 4 (by decide)];simp only[VX,Nat.reduceEqDiff,Nat.reduceAdd]
   ·simp only[g4,VX,Nat.reduceEqDiff,Nat.reduceAdd]
    exact bN (d:=6) (aM (bU _)) (aM (v:=VB true) rfl)
def PA:VV := .agg [VB false,bR 0,bR 0]
def FU (l:List UInt8):VV:=match A8 l with
 | some q => .dW [aF q,VB true]
 | none => .dW [PA,VB false]
theorem W0:gU PA=true:=by simp[PA,gU,sO,uA,qH]
theorem Xk (l:List UInt8):gU (FU l)=true:=by
 unfold FU
 split<;>simp[gU,sO,pX,W0,qH]
theorem iF {d:Nat} {H:aA}:fz (d+2) H (.agg [VB false,.tree [] .nil,.tree [] .nil])=some PA:=uD (aM (v:=VB false) rfl) AI AI
theorem OV {neg:Bool} {t b:Nat} (hb:b≠0) (hg:aNm t b=1) (hn:¬(neg=true∧t=0)):aF (mkRat (mI neg t) b) = .agg [VB neg,bR t,bR b]:=by
 obtain⟨e1,e2⟩:=LU (neg:=neg) hb hg
 refine Ek ?_ (by rw[e1,qY]) e2
 rw[e1]
 cases neg with
 | false=>unfold mI;simp
 |
  true =>
  have:t≠0:=fun h=>hn ⟨rfl,h⟩
  unfold mI
  simp
  omega
theorem YT (l:List UInt8):A8 l=rK (isNeg (oL 47 l).1) (if isNeg (oL 47 l).1 then (oL 47 l).1.drop 1 else (oL 47 l).1) (oL 47 l).2:=by
 cases l with
 | nil=>rfl
 |
  cons c r =>
  unfold A8
  by_cases h47:c=47
  ·subst h47
   rfl
  ·have e:oL 47 (c::r)=(c::(oL 47 r).1,(oL 47 r).2):=by rw[oL,if_neg h47]
   by_cases h45:c=45
   ·subst h45
    rw[e]
    rfl
   ·rw[e,Im,Im,decide_eq_false h45]
    simp only[aLg,if_false,e]
theorem Wd {c:UInt8}:∀ {l:List UInt8},(oL c l).1.length≤l.length∧∀t,(oL c l).2=some t→t.length≤l.length:=by
 intro l
 cases h:(oL c l).2 with
 | none=>rw[(Dl h).2.1];exact⟨aKE _,fun t ht=>by cases ht⟩
 |
  some r =>
  have:=congrArg List.length (Ln h).2.1
  rw[aKP,aKO] at this
  exact⟨by omega,fun t ht=>by cases ht;omega⟩
theorem RU {n:Nat}:(((aD 4294967296 n).length:Nat):Int)=0↔n=0:=by
 rw[←nU (b:=4294967296) (n:=n) (by decide),←aMM]
 omega
set_option maxRecDepth 100000 in
set_option maxHeartbeats 4000000 in
theorem N0 (l:List UInt8) (hl:l.length≤1000000000000):TC 115 [bD l] (FU l):=by
 refine TC.walk ⟨true,false⟩ PV rfl (aMs rfl) rfl (Xk l) ?_
 have e1:=aCh l hl
 obtain⟨l1,l2⟩:=Wd (c:=47) (l:=l)
 have hq:=YT l
 unfold FU
 rw[hq]
 clear hq
 generalize (oL 47 l).1=f at *
 generalize (oL 47 l).2=s2 at *
 have e2:=WZ f
 have ld:(if isNeg f=true then f.drop 1 else f).length≤f.length:=by split<;>simp
 generalize (if isNeg f=true then f.drop 1 else f)=d at *
 generalize isNeg f=neg at *
 have e3:=FZ d (by omega)
 have c1:TC 139 [.sc (.int .u64 1)] (bR 1):=oS 1 (by decide)
 cases hd:jG d with
 |
  false =>
  have hp:rK neg d s2=none:=if_pos (.inl hd)
  rw[hp]
  unfold CZ at e3
  rw[hd,if_neg (by decide)] at e3
  simp only[fH,dJ,e1,e2,e3,aK,gG,Nat.reduceLeDiff,Nat.reduceLT,Nat.reduceSub,VX,Nat.reduceEqDiff,Nat.reduceAdd]
  exact bN (d:=6) iF (aM (v:=VB false) rfl)
 |
  true =>
  unfold CZ at e3
  rw[hd,if_pos rfl] at e3
  by_cases hz:neg=true∧bZ d=0
  ·have hp:rK neg d s2=none:=if_pos (.inr hz)
   rw[hp]
   obtain⟨rfl,CL⟩:=hz
   rw[CL] at e3
   have Ci:(((aD 4294967296 0).length:Nat):Int)=0:=RU.2 rfl
   simp only[fH,dJ,e1,e2,e3,dM,Ci,aK,gG,Nat.reduceLeDiff,Nat.reduceLT,Nat.reduceSub,VX,Nat.reduceEqDiff,Nat.reduceAdd]
   exact bN (d:=6) iF (aM (v:=VB false) rfl)
  ·have hbt:=Bz hd
   have Ci:neg=true→¬(((aD 4294967296 (bZ d)).length:Nat):Int)=0:=fun h h0=>hz ⟨h,RU.1 h0⟩
   cases s2 with
   |
    none =>
    have hp:rK neg d none=some (mkRat (mI neg (bZ d)) 1):=if_neg (by rw[hd];rintro(h | h);exact absurd h (by decide);exact hz h)
    rw[hp]
    simp only[]
    rw[OV (by decide) (Nat.gcd_one_right _) hz]
    cases neg with
    |
     false =>
     simp only[fH,dJ,e1,e2,e3,c1,aLj,Option.getD_none,aK,bA,aZ,aS,gG,Nat.reduceLeDiff,Nat.reduceLT,Nat.reduceSub,VX,Nat.reduceEqDiff,Nat.reduceAdd]
     exact bN (d:=6) (uD (aM (v:=VB false) rfl) (aM (bU _)) (aM (bU _))) (aM (v:=VB true) rfl)
    |
     true =>
     have Ci:=Ci rfl
     simp only[fH,dJ,e1,e2,e3,c1,dM,Ci,aLj,Option.getD_none,aK,bA,aZ,aS,gG,Nat.reduceLeDiff,Nat.reduceLT,Nat.reduceSub,VX,Nat.reduceEqDiff,Nat.reduceAdd]
     exact bN (d:=6) (uD (aM (v:=VB true) rfl) (aM (bU _)) (aM (bU _))) (aM (v:=VB true) rfl)
   |
    some t =>
    have e4:=FZ t (by have:=l2 t rfl;omega)
    have hp:rK neg d (some t)=if jG t=true∧1<bZ t∧aNm (bZ d) (bZ t)=1 then some (mkRat (mI neg (bZ d)) (bZ t)) else none:=if_neg (by rw[hd];rintro(h | h);exact absurd h (by decide);exact hz h)
    rw[hp]
    cases ht:jG t with
    |
     false =>
     rw[if_neg (fun h=>absurd h.1 (by decide))]
     unfold CZ at e4
     rw[ht,if_neg (by decide)] at e4
     cases neg with
     |
      false =>
      simp only[fH,dJ,e1,e2,e3,e4,c1,aNR,aNS,aK,bA,aZ,aS,gG,Nat.reduceLeDiff,Nat.reduceLT,Nat.reduceSub,VX,Nat.reduceEqDiff,Nat.reduceAdd]
      exact bN (d:=6) iF (aM (v:=VB false) rfl)
     |
      true =>
      have Ci:=Ci rfl
      simp only[fH,dJ,e1,e2,e3,e4,c1,dM,Ci,aNR,aNS,aK,bA,aZ,aS,gG,Nat.reduceLeDiff,Nat.reduceLT,Nat.reduceSub,VX,Nat.reduceEqDiff,Nat.reduceAdd]
      exact bN (d:=6) iF (aM (v:=VB false) rfl)
    |
     true =>
     have Ow:=Bz ht
     unfold CZ at e4
     rw[ht,if_pos rfl] at e4
     have c2:=lQ (bZ t) 1 (gK (by omega)) (gK (aKF (zS (n:=1) (k:=1) (by decide)) (by decide)))
     have c3:=FI (bZ d) (bZ t) (gK (by omega)) (gK (by omega))
     by_cases h1:gC (bZ t) 1≤0
     ·have hle:¬1<bZ t:=fun h=>by unfold gC at h1;rw[if_neg (by omega),if_neg (by omega)] at h1;exact absurd h1 (by decide)
      rw[if_neg (fun h=>hle h.2.1)]
      cases neg with
      |
       false =>
       simp only[fH,dJ,e1,e2,e3,e4,c1,c2,h1,aNR,aNS,aK,bA,aZ,aS,gG,Nat.reduceLeDiff,Nat.reduceLT,Nat.reduceSub,VX,Nat.reduceEqDiff,Nat.reduceAdd]
       exact bN (d:=6) iF (aM (v:=VB false) rfl)
      |
       true =>
       have Ci:=Ci rfl
       simp only[fH,dJ,e1,e2,e3,e4,c1,c2,h1,dM,Ci,aNR,aNS,aK,bA,aZ,aS,gG,Nat.reduceLeDiff,Nat.reduceLT,Nat.reduceSub,VX,Nat.reduceEqDiff,Nat.reduceAdd]
       exact bN (d:=6) iF (aM (v:=VB false) rfl)
     ·have bI:1<bZ t:=by
       rcases Nat.lt_or_ge 1 (bZ t) with h | h
       ·exact h
       ·exfalso
        apply h1
        unfold gC
        split
        ·decide
        ·rw[if_pos (by omega)];decide
      have hgl:bl (aNm (bZ d) (bZ t))≤665:=aKF (mB (Nat.le_of_dvd (by omega) (Nat.gcd_dvd_right _ _))) Ow
      have c4:=lQ (aNm (bZ d) (bZ t)) 1 (gK (by omega)) (gK (aKF (zS (n:=1) (k:=1) (by decide)) (by decide)))
      by_cases hg:aNm (bZ d) (bZ t)=1
      ·have h4:gC (aNm (bZ d) (bZ t)) 1=0:=by rw[hg];rfl
       rw[if_pos ⟨rfl,bI,hg⟩]
       simp only[]
       rw[OV (by omega) hg hz]
       cases neg with
       |
        false =>
        simp only[fH,dJ,e1,e2,e3,e4,c1,c2,c3,c4,h1,h4,aNR,aNS,aK,bA,aZ,aS,gG,Nat.reduceLeDiff,Nat.reduceLT,Nat.reduceSub,VX,Nat.reduceEqDiff,Nat.reduceAdd]
        exact bN (d:=6) (uD (aM (v:=VB false) rfl) (aM (bU _)) (aM (bU _))) (aM (v:=VB true) rfl)
       |
        true =>
        have Ci:=Ci rfl
        simp only[fH,dJ,e1,e2,e3,e4,c1,c2,c3,c4,h1,h4,dM,Ci,aNR,aNS,aK,bA,aZ,aS,gG,Nat.reduceLeDiff,Nat.reduceLT,Nat.reduceSub,VX,Nat.reduceEqDiff,Nat.reduceAdd]
        exact bN (d:=6) (uD (aM (v:=VB true) rfl) (aM (bU _)) (aM (bU _))) (aM (v:=VB true) rfl)
      ·have h4:¬gC (aNm (bZ d) (bZ t)) 1=0:=by
        unfold gC
        split<;>(try split)<;>first | decide | omega
       rw[if_neg (fun h=>hg h.2.2)]
       cases neg with
       |
        false =>
        simp only[fH,dJ,e1,e2,e3,e4,c1,c2,c3,c4,h1,h4,aNR,aNS,aK,bA,aZ,aS,gG,Nat.reduceLeDiff,Nat.reduceLT,Nat.reduceSub,VX,Nat.reduceEqDiff,Nat.reduceAdd]
        exact bN (d:=6) iF (aM (v:=VB false) rfl)
       |
        true =>
        have Ci:=Ci rfl
        simp only[fH,dJ,e1,e2,e3,e4,c1,c2,c3,c4,h1,h4,dM,Ci,aNR,aNS,aK,bA,aZ,aS,gG,Nat.reduceLeDiff,Nat.reduceLT,Nat.reduceSub,VX,Nat.reduceEqDiff,Nat.reduceAdd]
        exact bN (d:=6) iF (aM (v:=VB false) rfl)
end Go.PM
namespace Go.PM
open Go.Lib
theorem WA {l:List UInt8} {q:Rat} (h:A8 l=some q):FU l = .dW [aF q,VB true]:=by unfold FU;rw[h]
theorem Vx {l:List UInt8} (h:A8 l=none):FU l = .dW [PA,VB false]:=by unfold FU;rw[h]
theorem MD:aB PA=[VB false,bR 0,bR 0]:=rfl
theorem P3:isAny PA=false:=rfl
theorem U5:dQ true 3 PA 0=some PA:=rfl
theorem Sd (q:Rat):∃s k,Bv q = .dW [bD s,VB k]:=by
 unfold Bv
 split<;>exact⟨_,_,rfl⟩
end Go.PM
namespace Go.PM
open Go.Lib
theorem zJ {q:Rat}:jI q=0↔q=0:=by
 rw[←Rat.num_eq_zero]
 rcases Int.lt_trichotomy q.num 0 with h | h | h
 ·rw[oW h];omega
 ·rw[kX h];simp[h]
 ·rw[oZ h];omega
end Go.PM
namespace Go.PM
open Go.Lib
theorem WV {α:Type} {f:α→VV} {d e b g c:Nat} {xs:List α} {H:aA} {w:Bool} (hp:∀x,aY (f x)=true) (h:aG H b g=some (xs.map f,e,w)) (hc:xs.length≤c):fz (d+2) H (.ref b g 0 xs.length c)=some (aC f xs):=by
 have:aY (.ref b g 0 xs.length c)=false:=rfl
 unfold PM.fz
 simp only[this,h,aLg,if_false]
 rw[if_pos ⟨by simp,hc⟩,aLQ,aLx (by simp),mapM_pure (fN hp)]
 rfl
theorem Cd {d:Nat} {H:aA}:fz (d+1) H (.tree [] .nil)=some (.tree [] .op):=by
 unfold PM.fz
 have:aY (.tree [] .nil)=false:=by simp[aY]
 simp[this]
theorem Il {H:aA}:fz depth H (.dW [.tree [] .nil,VB false])=some (.dW [.tree [] .op,VB false]):=bN (d:=6) Cd (aM (v:=VB false) rfl)
theorem zY {u v:VV} (hu:gU u=true) (hv:gU v=true):gU (.dW [u,v])=true:=by simp only[gU,sO,hu,hv,aL2]
theorem acM {u v:VV} (hu:aY u=true) (hv:aY v=true):aY (.dW [u,v])=true:=by simp only[aY,aO,hu,hv,aL2]
theorem KR {u:VV} (hu:aY u=true):aO [u]=true:=by simp only[aO,hu,aL2]
theorem Ak {u v:VV} (hu:aY u=true) (hv:aY v=true):aO [u,v]=true:=by simp only[aO,hu,hv,aL2]
def pQ (s:ByteArray):Option Rat:=A8 s.data.toList
theorem ajK (s:ByteArray):sV s=bD s.data.toList:=rfl
def tC (xs:List ByteArray):Option (List Rat):=if xs.length≤300 then xs.mapM pQ else none
def Si (o:Option (List Rat)):VV:=match o with
 | some qs => .dW [aC aF qs,VB true]
 | none => .dW [aC aF [],VB false]
theorem dD (q:Rat):(aB (aF q)).length=3:=rfl
theorem gO (qs:List Rat):aY (aC aF qs)=true:=mR dD fV
theorem abW (q:Rat):Cr (aF q)=true:=by simp[Cr,aF,bR]
theorem Gx (qs:List Rat):gU (aC aF qs)=true:=Aa dD pX abW
theorem QT (o:Option (List Rat)):gU (Si o)=true:=by
 unfold Si
 split
 ·exact zY (Gx _) rfl
 ·exact zY (Gx []) rfl
theorem Q8 {α β:Type} {f:α→Option β} {xs:List α} {ys:List β} {x:α} {y:β} (h:xs.mapM f=some ys) (hx:f x=some y):(xs++[x]).mapM f=some (ys++[y]):=by
 rw[List.mapM_append,h]
 simp[hx]
theorem mapM_none {α β:Type} {f:α→Option β} {x:α} (hx:f x=none):∀ {xs:List α},x∈xs→xs.mapM f=none
 | [],h=>by cases h
 |
  y::xs,h=>by
  rw[aL1]
  cases hy:f y with
  | none=>rfl
  |
   some z =>
   rcases aLS.1 h with rfl | h
   ·rw[hx] at hy;cases hy
   ·show ((xs.mapM f).bind fun zs=>some (z::zs))=none
    rw[mapM_none hx h];rfl
theorem mapM_mem {α β:Type} {f:α→Option β} {P:β→Prop} (hP:∀x y,f x=some y→P y):∀ {xs:List α} {ys:List β},xs.mapM f=some ys→∀y∈ys,P y
 | [],ys,h,y,hy=>by simp at h;subst h;cases hy
 |
  x::xs,ys,h,y,hy=>by
  rw[aL1] at h
  cases hx:f x with
  | none=>rw[hx] at h;cases h
  |
   some z =>
   rw[hx] at h
   cases hs:xs.mapM f with
   | none=>rw[hs] at h;cases h
   |
    some zs =>
    rw[hs] at h
    cases h
    rcases aLS.1 hy with rfl | hy
    ·exact hP _ _ hx
    ·exact mapM_mem hP hs _ hy
theorem sP {α:Type} {xs:List α} {i:Nat} {x:α} (h:xs[i]? = some x):xs.take (i+1)=xs.take i++[x]:=by rw[aMu,h];rfl
theorem nH {xs:List ByteArray} {qs:List Rat} (h:tC xs=some qs):(∀q∈qs,aL q≤665)∧qs.length≤300∧qs.length=xs.length:=by
 unfold tC at h
 split at h
 ·rename_i hl
  have:=Bt h
  exact⟨mapM_mem (fun _ _ h=>Ys h) h,by omega,this⟩
 ·cases h
set_option maxHeartbeats 1000000 in
theorem Gc (xs:List ByteArray) (hn:xs.length≤1000000000) (hs:∀s∈xs,s.size≤1000000000):TC 65 [gJ xs] (Si (tC xs)):=by
 refine TC.walk ⟨true,false⟩ WN rfl (aMs rfl) (by simp[aO,kJ]) (QT _) ?_
 unfold tC
 by_cases YH:(300:Int)<(xs.length:Int)
 ·rw[if_neg (by omega)]
  simp only[Lj,FV,YH,VX,Nat.reduceEqDiff,Nat.reduceAdd]
  exact Il
 rw[if_pos (by omega)]
 have e0:=fun H=>mX (H:=H) (lr:=false) (z:=[.bool false,.slice none 0 0,.slice none 0 0]) rfl
 simp only[Lj,FV,YH,e0,VX,Nat.reduceEqDiff,Nat.reduceAdd]
 refine O7 (fun(s:Nat×List Rat) ρ H=>s.1≤xs.length∧(xs.take s.1).mapM pQ=some s.2∧H=[.row s.1 (s.2.map aF) 3 true]∧ρ 4 = .ref 0 s.1 0 s.1 s.1∧ρ 13=gJ xs∧ρ 14=VI xs.length∧ρ 15=VI s.1) (fun s=>xs.length-s.1) (0,[]) ⟨aK8 _,rfl,rfl,rfl,rfl,rfl,rfl⟩ ?_
 rintro⟨i,out⟩ ρ H ⟨hi,wM,rfl,g4,g13,g14,g15⟩
 simp only at hi wM g4 g15
 have gZ:out.length=i:=by rw[Bt wM,aMd];omega
 by_cases bW:(i:Int)<(xs.length:Int)
 ·obtain⟨x,hx⟩:∃x,xs[i]? = some x:=⟨_,aKL (by omega)⟩
  have hxm:=aLy hx
  have e1:=fun H=>aH (f:=sV) (t := .op) (H:=H) (size:=1) (k := .i64) hx rfl
  have wi:IntKind.i64.wrap ((i:Int)+1)=((i+1:Nat):Int):=wrapN (i+1) (by omega) (by omega)
  have e2:=N0 x.data.toList (by have:=hs x hxm;rw[Array.length_toList];show x.size≤_;omega)
  rw[←ajK] at e2
  cases hp:pQ x with
  |
   none =>
   rw[Vx hp] at e2
   rw[mapM_none hp hxm]
   simp only[AL,g4,g13,g14,g15,bW,e1,e2,MD,P3,U5,aZ,bA,aS,gG,Nat.reduceLeDiff,Nat.reduceLT,Nat.reduceSub,nM,cD,cP,gN,lY,pS,bne_iff_ne,ne_eq,not_false_eq_true,not_true_eq_false,VX,Nat.reduceEqDiff,Nat.reduceAdd]
   exact Il
  |
   some q =>
   rw[WA hp] at e2
   have eL:∀H,mV false [.bool false,.slice none 0 0,.slice none 0 0] 1 [(0,aF q)] H=some (.tree [aF q] (.cl 3),H):=fun H=>iU rfl rfl rfl
   have eS:∀H,cW 3 (.tree [aF q] (.cl 3)) H=some [aF q]:=fun H=>eU rfl rfl
   have eP:dO 0 3 56 (.ref 0 i 0 i i) [aF q] [.row i (out.map aF) 3 true,.row 0 [aF q] 3 true]=some (.ref 0 (i+1) 0 (i+1) (i+1),[.row (i+1) ((out++[q]).map aF) 3 true,.row 0 [aF q] 3 true]):=by
    rw[jV (f:=aF) (xs:=out) (by rw[aU]) gZ.symm (aKE _) (by decide) (by decide) (by omega),aMi]
   simp only[AL,g4,g13,g14,g15,bW,e1,e2,eL,eS,eP,wi,aK,cM,bH,aZ,bA,aS,gG,Nat.reduceLeDiff,Nat.reduceLT,Nat.reduceSub,nM,cD,cP,gN,lY,pS,bne_iff_ne,ne_eq,not_false_eq_true,not_true_eq_false,VX,Nat.reduceEqDiff,Nat.reduceAdd]
   refine⟨(i+1,out++[q]),by simp only;omega,?_,by simp only;omega,by simp only[sP hx];exact Q8 wM hp,rfl,?_⟩
   ·rw[DK (oR _ (fN fV)),Km]
   ·simp only[BG,g13,g14,C4 (kJ _),Kl (Nat.lt_succ_self 0),VX,Nat.reduceEqDiff,Nat.reduceAdd,aNT,nZ,List.all_nil,aMh,BG,Py,C4]
 ·have mH:i=xs.length:=by omega
  subst mH
  rw[aLR] at wM
  rw[wM]
  simp only[AL,g4,g13,g14,g15,bW,VX,Nat.reduceEqDiff,Nat.reduceAdd]
  refine bN (d:=6) ?_ (aM (v:=VB true) rfl)
  have:=WV (d:=5) (w:=true) (f:=aF) (e:=3) (b:=0) (g:=xs.length) (c:=xs.length) (xs:=out) (H:=[.row xs.length (out.map aF) 3 true]) fV (by rw[aU]) (by omega)
  rw[gZ] at this
  exact this
end Go.PM
namespace Go.PM
open Go.Lib
theorem aoK {α:Type} {l:List α} (h:l.Nodup) {i j:Nat} {x:α} (hi:l[i]? = some x) (hj:l[j]? = some x):i=j:=by
 obtain⟨hi,qQ⟩:=aKD.1 hi
 obtain⟨hj,hj'⟩:=aKD.1 hj
 have h:=List.pairwise_iff_getElem.1 h
 rcases Nat.lt_trichotomy i j with bI | heq | hgt
 ·exact absurd (qQ.trans hj'.symm) (h i j hi hj bI)
 ·exact heq
 ·exact absurd (hj'.trans qQ.symm) (h j i hj hi hgt)
section
variable {α:Type} {f:α→VV} {e lo hi:Nat} {H H':aA} {v:VV}
def jQ (lo hi:Nat) (H H':aA):Prop:=∀b g x,lo≤b→b<hi→aG H b g=some x→aG H' b g=some x
theorem jQ.pre (h:H <+: H'):jQ lo hi H H':=fun _ _ _ _ _=>cJ h
theorem jQ.refl:jQ lo hi H H:=fun _ _ _ _ _ h=>h
theorem jQ.trans {Uo:aA} (h:jQ lo hi H H') (h':jQ lo hi H' Uo):jQ lo hi H Uo:=fun b g x h1 h2 h3=>h' b g x h1 h2 (h b g x h1 h2 h3)
theorem jQ.sub {l h':Nat} (h:jQ lo hi H H') (hl:lo≤l) (hh:h'≤hi):jQ l h' H H':=fun b g x h1 h2=>h b g x (by omega) (by omega)
theorem jQ.set {b:Nat} {x:fO} (hb:b<lo∨hi≤b):jQ lo hi H (H.set b x):=fun _ _ _ h1 h2=>aX (by omega)
theorem jQ.move {L:aA}:jQ H.length hi (List.replicate H.length .dead++L) (H++L):=fun _ _ _ h1 _=>K4 h1
def W4 (f:α→VV) (e:Nat) (cH:List α) (lo hi:Nat) (H:aA) (v:VV):Prop :=
 (v = .tree [] .nil∧cH=[])∨∃b g c,lo≤b∧b<hi∧v = .ref b g 0 cH.length c∧cH.length≤c∧aG H b g=some (cH.map f,e,true)
theorem W4.dB {cH:List α} (h:W4 f e cH lo hi H v) (hk:jQ lo hi H H'):W4 f e cH lo hi H' v:=by
 rcases h with h | ⟨b,g,c,h1,h2,h3,h4,h5⟩
 ·exact .inl h
 ·exact .inr ⟨b,g,c,h1,h2,h3,h4,hk _ _ _ h1 h2 h5⟩
theorem W4.wide {cH:List α} {fW qQ:Nat} (h:W4 f e cH lo hi H v) (hl:fW≤lo) (hh:hi≤qQ):W4 f e cH fW qQ H v:=by
 rcases h with h | ⟨b,g,c,h1,h2,h3⟩
 ·exact .inl h
 ·exact .inr ⟨b,g,c,by omega,by omega,h3⟩
theorem G5 {d b g c:Nat} {xs:List α} {w:Bool} (hp:∀x,aY (f x)=true) (h:aG H b g=some (xs.map f,e,w)) (hc:xs.length≤c):fz (d+2) H (.ref b g 0 xs.length c)=some (aC f xs):=by
 have:aY (.ref b g 0 xs.length c)=false:=rfl
 show PM.fz ((d+1)+1) H _=_
 unfold PM.fz
 simp only[this,h,aLg,if_false]
 rw[if_pos ⟨by simp,hc⟩,aLQ,aLx (by simp),mapM_pure (n:=d) (fN hp)]
 rfl
theorem W4.fz {d:Nat} {cH:List α} (h:W4 f e cH lo hi H v) (hp:∀x,aY (f x)=true):PM.fz (d+2) H v=some (aC f cH):=by
 rcases h with⟨rfl,rfl⟩ | ⟨b,g,c,h1,h2,rfl,h4,h5⟩
 ·exact OS
 ·exact G5 hp h5 h4
structure CE (α:Type) where
 b:Nat
 g:Nat
 c:Nat
 xs:List α
def tU (r:CE α):VV := .ref r.b r.g 0 r.xs.length r.c
structure Y0 (f:α→VV) (e lo hi b:Nat) (H:aA) (rs:List (CE α)):Prop where
 nd:(rs.map (·.b)).Nodup
 row:∀r∈rs,lo≤r.b∧r.b<hi∧r.b≠b∧r.xs.length≤r.c∧aG H r.b r.g=some (r.xs.map f,e,true)
def RG (f:α→VV) (e:Nat) (cH:List (List α)) (lo hi:Nat) (H:aA) (v:VV):Prop :=
 (v = .tree [] .nil∧cH=[])∨∃b g c rs,lo≤b∧b<hi∧v = .ref b g 0 cH.length c∧cH.length≤c∧aG H b g=some (rs.map tU,1,true)∧rs.map (·.xs)=cH∧Y0 f e lo hi b H rs
theorem RG.dB {cH:List (List α)} (h:RG f e cH lo hi H v) (hk:jQ lo hi H H'):RG f e cH lo hi H' v:=by
 rcases h with h | ⟨b,g,c,rs,h1,h2,h3,h4,h5,h6,h7⟩
 ·exact .inl h
 ·exact .inr ⟨b,g,c,rs,h1,h2,h3,h4,hk _ _ _ h1 h2 h5,h6,h7.nd,fun r hr=>by
   obtain⟨k1,k2,k3,k4,k5⟩:=h7.row r hr
   exact⟨k1,k2,k3,k4,hk _ _ _ k1 k2 k5⟩⟩
theorem RG.wide {cH:List (List α)} {fW qQ:Nat} (h:RG f e cH lo hi H v) (hl:fW≤lo) (hh:hi≤qQ):RG f e cH fW qQ H v:=by
 rcases h with h | ⟨b,g,c,rs,h1,h2,h3,h4,h5,h6,h7⟩
 ·exact .inl h
 ·exact .inr ⟨b,g,c,rs,by omega,by omega,h3,h4,h5,h6,h7.nd,fun r hr=>by
   obtain⟨k1,k2,k3,k4,k5⟩:=h7.row r hr
   exact⟨by omega,by omega,k3,k4,k5⟩⟩
theorem Zd {d b g c lo hi:Nat} {rs:List (CE α)} {w:Bool} (hp:∀x,aY (f x)=true) (h:aG H b g=some (rs.map tU,1,w)) (hc:rs.length≤c) (hR:Y0 f e lo hi b H rs) :
  fz (d+3) H (.ref b g 0 rs.length c)=some (aC (aC f) (rs.map (·.xs))):=by
 have:aY (.ref b g 0 rs.length c)=false:=rfl
 show PM.fz ((d+2)+1) H _=_
 unfold PM.fz
 simp only[this,h,aLg,if_false]
 rw[if_pos ⟨by simp,hc⟩,aLQ,aLx (by simp),mapM_map (f:=tU) (f':=fun r=>aC f r.xs) fun r hr=>G5 hp (hR.row r hr).2.2.2.2 (hR.row r hr).2.2.2.1]
 simp[aC,List.map_map]
theorem RG.fz {d:Nat} {cH:List (List α)} (h:RG f e cH lo hi H v) (hp:∀x,aY (f x)=true):PM.fz (d+3) H v=some (aC (aC f) cH):=by
 rcases h with⟨rfl,rfl⟩ | ⟨b,g,c,rs,h1,h2,rfl,h4,h5,rfl,h7⟩
 ·exact OS
 ·rw[aMl] at h4 ⊢
  exact Zd hp h5 h4 h7
theorem GQ {d:Nat} {us Ig:List VV} (h:us.mapM (PM.fz (d+1) H)=some Ig):PM.fz (d+2) H (.agg us)=some (.agg Ig):=by
 have e:PM.fz (d+2) H (.agg us)=if aY (.agg us)=true then some (.agg us) else (us.mapM (PM.fz (d+1) H)).map .agg:=rfl
 rw[e]
 by_cases hq:aY (.agg us)=true
 ·rw[if_pos hq]
  have:us.mapM (PM.fz (d+1) H)=some us:=mapM_pure hq
  rw[this] at h
  cases h
  rfl
 ·rw[if_neg hq,h]
  rfl
end
def Jy (T:VV) (lo hi:Nat) (H:aA) (v:VV):Prop:=∀H',jQ lo hi H H'→fz depth H' v=some T
theorem Jy.dB {T:VV}:∀ {lo hi H H' v},Jy T lo hi H v→jQ lo hi H H'→Jy T lo hi H' v:=fun h hk _ h'=>h _ (hk.trans h')
theorem Jy.now {T v:VV} {lo hi:Nat} {H:aA} (h:Jy T lo hi H v):fz depth H v=some T:=h H jQ.refl
def CG (cH:List (List ByteArray)) (lo hi:Nat) (H:aA) (v:VV):Prop:=∃c,v = .agg [c]∧RG sV 1 cH lo hi H c
theorem CG.dB {cH:List (List ByteArray)}:∀ {lo hi H H' v},CG cH lo hi H v→jQ lo hi H H'→CG cH lo hi H' v:=by
 rintro lo hi H H' v ⟨c,h1,h2⟩ hk
 exact⟨c,h1,h2.dB hk⟩
theorem CG.fz {cH:List (List ByteArray)} {lo hi:Nat} {H:aA} {v:VV} (h:CG cH lo hi H v):PM.fz depth H v=some (chV cH):=by
 obtain⟨c,rfl,h⟩:=h
 refine GQ (d:=6) ?_
 rw[aL1,h.fz (d:=4) fun _=>rfl]
 rfl
theorem CG.seen {cH:List (List ByteArray)} {lo hi:Nat} {H:aA} {v:VV} (h:CG cH lo hi H v):Jy (chV cH) lo hi H v:=fun _ hk=>(h.dB hk).fz
def SvG (s:vJ) (lo hi:Nat) (H:aA) (v:VV):Prop:=∃a b c m1 m2,v = .agg [a,b,c]∧lo≤m1∧m1≤m2∧m2≤hi∧W4 sV 1 s.b lo m1 H a∧RG sV 1 s.g m1 m2 H b∧W4 sV 1 s.e m2 hi H c
theorem SvG.dB {s:vJ}:∀ {lo hi H H' v},SvG s lo hi H v→jQ lo hi H H'→SvG s lo hi H' v:=by
 rintro lo hi H H' v ⟨a,b,c,m1,m2,h1,k1,k2,k3,h2,h3,h4⟩ hk
 exact⟨a,b,c,m1,m2,h1,k1,k2,k3,h2.dB (hk.sub (by omega) (by omega)),h3.dB (hk.sub (by omega) (by omega)),h4.dB (hk.sub (by omega) (by omega))⟩
theorem aAh {s:vJ} {l1 h1 l2 h2 l3 h3:Nat} {H:aA} {a b c:VV} (ha:W4 sV 1 s.b l1 h1 H a) (hb:RG sV 1 s.g l2 h2 H b) (hc:W4 sV 1 s.e l3 h3 H c):PM.fz depth H (.agg [a,b,c])=some (vU s):=by
 refine GQ (d:=6) ?_
 rw[aL1,ha.fz (d:=5) fun _=>rfl]
 rw[aL1,hb.fz (d:=4) fun _=>rfl]
 rw[aL1,hc.fz (d:=5) fun _=>rfl]
 rfl
theorem SvG.fz {s:vJ} {lo hi:Nat} {H:aA} {v:VV} (h:SvG s lo hi H v):PM.fz depth H v=some (vU s):=by
 obtain⟨a,b,c,m1,m2,rfl,k1,k2,k3,h2,h3,h4⟩:=h
 exact aAh h2 h3 h4
theorem SvG.seen {s:vJ} {lo hi:Nat} {H:aA} {v:VV} (h:SvG s lo hi H v):Jy (vU s) lo hi H v:=fun _ hk=>(h.dB hk).fz
theorem W4.seen {cH:List ByteArray} {lo hi:Nat} {H:aA} {v:VV} (h:W4 sV 1 cH lo hi H v):Jy (gJ cH) lo hi H v:=fun _ hk=>(h.dB hk).fz (d:=6) fun _=>rfl
end Go.PM
namespace Go.PM
section
variable {α:Type} {f:α→VV} {e:Nat}
structure Rd (f:α→VV) (e:Nat) (xs:List α) (H:aA) (v:VV):Prop where
 len:∀H',H <+: H'→sE v H'=some (VI xs.length)
 get:∀H',H <+: H'→∀(i:Nat) x,xs[i]? = some x→∃p,bJ e v (VI i) H'=some p∧∀ag,bF ag e p H'=dQ ag e (f x) 0
 cell:aB v=[v]∧bP v=true∧isAny v=false
theorem Rd.pre {xs:List α} {H H':aA} {v:VV} (h:Rd f e xs H v) (hh:H <+: H'):Rd f e xs H' v:=⟨fun H2 h2=>h.len H2 (hh.trans h2),fun H2 h2=>h.get H2 (hh.trans h2),h.cell⟩
theorem Rd.tree {xs:List α} {H:aA} {t:TK} (hs:∀x,(aB (f x)).length=e):Rd f e xs H (.tree (xs.map f) t) :=
 ⟨fun _ _=>eR,fun _ _ i x hx=>⟨_,aH hx (hs x),fun ag=>NA⟩,rfl,rfl,rfl⟩
theorem Rd.row {xs:List α} {H:aA} {b g n c:Nat} {w:Bool} (h:aG H b g=some (xs.map f,e,w)) (hn:n=xs.length):Rd f e xs H (.ref b g 0 n c):=by
 subst hn
 refine⟨fun H' hh=>eI (cJ hh h),fun H' hh i x hx => ?_,rfl,rfl,rfl⟩
 have hi:=(aKD.1 hx).1
 have e1:=bB (o:=0) (n:=xs.length) (c:=c) (i:=i) (k := .i64) (cJ hh h) hi
 rw[aMc] at e1
 exact⟨_,e1,fun ag=>qB (f:=f) (cJ hh h) hx⟩
structure MG (f:α→VV) (e lo hi b g:Nat) (H:aA) (rs:List (CE α)):Prop where
 out:aG H b g=some (rs.map tU,1,true)
 blo:lo≤b
 bhi:b<hi
 rows:Y0 f e lo hi b H rs
variable {lo hi b g:Nat} {H H':aA} {rs:List (CE α)}
theorem MG.dB (h:MG f e lo hi b g H rs) (hk:jQ lo hi H H'):MG f e lo hi b g H' rs :=
 ⟨hk _ _ _ h.blo h.bhi h.out,h.blo,h.bhi,h.rows.nd,fun r hr=>by
  obtain⟨k1,k2,k3,k4,k5⟩:=h.rows.row r hr
  exact⟨k1,k2,k3,k4,hk _ _ _ k1 k2 k5⟩⟩
theorem MG.pre (h:MG f e lo hi b g H rs) (hh:H <+: H'):MG f e lo hi b g H' rs:=h.dB (jQ.pre hh)
theorem MG.len {n c:Nat} (h:MG f e lo hi b g H rs):sE (.ref b g 0 n c) H=some (VI n):=eI h.out
theorem MG.addr {i n c:Nat} (h:MG f e lo hi b g H rs) (hi:i<n):bJ 1 (.ref b g 0 n c) (VI i) H=some (.ptr b g i 0):=by
 have:=bB (o:=0) (n:=n) (c:=c) (i:=i) (k := .i64) h.out hi
 rwa [aMc] at this
theorem MG.cell {i:Nat} {r:CE α} (h:MG f e lo hi b g H rs) (hr:rs[i]? = some r):bF false 1 (.ptr b g i 0) H=some (.ref r.b r.g 0 r.xs.length r.c):=by
 rw[qB (f:=tU) h.out hr]
 rfl
theorem MG.row {i:Nat} {r:CE α} (h:MG f e lo hi b g H rs) (hr:rs[i]? = some r):aG H r.b r.g=some (r.xs.map f,e,true):=(h.rows.row r (aLy hr)).2.2.2.2
theorem MG.at {i j n c:Nat} {r:CE α} (h:MG f e lo hi b g H rs) (hr:rs[i]? = some r) (hj:j<n):bJ e (.ref r.b r.g 0 n c) (VI j) H=some (.ptr r.b r.g j 0):=by
 have:=bB (o:=0) (n:=n) (c:=c) (i:=j) (k := .i64) (h.row hr) hj
 rwa [aMc] at this
theorem MG.get {i j:Nat} {ag:Bool} {r:CE α} {x:α} (h:MG f e lo hi b g H rs) (hr:rs[i]? = some r) (hx:r.xs[j]? = some x):bF ag e (.ptr r.b r.g j 0) H=dQ ag e (f x) 0:=qB (f:=f) (h.row hr) hx
theorem MG.inj {i j:Nat} {r s:CE α} (h:MG f e lo hi b g H rs) (hr:rs[i]? = some r) (hs:rs[j]? = some s) (he:r.b=s.b):i=j:=by
 have h1:(rs.map (·.b))[i]? = some r.b:=by simp[hr]
 have h2:(rs.map (·.b))[j]? = some r.b:=by simp[hs,he]
 exact aoK h.rows.nd h1 h2
theorem N5 {β γ:Type} {F:β→γ} {l:List β} {i:Nat} {x y:β} (hx:l[i]? = some x) (he:F y=F x):(l.set i y).map F=l.map F:=by
 apply List.ext_getElem?
 intro j
 rw[List.getElem?_map,List.getElem?_map,aNU]
 split
 ·rename_i Qv
  subst Qv
  split
  ·rw[hx,aLZ,aLZ,he]
  ·rename_i hn
   rw[(List.getElem?_eq_none (by omega))] at hx
   cases hx
 ·rfl
theorem MG.set {i:Nat} {r:CE α} {ys:List α} (h:MG f e lo hi b g H rs) (hr:rs[i]? = some r) (hl:ys.length=r.xs.length):MG f e lo hi b g (H.set r.b (.row r.g (ys.map f) e true)) (rs.set i { r with xs:=ys }):=by
 have Md:=h.rows.row r (aLy hr)
 refine⟨?_,h.blo,h.bhi,?_,fun s hs => ?_⟩
 ·rw[N5 hr (by simp[tU,hl])]
  exact aX Md.2.2.1 h.out
 ·rw[N5 (F:=fun r:CE α=>r.b) (y:={ r with xs:=ys }) hr rfl]
  exact h.rows.nd
 ·obtain⟨j,hj⟩:=aMz hs
  rw[aNU] at hj
  split at hj
  ·rename_i Qv
   split at hj
   ·cases hj
    exact⟨Md.1,Md.2.1,Md.2.2.1,by rw[hl];exact Md.2.2.2.1,bQ Md.2.2.2.2⟩
   ·cases hj
  ·rename_i Qv
   have hsm:=h.rows.row s (aLy hj)
   exact⟨hsm.1,hsm.2.1,hsm.2.2.1,hsm.2.2.2.1,aX (fun he=>Qv (h.inj hr hj he)) hsm.2.2.2.2⟩
theorem MG.put {i j fW:Nat} {r:CE α} {y:α} (h:MG f e lo hi b g H rs) (hr:rs[i]? = some r) (hj:j<r.xs.length) (dS:fW≤lo) (hv:(aB (f y)).length=e) (hs:(aB (f y)).all bP=true) :
  bL fW e (.ptr r.b r.g j 0) (f y) H=some (H.set r.b (.row r.g ((r.xs.set j y).map f) e true)) :=
 dP (f:=f) (h.row hr) hj (aKF dS (h.rows.row r (aLy hr)).1) hv hs
theorem MG.lt {i:Nat} {r:CE α} (h:MG f e lo hi b g H rs) (hr:rs[i]? = some r):lo≤r.b∧r.b<hi∧r.b<H.length:=⟨(h.rows.row r (aLy hr)).1,(h.rows.row r (aLy hr)).2.1,iS (h.row hr)⟩
theorem MG.cH {c:Nat} (h:MG f e lo hi b g H rs) (hc:rs.length≤c):RG f e (rs.map (·.xs)) lo hi H (.ref b g 0 rs.length c) := .inr ⟨b,g,c,rs,h.blo,h.bhi,by rw[aMl],by rw[aMl];exact hc,h.out,rfl,h.rows⟩
theorem MG.fz {d c:Nat} (h:MG f e lo hi b g H rs) (hc:rs.length≤c) (hp:∀x,aY (f x)=true):PM.fz (d+3) H (.ref b g 0 rs.length c)=some (aC (aC f) (rs.map (·.xs))):=Zd hp h.out hc h.rows
theorem MG.wide {fW qQ:Nat} (h:MG f e lo hi b g H rs) (hl:fW≤lo) (hh:hi≤qQ):MG f e fW qQ b g H rs:=⟨h.out,by have:=h.blo;omega,by have:=h.bhi;omega,h.rows.nd,fun r hr=>by
 obtain⟨k1,k2,k3,k4,k5⟩:=h.rows.row r hr
 exact⟨by omega,by omega,k3,k4,k5⟩⟩
end
theorem dR:type_of% (aMk @uP<|aMk @sI<|aMk @pE.eq_1<|aMk @sQ.eq_1<|aMk @sQ.eq_2<|aMk @Ga.eq_1<|aMk @Ga.eq_2<|aMk @BC.eq_1<|aMk @BC.eq_2<|aMk @Jj<|aMk @Eh<|aMk @GH<|aMk @GL<|aMk @aNT.{0}<|aMk @aLr.{0}<|aMk @List.take_nil.{0}<|aMk @aLQ.{0}<|aMk @aMp.{0}<|aMk @List.drop_nil.{0}<|aMk @aLM.{0} <| @aKE):=aMk @uP<|aMk @sI<|aMk @pE.eq_1<|aMk @sQ.eq_1<|aMk @sQ.eq_2<|aMk @Ga.eq_1<|aMk @Ga.eq_2<|aMk @BC.eq_1<|aMk @BC.eq_2<|aMk @Jj<|aMk @Eh<|aMk @GH<|aMk @GL<|aMk @aNT.{0}<|aMk @aLr.{0}<|aMk @List.take_nil.{0}<|aMk @aLQ.{0}<|aMk @aMp.{0}<|aMk @List.drop_nil.{0}<|aMk @aLM.{0} <| @aKE
def Sa (P:Nat→Nat→aA→VV→Prop) (H:aA) (r:VV) (H':aA):Prop:=H <+: H'∧P H.length H'.length H' r
theorem sA {F lo:Nat} {args:List VV} {P:Nat→Nat→aA→VV→Prop} {H:aA} {K:VV→aA→Prop} (CO:Gi.contains F=true) (h:jD F args lo H (Sa P H)) (hk:∀r L,P H.length (H++L).length (H++L) r→K r (H++L)):dH F args lo H K:=by
 refine fU CO (h.mono ?_)
 rintro r H' ⟨⟨L,rfl⟩,hP⟩
 exact hk r L hP
end Go.PM
namespace Go.PM
open Go.Lib
abbrev cell0:fO := .row 0 [.agg [VB false,.tree [] .nil,.tree [] .nil]] 3 true
def dN (qs:List Rat):Rat:=qs.foldl (· + ·) 0
theorem De {qs:List Rat} {i:Nat} {q:Rat} (h:qs[i]? = some q):dN (qs.take (i+1))=dN (qs.take i)+q:=by
 rw[sP h,dN,aNP];rfl
theorem Ra {B:Nat}:∀ {qs:List Rat},(∀q∈qs,aL q≤B)→∀a:Rat,aL (qs.foldl (· + ·) a)≤qs.length*(B+1)+aL a
 | [],_,a=>by simp
 |
  q::qs,h,a=>by
  have h1:=Ra (fun x hx=>h x (aLd _ hx)) (a+q)
  have h2:=vD a q
  have h3:=h q aLe
  rw[aNV,aKO,Nat.succ_mul]
  omega
theorem BT {B:Nat} {qs:List Rat} (h:∀q∈qs,aL q≤B) (i:Nat):aL (dN (qs.take i))≤qs.length*(B+1)+1:=by
 have h1:=Ra (qs:=qs.take i) (fun q hq=>h q (aLB hq)) 0
 have h2:(qs.take i).length*(B+1)≤qs.length*(B+1):=aK5 _ (by rw[aMd];omega)
 rw[rH] at h1
 unfold dN
 omega
set_option maxHeartbeats 1000000 in
abbrev rz:VV := .agg [VB false,.tree [] .nil,.tree [] .nil]
theorem lX {H H1:aA} {b:Nat} {x:fO} (h:H <+: H1) (hb:H.length≤b):H <+: H1.set b x:=by
 obtain⟨L,rfl⟩:=h
 rw[List.set_append_right _ _ hb]
 exact aMy _ _
theorem F1 {H H1 L:aA} (h:H <+: H1):H <+: H1++L:=h.trans (aMy _ _)
theorem Jm {lo:Nat} {H:aA} {q:Rat} (h:lo≤H.length):bL lo 3 (.ptr H.length 0 0 0) (aF q) (H++[cell0])=some (H++[.row 0 [aF q] 3 true]):=by
 rw[bS (g:=0) (e:=3) (j:=0) lG (by exact aNW) h rfl rfl,Ps]
 rfl
theorem Ze {H K:aA} {q:Rat}:bF true 3 (.ptr H.length 0 0 0) (H ++ .row 0 [aF q] 3 true::K)=some (aF q):=by
 rw[bK,Ce,aU]
 exact bH _
theorem PK {lo:Nat} {H:aA} {v:VV} (qs:List Rat) {B:Nat} (hv:Rd aF 3 qs H v) (dS:lo≤H.length) (hb:∀q∈qs,aL q≤B) (hk:qs.length*(B+1)+1≤1099511627776) (hB:B≤1099511627776) (hn:qs.length≤1000000000) :
  jD 70 [v] lo H (Sa (fun _ _ _ r=>r=aF (dN qs)) H):=by
 refine jD.walk ⟨true,false⟩ Ye (aMs rfl) ?_
 have e1:TC 64 [VI 0] (aF 0):=nB 0 (by decide) (by decide)
 have e2:=hv.len (H++[cell0,.row 0 [aF 0] 3 true]) (aMy _ _)
 have s0:bL lo 3 (.ptr (H.length+1) 0 0 0) (aF 0) (H++[cell0,cell0])=some (H++[cell0,.row 0 [aF 0] 3 true]):=by
  have:=Jm (lo:=lo) (H:=H++[cell0]) (q:=0) (by rw[aKP];omega)
  simpa only[aKP,aKO,aMh,aMc,aMq,List.cons_append,aLW] using this
 simp only[Wr,Oy,e1,e2,s0,aKP,aKO,aMh,aMq,List.cons_append,aLW,dR,VX,Nat.reduceEqDiff,Nat.reduceAdd,Nat.reduceLeDiff,Nat.reduceLT,Nat.reduceSub]
 refine aP (fun(i:Nat) ρ H1=>i≤qs.length∧H <+: H1∧aG H1 H.length 0=some ([rz],3,true)∧aG H1 (H.length+1) 0=some ([aF (dN (qs.take i))],3,true)∧ρ 2 = .ptr H.length 0 0 0∧ρ 3 = .ptr (H.length+1) 0 0 0∧ρ 7=v∧ρ 8=VI qs.length∧ρ 9=VI i) (fun i=>qs.length-i) 0 ⟨aK8 _,aMy _ _,Ce.trans aU,Nr.trans (eO.trans aU),rfl,rfl,rfl,rfl,rfl⟩ ?_
 rintro i ρ H1 ⟨hi,hp,Kk,T1,g2,g3,g7,g8,g9⟩
 have Dx:=iS T1
 by_cases bW:(i:Int)<(qs.length:Int)
 ·obtain⟨q,hq⟩:∃q,qs[i]? = some q:=⟨_,aKL (by omega)⟩
  obtain⟨p,a1,a2⟩:=hv.get H1 hp i q hq
  have a2':=(a2 true).trans (bH _)
  have wi:IntKind.i64.wrap ((i:Int)+1)=((i+1:Nat):Int):=wrapN (i+1) (by omega) (by omega)
  have h1:=BT hb i
  have h2:=hb q (aLy hq)
  have h3:(i+1)*(B+1)≤qs.length*(B+1):=aK5 _ (by omega)
  have e3:=oJ (dN (qs.take i)) q (by omega) (by omega)
  rw[←De hq] at e3
  have s1:=Jm (lo:=lo) (H:=H1) (q:=q) (by omega)
  have s2:=Ze (H:=H1) (K:=[]) (q:=q)
  have s3:bF true 3 (.ptr (H.length+1) 0 0 0) (H1++[.row 0 [aF q] 3 true])=some (aF (dN (qs.take i))):=by
   rw[bK,eV T1]
   exact bH _
  have s4:=bS (lo:=lo) (v:=aF (dN (qs.take (i+1)))) (j:=0) (eV (L:=[.row 0 [aF q] 3 true]) T1) (by exact aNW) (by omega) rfl rfl
  rw[aMi] at s4
  simp only[FA,g2,g3,g7,g8,g9,bW,a1,a2',e3,s1,s2,s3,s4,wi,bH,dR,VX,Nat.reduceEqDiff,Nat.reduceAdd,Nat.reduceLeDiff,Nat.reduceLT,Nat.reduceSub]
  exact⟨i+1,by omega,by omega,lX (F1 hp) (by omega),aX (by omega) (eV Kk),bQ (eV T1),by (repeat' apply aMk)<;>first | rfl | trivial | assumption⟩
 ·have mH:i=qs.length:=by omega
  subst mH
  rw[aLR] at T1
  have s3:bF true 3 (.ptr (H.length+1) 0 0 0) H1=some (aF (dN qs)):=by
   rw[bK,T1]
   exact bH _
  have s4:=bS (lo:=lo) (v:=aF (dN qs)) (j:=0) Kk (by exact aNW) dS rfl rfl
  rw[aMi] at s4
  have s5:bF true 3 (.ptr H.length 0 0 0) (H1.set H.length (.row 0 [aF (dN qs)] 3 true))=some (aF (dN qs)):=by
   rw[bK,bQ Kk]
   exact bH _
  simp only[FA,g2,g3,g8,g9,bW,s3,s4,s5,dR,VX,Nat.reduceEqDiff,Nat.reduceAdd,Nat.reduceLeDiff,Nat.reduceLT,Nat.reduceSub]
  exact⟨lX hp (aKE _),rfl⟩
theorem RX {q:Rat}:jI q<0↔q<0:=by
 have e:q.num<0↔q<0:=by rw[←Int.not_le,Rat.num_nonneg];constructor<;>intro h<;>grind
 rw[←e]
 rcases Int.lt_trichotomy q.num 0 with h | h | h
 ·rw[oW h];omega
 ·rw[kX h];omega
 ·rw[oZ h];omega
theorem Bn (q:Rat):TC 67 [aF q] (VB (decide (q<0))):=by
 refine TC.walk ⟨true,false⟩ OA rfl (aMs rfl) (by simp[aO,fV]) rfl ?_
 have e1:=dI q
 by_cases h:jI q<0
 ·rw[decide_eq_true (RX.1 h)]
  simp only[DU,BP,e1,h,aK,cM,bH,aZ,bA,aS,gG,Nat.reduceLeDiff,Nat.reduceLT,Nat.reduceSub,nM,cD,cP,gN,lY,pS,bne_iff_ne,ne_eq,not_false_eq_true,not_true_eq_false,VX,Nat.reduceEqDiff,Nat.reduceAdd]
  exact aJ rfl
 ·rw[decide_eq_false (mt RX.2 h)]
  simp only[DU,BP,e1,h,aK,cM,bH,aZ,bA,aS,gG,Nat.reduceLeDiff,Nat.reduceLT,Nat.reduceSub,nM,cD,cP,gN,lY,pS,bne_iff_ne,ne_eq,not_false_eq_true,not_true_eq_false,VX,Nat.reduceEqDiff,Nat.reduceAdd]
  exact aJ rfl
theorem Ef (xs:List Rat) (g:Nat) (p:Rat→Bool) (hg:∀x∈xs,TC g [aF x] (VB (p x))) (hn:xs.length≤1000000000) :
  ∃k:Int,(0≤k↔xs.any p=true)∧TC 141 [aC aF xs,.xZ g []] (VI k):=by
 refine⟨match xs.findIdx? p with | some i=>i | none => -1,?_,?_⟩
 ·cases h:xs.findIdx? p with
  |
   none =>
   rw[aNX] at h
   simp only[List.any_eq_true]
   constructor
   ·intro h';omega
   ·rintro⟨x,hx,hp⟩;rw[h x hx] at hp;cases hp
  |
   some i =>
   simp only[List.any_eq_true]
   obtain⟨hi,hp,_⟩:=aNY.1 h
   exact⟨fun _=>⟨_,aKR hi,hp⟩,fun _=>by omega⟩
 ·refine TC.walk ⟨true,false⟩ rB rfl (aMs rfl) (by simp[aO,gO];rfl) rfl ?_
  simp only[jZ,jH,VX,Nat.reduceEqDiff,Nat.reduceAdd]
  refine aP (fun(i:Nat) ρ H=>i≤xs.length∧H=[]∧(∀j x,j<i→xs[j]? = some x→p x=false)∧ρ 0=aC aF xs∧ρ 1 = .xZ g []∧ρ 7=VI xs.length∧ρ 8=VI i) (fun i=>xs.length-i) 0 ⟨aK8 _,rfl,fun j x h=>by omega,rfl,rfl,rfl,rfl⟩ ?_
  rintro i ρ H ⟨hi,rfl,jO,h0,h1,h7,h8⟩
  by_cases bW:(i:Int)<(xs.length:Int)
  ·obtain⟨x,hx⟩:∃x,xs[i]? = some x:=⟨_,aKL (by omega)⟩
   have e1:=aH (f:=aF) (t := .op) (H:=[]) (size:=3) (k := .i64) hx rfl
   have wi:IntKind.i64.wrap ((i:Int)+1)=((i+1:Nat):Int):=wrapN (i+1) (by omega) (by omega)
   have e2:=hg x (aLy hx)
   cases hp:p x with
   |
    false =>
    rw[hp] at e2
    simp only[cU,h0,h1,h7,h8,bW,e1,e2,wi,Ew,aLM,aK,cM,bH,aZ,bA,aS,VX,Nat.reduceEqDiff,Nat.reduceAdd]
    refine⟨i+1,by omega,by omega,fun j y hj hy => ?_,by (repeat' apply aMk)<;>first | rfl | trivial⟩
    rcases Nat.lt_or_ge j i with Ee | Ee
    ·exact jO j y Ee hy
    ·have:j=i:=by omega
     subst this
     rw[hx] at hy
     injection hy with hy
     exact hy▸hp
   |
    true =>
    rw[hp] at e2
    simp only[cU,h0,h1,h7,h8,bW,e1,e2,wi,Ew,aLM,aK,cM,bH,aZ,bA,aS,VX,Nat.reduceEqDiff,Nat.reduceAdd]
    have:xs.findIdx? p=some i:=by
     rw[aNY]
     obtain⟨bI,Hp⟩:=aKD.1 hx
     exact⟨bI,by rw[Hp];exact hp,fun j hj=>by
      have:=jO j _ hj (aKL (by omega))
      simp[this]⟩
    rw[this]
    exact aJ rfl
  ·simp only[cU,h0,h1,h7,h8,bW,VX,Nat.reduceEqDiff,Nat.reduceAdd]
   have:xs.findIdx? p=none:=by
    rw[aNX]
    intro x hx
    obtain⟨j,hj⟩:=aMz hx
    exact jO j x (by have:=(aKD.1 hj).1;omega) hj
   rw[this]
   exact aJ rfl
theorem mG (xs:List Rat) (g:Nat) (p:Rat→Bool) (hg:∀x∈xs,TC g [aF x] (VB (p x))) (hn:xs.length≤1000000000):TC 66 [aC aF xs,.xZ g []] (VB (xs.any p)):=by
 refine TC.walk ⟨true,false⟩ pG rfl (aMs rfl) (by simp[aO,gO];rfl) rfl ?_
 obtain⟨k,hk,hc⟩:=Ef xs g p hg hn
 have e:decide (0≤k)=xs.any p:=by
  cases h:xs.any p with
  | true=>rw[decide_eq_true (hk.2 h)]
  | false=>rw[decide_eq_false fun h'=>by rw[hk.1 h'] at h;cases h]
 simp only[iW,iA,hc,e,VX,Nat.reduceEqDiff,Nat.reduceAdd]
 exact aJ rfl
def kE (qs:List Rat):Bool := !(qs.any fun q=>decide (q<0))&&decide (dN qs=1)
def mT (xs:List ByteArray):Option (List Rat):=match tC xs with
 | some qs=>if kE qs=true then some qs else none
 | none=>none
theorem Qe {xs:List ByteArray} {qs:List Rat} (h:mT xs=some qs):tC xs=some qs∧kE qs=true:=by
 unfold mT at h
 split at h
 ·rename_i ps hp
  split at h
  ·rename_i hw
   cases h
   exact⟨hp,hw⟩
  ·cases h
 ·cases h
theorem NR {n:Nat} (h:n≤300):n*(665+1)+1≤1099511627776:=by omega
theorem F7 {xs:List ByteArray} {qs:List Rat} (h:tC xs=some qs):mT xs=if kE qs=true then some qs else none:=by unfold mT;rw[h]
theorem L8 {xs:List ByteArray} (h:tC xs=none):mT xs=none:=by unfold mT;rw[h]
theorem rI:Si none = .dW [aC aF [],VB false]:=rfl
theorem yJ (qs:List Rat):Si (some qs) = .dW [aC aF qs,VB true]:=rfl
set_option maxHeartbeats 1000000 in
theorem Lt (xs:List ByteArray) (hn:xs.length≤1000000000) (hs:∀s∈xs,s.size≤1000000000):TC 98 [gJ xs] (Si (mT xs)):=by
 refine TC.walk ⟨true,false⟩ Ly rfl (aMs rfl) (by simp[aO,kJ]) (QT _) ?_
 have e1:=Gc xs hn hs
 cases h:tC xs with
 |
  none =>
  rw[h,rI] at e1
  rw[L8 h,rI]
  simp only[rW,oG,e1,VX,Nat.reduceEqDiff,Nat.reduceAdd]
  exact Il
 |
  some qs =>
  rw[h,yJ] at e1
  rw[F7 h]
  obtain⟨hb,hl,_⟩:=nH h
  have e2:=mG qs 67 (fun q=>decide (q<0)) (fun q _=>Bn q) (by omega)
  have hm:qs.length*666≤199800:=by omega
  have e3:=fun(K:aA)=>PK (lo:=0) (H:=K) (v:=aC aF qs) qs (B:=665) (Rd.tree dD) (aK8 _) hb (NR hl) (by decide) (by omega)
  have hsb:=BT hb qs.length
  rw[aLR] at hsb
  have e4:=Lz (dN qs) (by omega)
  cases Ae:qs.any (fun q=>decide (q<0)) with
  |
   true =>
   rw[Ae] at e2
   have hw:¬kE qs=true:=by unfold kE;rw[Ae];simp
   rw[if_neg hw,rI]
   simp only[rW,oG,e1,e2,VX,Nat.reduceEqDiff,Nat.reduceAdd]
   exact Il
  |
   false =>
   rw[Ae] at e2
   by_cases afT:dN qs=1
   ·rw[decide_eq_true afT] at e4
    have hw:kE qs=true:=by unfold kE;rw[Ae,decide_eq_true afT];rfl
    rw[if_pos hw,yJ]
    simp only[rW,oG,e1,e2,VX,Nat.reduceEqDiff,Nat.reduceAdd]
    refine sA rfl (e3 _) fun r L hr => ?_
    subst hr
    simp only[e4,VX,Nat.reduceEqDiff,Nat.reduceAdd]
    exact aJ (acM (gO _) rfl)
   ·rw[decide_eq_false afT] at e4
    have hw:¬kE qs=true:=by unfold kE;rw[Ae,decide_eq_false afT];simp
    rw[if_neg hw,rI]
    simp only[rW,oG,e1,e2,VX,Nat.reduceEqDiff,Nat.reduceAdd]
    refine sA rfl (e3 _) fun r L hr => ?_
    subst hr
    simp only[e4,VX,Nat.reduceEqDiff,Nat.reduceAdd]
    exact Il
end Go.PM
namespace Go.PM
open Go.Lib
def UP (qs:List Rat) (n:Nat):Nat→Rat
 | 0=>0
 | i+1=>UP qs n i+qs.getD i 0*(i:Rat)^n
theorem Ug {i:Nat} (h:i≤300) (n:Nat) (hn:n≤10):aL (((i:Int):Rat))≤9∧aL (((i:Int):Rat)^n)≤91:=by
 have h1:=Gw (i:Int)
 have h2:bl (i:Int).natAbs≤9:=by rw[Int.natAbs_natCast];exact zS (by omega)
 have h3:aL (((i:Int):Rat))≤9:=by omega
 have h4:=Q6 (((i:Int):Rat)) n
 have h5:n*aL (((i:Int):Rat))≤10*9:=Nat.mul_le_mul hn h3
 exact⟨h3,by omega⟩
theorem Kg {qs:List Rat} {n:Nat} (hb:∀q∈qs,aL q≤665) (hl:qs.length≤300) (hn:n≤10):∀i,i≤qs.length→aL (UP qs n i)≤1000*i+1
 | 0,_=>by rw[UP,rH];omega
 |
  i+1,hi=>by
  have h1:=Kg hb hl hn i (by omega)
  have hq:qs[i]? = some qs[i]:=aKL (by omega)
  have h2:=hb _ (aKR (by omega:i<qs.length))
  have h3:=(Ug (i:=i) (by omega) n hn).2
  have h4:=jA qs[i] (((i:Int):Rat)^n)
  have h5:=vD (UP qs n i) (qs[i]*((i:Int):Rat)^n)
  have e:((i:Nat):Rat)=((i:Int):Rat):=rfl
  rw[UP,aKB,hq,aNS,e]
  omega
end Go.PM
namespace Go.PM
def CC:aE:=(LS [LO 10 (.bin .lss (LT 9) (LT 8))] (.seq (.cond (LT 10) .skip (.exit 0)) (.seq (.block 1 (LS [LM 11 9,LM 4 11] (.cT [LM 12 3,LM 13 4,LO 14 (.call 64 [(LI 0)]),LO 15 (.lit [(.bool false),(.slice none 0 0),(.slice none 0 0)] 1 [(0,(LT 14))]),LM 16 0,LO 17 (.call 162 [(LT 15),(LT 16)]),LO 18 (.iaddr 1 (LT 12) (LT 13)),LN (.store 1 (LT 18) (LT 17))]))) (.cT [LO 19 (.bin .add (LT 9) (LI 1)),LM 9 19]))))
def JH:aE:=(LS [LO 2 (.mv (.const (.slice none 0 0)))] (LS [LM 5 0,LO 6 (.make [(.slice none 0 0)] 24 (LT 5) (LT 5)),LM 3 6] (.seq (LS [LM 7 3,LO 8 (.len (LT 7)),LO 9 (.mv (LI 0))] (.block 0 (.loop CC))) (LS [LM 20 3,LM 2 20] .ret))))
def OM:aT:=⟨21,[(.tmp 2)],JH⟩
theorem S9:fP 99=some OM:=by kernel_rfl
def CN:aE:=(.seq (LS [LM 21 8,LM 22 6,LO 23 (.bin .lss (LT 21) (LT 22)),LM 24 23,LY 24 25 (.mv (LT 0)),LY 24 26 (.mv (LT 8)),LY 24 27 (.iaddr 1 (LT 25) (LT 26)),LY 24 28 (LL 27),LY 24 29 (.mv (LT 7)),LY 24 30 (.iaddr 3 (LT 28) (LT 29)),LY 24 31 (LK 30),LY 24 32 (.call 68 [(LT 31)]),LY 24 33 (.bin .eql (LT 32) (LI 0)),LO 34 (.pick (LT 24) (LT 33) LF)] (.cond (LT 34) .skip (.exit 2))) (.block 3 (.cT [LM 35 8,LO 36 (.bin .add (LT 35) (LI 1)),LM 8 36])))
def Cz:aE:=(.seq (LS [LM 100 11,LM 101 6,LO 102 (.bin .lss (LT 100) (LT 101))] (.cond (LT 102) .skip (.exit 6))) (.seq (.block 7 (.cT [LM 105 0,LM 106 9,LO 107 (.iaddr 1 (LT 105) (LT 106)),LO 108 (LL 107),LM 109 11,LM 110 0,LM 111 9,LO 112 (.iaddr 1 (LT 110) (LT 111)),LO 113 (LL 112),LM 114 11,LO 115 (.iaddr 3 (LT 113) (LT 114)),LO 116 (LK 115),LO 117 (LK 10),LM 118 0,LM 119 7,LO 120 (.iaddr 1 (LT 118) (LT 119)),LO 121 (LL 120),LM 122 11,LO 123 (.iaddr 3 (LT 121) (LT 122)),LO 124 (LK 123),LQ 125 (.call 132 [(LT 117),(LT 124)]),LQ 126 (.call 128 [(LT 116),(LT 125)]),LO 127 (.iaddr 3 (LT 108) (LT 109)),LN (.store 3 (LT 127) (LT 126))])) (.cT [LM 103 11,LO 104 (.bin .add (LT 103) (LI 1)),LM 11 104])))
def yZ:aE:=(.seq (LS [LM 70 9,LM 71 6,LO 72 (.bin .lss (LT 70) (LT 71))] (.cond (LT 72) .skip (.exit 4))) (.seq (.block 5 (.seq (LS [LM 75 0,LM 76 9,LO 77 (.iaddr 1 (LT 75) (LT 76)),LO 78 (LL 77),LM 79 7,LO 80 (.iaddr 3 (LT 78) (LT 79)),LO 81 (LK 80),LO 82 (.call 68 [(LT 81)]),LO 83 (.bin .eql (LT 82) (LI 0))] (.cond (LT 83) (.exit 5) .skip)) (LS [LM 84 0,LM 85 9,LO 86 (.iaddr 1 (LT 84) (LT 85)),LO 87 (LL 86),LM 88 7,LO 89 (.iaddr 3 (LT 87) (LT 88)),LO 90 (LK 89),LM 91 0,LM 92 7,LO 93 (.iaddr 1 (LT 91) (LT 92)),LO 94 (LL 93),LM 95 7,LO 96 (.iaddr 3 (LT 94) (LT 95)),LO 97 (LK 96),LQ 98 (.call 129 [(LT 90),(LT 97)]),LQ 10 (.new [(.bool false),(.slice none 0 0),(.slice none 0 0)]),LN (.store 3 (LT 10) (LT 98))] (.seq (LS [LM 99 7,LM 11 99] (.block 6 (.loop Cz))) (.cT [LM 128 1,LM 129 9,LM 130 1,LM 131 9,LO 132 (.iaddr 3 (LT 130) (LT 131)),LO 133 (LK 132),LO 134 (LK 10),LM 135 1,LM 136 7,LO 137 (.iaddr 3 (LT 135) (LT 136)),LO 138 (LK 137),LQ 139 (.call 132 [(LT 134),(LT 138)]),LQ 140 (.call 128 [(LT 133),(LT 139)]),LO 141 (.iaddr 3 (LT 128) (LT 129)),LN (.store 3 (LT 141) (LT 140))]))))) (.cT [LM 73 9,LO 74 (.bin .add (LT 73) (LI 1)),LM 9 74])))
def CP:aE:=(LS [LO 18 (.bin .lss (LT 17) (LT 16))] (.seq (.cond (LT 18) .skip (.exit 0)) (.seq (.block 1 (LS [LM 19 17,LM 7 19] (LS [LM 20 7,LM 8 20] (.seq (.block 2 (.loop CN)) (.seq (LS [LM 37 8,LM 38 6,LO 39 (.bin .eql (LT 37) (LT 38))] (.cond (LT 39) (LS [LO 4 (.mv (.const (.slice none 0 0))),LO 5 (.mv LF)] .ret) .skip)) (LS [LM 40 0,LM 41 7,LM 42 0,LM 43 8,LM 44 1,LM 45 7,LM 46 1,LM 47 8,LM 48 0,LM 49 8,LO 50 (.iaddr 1 (LT 48) (LT 49)),LO 51 (LL 50),LM 52 0,LM 53 7,LO 54 (.iaddr 1 (LT 52) (LT 53)),LO 55 (LL 54),LM 56 1,LM 57 8,LO 58 (.iaddr 3 (LT 56) (LT 57)),LO 59 (LK 58),LM 60 1,LM 61 7,LO 62 (.iaddr 3 (LT 60) (LT 61)),LO 63 (LK 62),LO 64 (.iaddr 1 (LT 40) (LT 41)),LN (.store 1 (LT 64) (LT 51)),LO 65 (.iaddr 1 (LT 42) (LT 43)),LN (.store 1 (LT 65) (LT 55)),LO 66 (.iaddr 3 (LT 44) (LT 45)),LN (.store 3 (LT 66) (LT 59)),LO 67 (.iaddr 3 (LT 46) (LT 47)),LN (.store 3 (LT 67) (LT 63))] (LS [LM 68 7,LO 69 (.bin .add (LT 68) (LI 1)),LM 9 69] (.block 4 (.loop yZ))))))))) (.cT [LO 142 (.bin .add (LT 17) (LI 1)),LM 17 142]))))
def Ct:aE:=(.seq (LS [LM 151 13,LM 152 6,LO 153 (.bin .lss (LT 151) (LT 152))] (.cond (LT 153) .skip (.exit 10))) (.seq (.block 11 (.cT [LM 156 1,LM 157 12,LM 158 1,LM 159 12,LO 160 (.iaddr 3 (LT 158) (LT 159)),LO 161 (LK 160),LM 162 0,LM 163 12,LO 164 (.iaddr 1 (LT 162) (LT 163)),LO 165 (LL 164),LM 166 13,LO 167 (.iaddr 3 (LT 165) (LT 166)),LO 168 (LK 167),LM 169 1,LM 170 13,LO 171 (.iaddr 3 (LT 169) (LT 170)),LO 172 (LK 171),LQ 173 (.call 132 [(LT 168),(LT 172)]),LQ 174 (.call 128 [(LT 161),(LT 173)]),LO 175 (.iaddr 3 (LT 156) (LT 157)),LN (.store 3 (LT 175) (LT 174))])) (.cT [LM 154 13,LO 155 (.bin .add (LT 154) (LI 1)),LM 13 155])))
def Cv:aE:=(.seq (LS [LM 145 12,LO 146 (.bin .geq (LT 145) (LI 0))] (.cond (LT 146) .skip (.exit 8))) (.seq (.block 9 (.seq (LS [LM 149 12,LO 150 (.bin .add (LT 149) (LI 1)),LM 13 150] (.block 10 (.loop Ct))) (.cT [LM 176 1,LM 177 12,LM 178 1,LM 179 12,LO 180 (.iaddr 3 (LT 178) (LT 179)),LO 181 (LK 180),LM 182 0,LM 183 12,LO 184 (.iaddr 1 (LT 182) (LT 183)),LO 185 (LL 184),LM 186 12,LO 187 (.iaddr 3 (LT 185) (LT 186)),LO 188 (LK 187),LQ 189 (.call 129 [(LT 181),(LT 188)]),LO 190 (.iaddr 3 (LT 176) (LT 177)),LN (.store 3 (LT 190) (LT 189))]))) (.cT [LM 147 12,LO 148 (.bin .sub (LT 147) (LI 1)),LM 12 148])))
def JI:aE:=(LS [LO 4 (.mv (.const (.slice none 0 0))),LO 5 (.mv LF)] (LS [LM 14 0,LO 15 (.len (LT 14)),LM 6 15] (.seq (LS [LM 16 6,LO 17 (.mv (LI 0))] (.block 0 (.loop CP))) (.seq (LS [LM 143 6,LO 144 (.bin .sub (LT 143) (LI 1)),LM 12 144] (.block 8 (.loop Cv))) (LS [LM 191 1,LM 4 191,LO 5 (.mv LG)] .ret)))))
def Pn:aT:=⟨192,[(.tmp 4),(.tmp 5)],JI⟩
theorem TG:fP 118=some Pn:=by kernel_rfl
end Go.PM
namespace Go.PM
open Go.Lib
theorem R0 (x:List Rat):(aB (aC aF x)).length=1:=rfl
theorem Jq (m:List (List Rat)):aY (aC (aC aF) m)=true:=mR R0 gO
theorem arX (m:List (List Rat)):gU (aC (aC aF) m)=true:=Aa R0 Gx fun _=>rfl
end Go.PM
namespace Go.PM
theorem S7 (n:Nat) (h:n<18446744073709551616):dK .and (.int .u64 (n:Int)) (.int .u64 4294967295)=some (.int .u64 ((n % 4294967296:Nat):Int)):=by
 simp only[dK,if_true]
 have h1:(BitVec.ofInt IntKind.u64.bits (n:Int) &&& BitVec.ofInt IntKind.u64.bits 4294967295).toNat=n % 4294967296:=by
  rw[BitVec.toNat_and]
  have e1:(BitVec.ofInt IntKind.u64.bits (n:Int)).toNat=n:=by
   rw[BitVec.toNat_ofInt]
   simp only[IntKind.bits]
   omega
  have e2:(BitVec.ofInt IntKind.u64.bits 4294967295).toNat=2^32-1:=by
   rw[BitVec.toNat_ofInt]
   simp only[IntKind.bits]
   omega
  rw[e1,e2,Nat.and_two_pow_sub_one_eq_mod]
 rw[h1,eT _ (by omega)]
end Go.PM
namespace Go.PM
def Qb (cs:List lZ) (i:Nat):Int:=((cs[i]?).map (·.t)).getD 0
def wkC (cs:List lZ) (i:Nat):Int:=((cs[i]?).map (·.w)).getD 0
def klC (cs:List lZ) (i:Nat):Int:=((cs[i]?).map (·.k)).getD 0
def Kt (st:List Int) (i:Nat):Int:=(st[i]?).getD 0
theorem Yb {cs:List lZ} {i:Nat} {x:lZ} (h:cs[i]? = some x):Qb cs i=x.t:=by simp[Qb,h]
theorem aAe {cs:List lZ} {i:Nat} {x:lZ} (h:cs[i]? = some x):wkC cs i=x.w:=by simp[wkC,h]
theorem akS {st:List Int} {i:Nat} {x:Int} (h:st[i]? = some x):Kt st i=x:=by simp[Kt,h]
def inS (cs:List lZ) (st:List Int) (t:Int) (i:Nat):Bool:=decide (0≤Kt st i)&&decide (Kt st i≤t)&&decide (t<Kt st i+wkC cs i)
def bz (cs:List lZ) (st:List Int) (t:Int):Nat:=(aKA cs.length).countP (inS cs st t)
def isW (cs:List lZ) (st:List Int) (t:Int) (i:Nat):Bool:=decide (Kt st i<0)&&decide (Qb cs i≤t)
def wt (cs:List lZ) (st:List Int) (t:Int):List Nat:=(aKA cs.length).filter (isW cs st t)
def M6 (cO:Int) (cs:List lZ) (i k:Nat):Bool :=
 if cO=1 then true else if cO=2 then decide (wkC cs i<wkC cs k) else if cO=3 then decide (klC cs i<klC cs k) else false
def Cn (cO:Int) (cs:List lZ) (b:Option Nat) (i:Nat):Option Nat:=match b with
 | none=>some i
 | some k=>if M6 cO cs i k then some i else some k
def nxt (cO:Int) (cs:List lZ) (st:List Int) (t:Int):Option Nat:=(wt cs st t).foldl (Cn cO cs) none
def fill (cO wF:Int) (cs:List lZ) (t:Int):Nat→List Int→List Int
 | 0,st=>st
 |
  n+1,st=>if (bz cs st t:Int)<wF then (match nxt cO cs st t with
  | none=>st
  | some k=>fill cO wF cs t n (st.set k t)) else st
def full (cO wF:Int) (cs:List lZ) (st:List Int) (t:Int):Prop:=wF≤(bz cs st t:Int)∨nxt cO cs st t=none
def runT (cO wF:Int) (cs:List lZ):Int→Nat→List Int→List Int
 | _,0,st=>st
 | t,n+1,st=>runT cO wF cs (t+1) n (fill cO wF cs t cs.length st)
def stL (cO wF:Int) (cs:List lZ):List Int:=runT cO wF cs 0 100000 (List.replicate cs.length (-1))
section
variable {cO wF:Int} {cs:List lZ} {st:List Int} {t:Int}
theorem AU (h:full cO wF cs st t) (n:Nat):fill cO wF cs t n st=st:=by
 cases n with
 | zero=>rfl
 |
  succ n =>
  rw[fill]
  rcases h with h | h
  ·rw[if_neg (by omega)]
  ·split
   ·rw[h]
   ·rfl
theorem RA (m:Nat):∀(t:Int) (n:Nat),(∀u,t≤u→u<t+m→full cO wF cs st u)→m≤n→runT cO wF cs t n st=runT cO wF cs (t+m) (n-m) st:=by
 induction m with
 | zero=>intro t n _ _;simp
 |
  succ m ih =>
  intro t n h hm
  obtain⟨n,rfl⟩:∃k,n=k+1:=⟨n-1,by omega⟩
  rw[runT,AU (h t (Int.le_refl _) (by omega)),ih (t+1) n (fun u h1 h2=>h u (by omega) (by omega)) (by omega)]
  congr 1
  ·omega
  ·omega
theorem abX (n:Nat):∀(t:Int),(∀u,t≤u→full cO wF cs st u)→runT cO wF cs t n st=st:=by
 intro t h
 rw[RA n t n (fun u h1 _=>h u h1) (aKE _),Nat.sub_self]
 rfl
theorem aaA {a b:Int} (ha:0≤a) (IW:a≤b) (hb:b≤100000) (h:∀u,a≤u→u<b→full cO wF cs st u):runT cO wF cs a (100000-a).toNat st=runT cO wF cs b (100000-b).toNat st:=by
 rw[RA (b-a).toNat a _ (fun u h1 h2=>h u h1 (by omega)) (by omega)]
 congr 1
 ·omega
 ·omega
theorem akE {a:Int} (ha:0≤a) (hb:a<100000):runT cO wF cs a (100000-a).toNat st=runT cO wF cs (a+1) (100000-(a+1)).toNat (fill cO wF cs a cs.length st):=by
 rw[show (100000-a).toNat=(100000-(a+1)).toNat+1 by omega,runT]
theorem Rj {ws:List Nat} {k:Nat}:∃j,(ws.foldl (Cn cO cs) (some k))=some j∧(j=k∨j∈ws):=by
 induction ws generalizing k with
 | nil=>exact⟨k,rfl,.inl rfl⟩
 |
  cons i ws ih =>
  rw[aNV]
  have:∃q,Cn cO cs (some k) i=some q∧(q=k∨q=i):=by
   unfold Cn
   simp only
   split
   ·exact⟨i,rfl,.inr rfl⟩
   ·exact⟨k,rfl,.inl rfl⟩
  obtain⟨q,hq,hqq⟩:=this
  rw[hq]
  obtain⟨j,h1,h2⟩:=ih (k:=q)
  refine⟨j,h1,?_⟩
  rcases h2 with rfl | h2
  ·rcases hqq with rfl | rfl
   ·exact .inl rfl
   ·exact .inr aLe
  ·exact .inr (aLd _ h2)
theorem BB:nxt cO cs st t=none↔wt cs st t=[]:=by
 unfold nxt
 cases h:wt cs st t with
 | nil=>exact⟨fun _=>rfl,fun _=>rfl⟩
 |
  cons i ws =>
  refine⟨fun h2 => ?_,fun h2=>(by cases h2)⟩
  rw[aNV] at h2
  obtain⟨j,h3,_⟩:=Rj (cO:=cO) (cs:=cs) (ws:=ws) (k:=i)
  rw[show Cn cO cs none i=some i from rfl,h3] at h2
  cases h2
theorem Sn {k:Nat} (h:nxt cO cs st t=some k):k∈wt cs st t:=by
 unfold nxt at h
 cases hw:wt cs st t with
 | nil=>rw[hw] at h;cases h
 |
  cons i ws =>
  rw[hw,aNV] at h
  obtain⟨j,h3,h4⟩:=Rj (cO:=cO) (cs:=cs) (ws:=ws) (k:=i)
  rw[show Cn cO cs none i=some i from rfl,h3] at h
  injection h with h
  subst h
  rcases h4 with rfl | h4
  ·exact aLe
  ·exact aLd _ h4
theorem PW {k:Nat}:k∈wt cs st t↔k<cs.length∧Kt st k<0∧Qb cs k≤t:=by
 simp[wt,isW]
theorem ahB:(wt cs st t).Nodup:=List.Pairwise.filter _ List.nodup_range
theorem J7 {k i:Nat} (hk:k<st.length):Kt (st.set k t) i=if i=k then t else Kt st i:=by
 unfold Kt
 rw[aNU]
 by_cases h:i=k
 ·subst h
  simp[hk]
 ·rw[if_neg (fun h'=>h h'.symm),if_neg h]
theorem Sz {p q:Nat→Bool} {k:Nat} (hp:p k=false) (h:∀i,i≠k→q i=p i):∀n,(aKA n).countP q=(aKA n).countP p+if k<n∧q k=true then 1 else 0:=by
 intro n
 induction n with
 | zero=>simp
 |
  succ n ih =>
  rw[aNZ,List.countP_append,List.countP_append,ih]
  by_cases hk:n=k
  ·subst hk
   simp only[aN0,hp]
   cases hq:q n<;>simp
  ·rw[aN0,aN0,h n hk]
   have:(k<n+1∧q k=true)↔(k<n∧q k=true):=by
    constructor
    ·rintro⟨h1,h2⟩;exact⟨by omega,h2⟩
    ·rintro⟨h1,h2⟩;exact⟨by omega,h2⟩
   simp only[this]
   omega
theorem azU {k:Nat} {u:Int} (hk:k<cs.length) (hl:st.length=cs.length) (hs:Kt st k<0) (h0:0≤t):bz cs (st.set k t) u=bz cs st u+if t≤u∧u<t+wkC cs k then 1 else 0:=by
 unfold bz
 rw[Sz (p:=inS cs st u) (q:=inS cs (st.set k t) u) (k:=k)]
 ·congr 1
  have:(k<cs.length∧inS cs (st.set k t) u k=true)↔(t≤u∧u<t+wkC cs k):=by
   simp only[inS,J7 (t:=t) (i:=k) (by omega:k<st.length),if_true,aLc,decide_eq_true_eq]
   constructor
   ·rintro⟨_,⟨_,h1⟩,h2⟩;exact⟨h1,h2⟩
   ·rintro⟨h1,h2⟩;exact⟨hk,⟨h0,h1⟩,h2⟩
  simp only[this]
 ·simp only[inS]
  rw[decide_eq_false (by omega)]
  rfl
 ·intro i hi
  simp only[inS,J7 (t:=t) (i:=i) (by omega:k<st.length),if_neg hi]
theorem avW {k:Nat} {u:Int} (hl:st.length=cs.length) (hk:k<cs.length) (h0:0≤t):wt cs (st.set k t) u=(wt cs st u).filter (· != k):=by
 unfold wt
 rw[List.filter_filter]
 refine List.filter_congr fun i hi => ?_
 simp only[isW,J7 (t:=t) (i:=i) (by omega:k<st.length)]
 by_cases h:i=k
 ·subst h
  simp
  omega
 ·simp[h]
def II (st:List Int):Nat:=st.countP (fun s=>decide (s<0))
theorem C1 {k:Nat} (hk:k<st.length) (hs:Kt st k<0) (h0:0≤t):II (st.set k t)+1=II st:=by
 unfold II
 rw[List.countP_set hk]
 have hx:st[k]=Kt st k:=by
  rw[akS (x:=st[k]) (aKL hk)]
 have h1:decide (st[k]<0)=true:=by rw[hx];exact decide_eq_true hs
 have h2:decide (t<0)=false:=decide_eq_false (by omega)
 have h3:0<st.countP (fun s=>decide (s<0)):=by
  rw[List.countP_pos_iff]
  exact⟨st[k],aKR hk,h1⟩
 simp only[h1,h2,if_true,aLg,if_false]
 omega
theorem acC (hl:st.length=cs.length) (h0:0≤t):∀(n m:Nat),II st≤n→II st≤m→fill cO wF cs t n st=fill cO wF cs t m st:=by
 intro n
 induction n generalizing st with
 |
  zero =>
  intro m hn hm
  have hf:full cO wF cs st t:=by
   right
   rw[BB]
   cases hw:wt cs st t with
   | nil=>rfl
   |
    cons i ws =>
    have h1:i∈wt cs st t:=by rw[hw];exact aLe
    obtain⟨h2,h3,_⟩:=PW.1 h1
    have:=C1 (t:=t) (by omega:i<st.length) h3 h0
    omega
  rw[AU hf,AU hf]
 |
  succ n ih =>
  intro m hn hm
  cases m with
  |
   zero =>
   have hf:full cO wF cs st t:=by
    right
    rw[BB]
    cases hw:wt cs st t with
    | nil=>rfl
    |
     cons i ws =>
     have h1:i∈wt cs st t:=by rw[hw];exact aLe
     obtain⟨h2,h3,_⟩:=PW.1 h1
     have:=C1 (t:=t) (by omega:i<st.length) h3 h0
     omega
   rw[AU hf,AU hf]
  |
   succ m =>
   rw[fill,fill]
   split
   ·split
    ·rfl
    ·rename_i k hk
     obtain⟨h2,h3,_⟩:=PW.1 (Sn hk)
     have:=C1 (t:=t) (by omega:k<st.length) h3 h0
     exact ih (by simp[hl]) m (by omega) (by omega)
   ·rfl
theorem Zm:II st≤st.length:=List.countP_le_length
theorem abJ {k:Nat} (hl:st.length=cs.length) (h0:0≤t) (hb:(bz cs st t:Int)<wF) (hk:nxt cO cs st t=some k):fill cO wF cs t cs.length (st.set k t)=fill cO wF cs t cs.length st:=by
 obtain⟨h2,h3,_⟩:=PW.1 (Sn hk)
 have h4:=C1 (t:=t) (by omega:k<st.length) h3 h0
 have h5:=Zm (st:=st)
 rw[acC (st:=st) hl h0 cs.length (cs.length+1) (by omega) (by omega)]
 conv=>rhs;rw[fill,if_pos hb,hk]
def evT (cs:List lZ) (st:List Int) (i:Nat):Int:=if 0≤Kt st i then Kt st i+wkC cs i else Qb cs i
def azY (cs:List lZ) (st:List Int) (t:Int) (b:Int) (i:Nat):Int:=if t<evT cs st i∧(b<0∨evT cs st i<b) then evT cs st i else b
def later (cs:List lZ) (st:List Int) (t:Int):Int:=(aKA cs.length).foldl (azY cs st t) (-1)
structure Way (cs:List lZ) (st:List Int) (t:Int):Prop where
 len:st.length=cs.length
 low:∀i,i<cs.length → -1≤Kt st i
 high:∀i,i<cs.length→Kt st i≤t
 bd:∀i,i<cs.length→Kt st i+1000*(II st:Int)≤10000+1000*(cs.length:Int)
 tm:0≤t∧t+1000*(II st:Int)≤11000+1000*(cs.length:Int)
theorem Way.set {k:Nat} (h:Way cs st t) (hk:k<cs.length) (hs:Kt st k<0):Way cs (st.set k t) t:=by
 have hl:=h.len
 have htm:=h.tm
 have h4:=C1 (t:=t) (by omega:k<st.length) hs htm.1
 refine⟨by simp[hl],fun i hi => ?_,fun i hi => ?_,fun i hi => ?_,htm.1,by omega⟩
 all_goals rw[J7 (by omega:k<st.length)]
 ·have:=h.low i hi
  split<;>omega
 ·have:=h.high i hi
  split<;>omega
 ·have:=h.bd i hi
  split<;>omega
theorem Way.le (h:Way cs st t) (hc:pP cs):t≤35000∧∀i,i<cs.length→Kt st i≤34000:=by
 have hlen:=hc.2
 have htm:=h.tm
 refine⟨by omega,fun i hi => ?_⟩
 have:=h.bd i hi
 omega
theorem pP.bnd (hc:pP cs) {i:Nat} (hi:i<cs.length):(0≤Qb cs i∧Qb cs i≤10000)∧(1≤wkC cs i∧wkC cs i≤1000):=by
 have hx:cs[i]? = some cs[i]:=aKL hi
 have:=hc.at hx
 rw[Yb hx,aAe hx]
 exact⟨this.1,this.2.1⟩
def Pt (cO:Int) (cs:List lZ) (ws:List Nat):Nat :=
 if cO=1 then ws.length-1 else if cO=2∨cO=3 then (aKA ws.length).foldl (fun b k=>if M6 cO cs (ws.getD k 0) (ws.getD b 0) then k else b) 0 else 0
theorem XL {ws:List Nat} {k:Nat} (h:∀i j,M6 cO cs i j=false):ws.foldl (Cn cO cs) (some k)=some k:=by
 induction ws with
 | nil=>rfl
 |
  cons i ws ih =>
  rw[aNV]
  have:Cn cO cs (some k) i=some k:=by
   unfold Cn
   simp only[h]
   rfl
  rw[this,ih]
theorem ahU {ws:List Nat} (gF:ws≠[]) (hr:0≤cO∧cO≤3):Pt cO cs ws<ws.length∧ws[Pt cO cs ws]? = ws.foldl (Cn cO cs) none:=by
 have hlen:0<ws.length:=aNC.2 gF
 unfold Pt
 by_cases h1:cO=1
 ·rw[if_pos h1]
  rcases List.eq_nil_or_concat ws with rfl | ⟨xs,y,rfl⟩
  ·exact absurd rfl gF
  ·rw[List.concat_eq_append,aNP]
   refine⟨by simp,?_⟩
   simp only[aKP,aKO,aMh,aMc,Nat.add_sub_cancel,aNV,aN1]
   rw[List.getElem?_append_right (aKE _),Nat.sub_self]
   unfold Cn
   split
   ·rfl
   ·simp only[M6,if_pos h1,if_true]
    rfl
 ·rw[if_neg h1]
  by_cases h2:cO=2∨cO=3
  ·rw[if_pos h2]
   have aDZ:∀i,M6 cO cs i i=false:=fun i=>by
    unfold M6
    rw[if_neg h1]
    split
    ·exact decide_eq_false (by omega)
    ·split
     ·exact decide_eq_false (by omega)
     ·rfl
   have key:∀n,n<ws.length→(aKA (n+1)).foldl (fun b k=>if M6 cO cs (ws.getD k 0) (ws.getD b 0) then k else b) 0<ws.length ∧
     ws[(aKA (n+1)).foldl (fun b k=>if M6 cO cs (ws.getD k 0) (ws.getD b 0) then k else b) 0]? = (ws.take (n+1)).foldl (Cn cO cs) none:=by
    intro n
    induction n with
    |
     zero =>
     intro _
     have:(aKA (0+1)).foldl (fun b k=>if M6 cO cs (ws.getD k 0) (ws.getD b 0) then k else b) 0=0:=by
      simp[aNZ,aDZ]
     rw[this]
     refine⟨hlen,?_⟩
     cases ws with
     | nil=>exact absurd rfl gF
     | cons i ws=>rfl
    |
     succ n ih =>
     intro hn
     obtain⟨g1,g2⟩:=ih (by omega)
     rw[aNZ,aNP,aNV,aN1]
     generalize (aKA (n+1)).foldl (fun b k=>if M6 cO cs (ws.getD k 0) (ws.getD b 0) then k else b) 0=b at *
     obtain⟨x,hx⟩:∃x,ws[n+1]? = some x:=⟨_,aKL hn⟩
     obtain⟨y,hy⟩:∃y,ws[b]? = some y:=⟨_,aKL g1⟩
     rw[aMu,hx,aNP,←g2,hy]
     simp only[Option.toList_some,aNV,aN1,aKB,hx,hy,aNS,Cn]
     split
     ·exact⟨hn,hx⟩
     ·exact⟨g1,hy⟩
   have:=key (ws.length-1) (by omega)
   rw[show ws.length-1+1=ws.length by omega,aLx (aKE _)] at this
   exact this
  ·rw[if_neg h2]
   refine⟨hlen,?_⟩
   have hb:∀i j,M6 cO cs i j=false:=fun i j=>by
    unfold M6
    rw[if_neg h1,if_neg (by omega),if_neg (by omega)]
   cases ws with
   | nil=>exact absurd rfl gF
   |
    cons i ws =>
    rw[aNV,show Cn cO cs none i=some i from rfl,XL hb]
    rfl
end
end Go.PM