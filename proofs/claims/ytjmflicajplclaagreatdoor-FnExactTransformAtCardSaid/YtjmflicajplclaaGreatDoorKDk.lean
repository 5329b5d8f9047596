/- Texts of a claim, in one: part 11. -/
import Derived.Lib.Bytealg
import Derived.Lib.ParseIntB
import Derived.ChangeMaps5
import Derived.Deep.Strs
import Derived.KernelRfl
import Derived.Test.YtjmflicajplclaaGreatDoorKDj
open And renaming intro → aL1
open Array renaming length_toList → aNy
open Bool renaming and_eq_true → aKT,and_self → aLJ,false_eq_true → aKX
open Int renaming tmod_eq_emod_of_nonneg → aMu,toNat_natCast → aLH
open List renaming all_append → aNv,all_eq_true → aKz,append_assoc → aL7,append_nil → aLt,drop_succ_cons → aL6,drop_zero → aLx,findIdx?_eq_none_iff → aNB,findIdx?_eq_some_iff_getElem → aNC,getElem?_eq_getElem → aKs,getElem?_eq_some_iff → aKk,getElem?_of_mem → aMh,length → aNu,length_append → aKw,length_cons → aKv,length_eq_zero_iff → aNg,length_map → aL2,length_nil → aLY,length_pos_iff → aNi,length_take → aLU,mapM_cons → aLI,mem_cons → aLz,mem_of_getElem? → aLf,mem_of_mem_take → aLi,nil_append → aLD,prefix_append → aMg,set_cons_zero → aLZ,take_append_drop → aLu,take_length → aLy,take_of_length_le → aLe,take_succ_cons → aK8,take_zero → aNz
open Nat renaming gcd → aM1,le_of_ble_eq_true → aL9,le_refl → aKl,le_trans → aKm,lt_of_lt_of_le → aKn,mul_le_mul_right → aKM,pow_le_pow_right → aMp,pow_succ → aLM,zero_add → aLT,zero_le → aKP,zero_lt_one → aNA
open Option renaming getD_some → aNx,isSome_none → aK0,isSome_some → aNw,map_some → aLG
set_option linter.unusedSimpArgs false
set_option linter.unusedVariables false
namespace Go.PM
open Go.Lib
abbrev bV (b:UInt8):VV := .sc (.int .u8 (b.toNat:Int))
theorem PK:∀bs:List UInt8,K8 (bs.map bV)=some bs
 | []=>rfl
 |
  b::bs=>by
  rw[List.map_cons]
  show (K8 (bs.map bV)).map (UInt8.ofNat ((b.toNat:Int)).toNat :: ·)=_
  rw[PK bs]
  simp
structure Ja (v:VV) (H:aA) (bs:List UInt8):Prop where
 len:rC v H=some (VI bs.length)
 src:dF 1 v H=some (bs.map bV)
 nsc:∀x,v ≠ .sc x
theorem Ja.str {v:VV} {H:aA} {bs:List UInt8} (h:Ja v H bs) {fl:Fl} {lo:Nat} {x:Operand} {ρ:cT} (hx:fG ρ x=v):vop fl lo (.b2s x) ρ H=some (bD bs,H):=by
 have h1:=h.nsc
 have h2:=h.src
 unfold vop
 dsimp only
 rw[hx]
 cases v with
 | sc x=>exact absurd rfl (h1 x)
 | _=>simp only[h2,PK,aLG]
theorem aaR {bs:List UInt8} {k:TK} {H:aA}:dF 1 (.tree (bs.map bV) k) H=some (bs.map bV):=by
 have:((bs.map bV).all fun x=>(aB x).length == 1&&(aB x).all bL)=true:=by
  rw[aKz]
  intro x hx
  obtain⟨d,_,rfl⟩:=List.mem_map.1 hx
  rfl
 simp only[dF,this,if_true]
theorem Ja.tree {bs:List UInt8} {k:TK} {H:aA}:Ja (.tree (bs.map bV) k) H bs:=⟨eR,aaR,fun x=>by simp⟩
theorem Ja.row {bs:List UInt8} {H:aA} {b g:Nat} {w:Bool} (h:aG H b g=some (bs.map bV,1,w)):Ja (.ref b g 0 bs.length bs.length) H bs:=by
 refine⟨eK h,?_,fun x=>by simp⟩
 have jN:(((bs.map bV).drop 0).take bs.length).all (fun x=>(aB x).all bL)=true:=by
  rw[aKz]
  intro x hx
  obtain⟨d,_,rfl⟩:=List.mem_map.1 (List.mem_of_mem_drop (aLi hx))
  rfl
 simp only[dF,h]
 rw[if_pos ⟨trivial,by simp,jN⟩,aLx,aLe (by simp)]
theorem Ja.cons {v:VV} {H:aA} {bs:List UInt8} (h:Ja v H bs) (x:UInt8) (hl:bs.length≤1000000) (lo:Nat):∃v' H',dI lo 1 1 (.tree [bV x] (.cl 1)) (bs.map bV) H=some (v',H')∧Ja v' H' (x::bs):=by
 by_cases hb:bs=[]
 ·subst hb
  exact⟨_,_,rfl,Ja.tree (bs:=[x])⟩
 ·have gD:bs.length≠0:=fun h=>hb (aNg.1 h)
  refine⟨.ref H.length 0 0 (x::bs).length (x::bs).length,H++[.row 0 ((x::bs).map bV) 1 true],?_,Ja.row (UP rfl)⟩
  simp only[dI,aL2]
  rw[if_pos ⟨by decide,by decide⟩,if_pos trivial,if_neg gD,if_pos (by simp;omega)]
  simp[Nat.add_comm]
theorem Y2 (r:Int):dK .rem (.int .i64 r) (.int .i64 10)=some (.int .i64 (r.tmod 10)):=rfl
theorem aBJ (r:Int) (h0 : -9223372036854775808≤r) (h1:r≤9223372036854775807):dK .quo (.int .i64 r) (.int .i64 10)=some (.int .i64 (r.tdiv 10)):=by
 show some (Value.int .i64 (IntKind.i64.wrap (r.tdiv 10)))=_
 have h2:(r.tdiv 10).natAbs=r.natAbs / 10:=by rw[Int.natAbs_tdiv];rfl
 rw[wrap64 (by omega) (by omega)]
theorem afI {d:Nat} (h:d<10):(d10 d).toNat=48+d:=by
 unfold d10
 simp
 omega
theorem R6 {n r:Nat} {bs:List UInt8} (h:decDigits n=decDigits r++bs):decDigits n=uL (r / 10)++d10 (r % 10)::bs:=by
 rw[h]
 by_cases hr:r<10
 ·rw[kH hr,uL,if_pos (by omega),Nat.mod_eq_of_lt hr];rfl
 ·rw[BU hr,uL,if_neg (by omega),aL7];rfl
theorem Qm (n:Int) (h0 : -9223372036854775808≤n) (h1:n≤9223372036854775807):TC 219 [VI n] (bD ((if n<0 then [45] else [])++decDigits n.natAbs)):=by
 refine TC.walk ⟨true,false⟩ P0 rfl (aL9 rfl) rfl rfl ?_
 have e0:∀lr,oD lr [.int .u8 0] 0 [] []=some (.ref 0 0 0 0 0,[.row 0 (([]:List UInt8).map bV) 1 true]):=fun lr=>mO (H:=[]) rfl
 have e1:∀(x:UInt8) (H:aA),oD false [.int .u8 0] 1 [(0,bV x)] H=some (.tree [bV x] (.cl 1),H):=fun x H=>lS rfl rfl rfl
 have hdl:=D6 n.natAbs 19 (by omega)
 simp only[Mb,Hq,e0,VX,Nat.reduceEqDiff,Nat.reduceAdd]
 refine aR (fun(s:Int×List UInt8) ρ H => -9223372036854775808≤s.1∧s.1≤9223372036854775807∧(s.2=[]→s.1=n)∧(s.2≠[]→decDigits n.natAbs=uL s.1.natAbs++s.2)∧Ja (ρ 3) H s.2∧ρ 0=VI n∧ρ 4=VI s.1) (fun s=>s.1.natAbs+(if s.2=[] then 1 else 0)) (n,[]) ⟨h0,h1,fun _=>rfl,fun h=>absurd rfl h,by simp only[VX,Nat.reduceEqDiff,Nat.reduceAdd];exact Ja.row (bs:=[]) aT,rfl,rfl⟩ ?_
 rintro⟨r,bs⟩ ρ H ⟨Kd,TD,hn,hd,ho,g0,g4⟩
 simp only at Kd TD hn hd ho g4
 generalize hv3:ρ 3=v3 at ho
 have hlen:=ho.len
 have CO:=ho.src
 by_cases Oe:bs≠[]∧r=0
 ·obtain⟨hb,hr⟩:=Oe
  subst hr
  have hl:¬(bs.length:Int)=0:=by have:=aNi.2 hb;omega
  have hdd:=hd hb
  simp only[uL,Int.natAbs_zero,if_true,aLD] at hdd
  by_cases jV:n<0
  ·obtain⟨v',H',ap,ho'⟩:=ho.cons 45 (by rw[←hdd];omega) 0
   have QW:oD false [.int .u8 0] 1 [(0,.sc (.int .u8 45))] H=some (.tree [bV 45] (.cl 1),H):=e1 45 H
   have bs2:=fun aP (h:fG aP (.tmp 34)=v')=>ho'.str (fl:=⟨true,false⟩) (lo:=0) h
   simp only[lT,g0,g4,hv3,hlen,hl,VX,Nat.reduceEqDiff,Nat.reduceAdd]
   simp only[g0,jV,hv3,QW,CO,ap,aaL,VX,Nat.reduceEqDiff,Nat.reduceAdd]
   rw[bs2 _ (by rfl)]
   simp only[VX,Nat.reduceEqDiff,Nat.reduceAdd]
   rw[hdd]
   exact aH rfl
  ·have bs2:=fun aP (h:fG aP (.tmp 34)=v3)=>ho.str (fl:=⟨true,false⟩) (lo:=0) h
   simp only[lT,g0,g4,hv3,hlen,hl,VX,Nat.reduceEqDiff,Nat.reduceAdd]
   simp only[g0,jV,hv3,aaL,VX,Nat.reduceEqDiff,Nat.reduceAdd]
   rw[bs2 _ (by simp only[VX,Nat.reduceEqDiff,Nat.reduceAdd];try exact hv3)]
   simp only[VX,Nat.reduceEqDiff,Nat.reduceAdd]
   rw[hdd]
   exact aH rfl
 ·have hm:r.tmod 10=if r<0 then -((r.natAbs % 10:Nat):Int) else ((r.natAbs % 10:Nat):Int):=by
   have:=aMu (a:=r) (b:=10)
   by_cases h:r<0
   ·rw[if_pos h]
    have h2:=Int.neg_tmod (-r) 10
    rw[Int.neg_neg] at h2
    rw[h2,aMu (by omega)]
    omega
   ·rw[if_neg h,this (by omega)]
    omega
  have hq:(r.tdiv 10).natAbs=r.natAbs / 10:=by rw[Int.natAbs_tdiv];rfl
  have hmd:=Nat.mod_lt r.natAbs (show 0<10 by decide)
  have q1:=aBJ r Kd TD
  have yW:bs.length≤19:=by
   by_cases hb:bs=[]
   ·subst hb;simp
   ·have h2:=hd hb
    have h3:=congrArg aNu h2
    rw[aKw] at h3
    have h4:r≠0:=fun h=>Oe ⟨hb,h⟩
    have h5:=aNi.2 (Sb r.natAbs)
    rw[uL,if_neg (by omega)] at h3
    omega
  obtain⟨v',H',ap,ho'⟩:=ho.cons (d10 (r.natAbs % 10)) (by omega) 0
  have w2:IntKind.i64.wrap (48+((r.natAbs % 10:Nat):Int))=((48+r.natAbs % 10:Nat):Int):=wrapN _ (by omega) (by omega)
  have w3:IntKind.u8.wrap ((48+r.natAbs % 10:Nat):Int)=((48+r.natAbs % 10:Nat):Int):=by
   simp[IntKind.wrap,IntKind.bits,IntKind.signed]
   omega
  have hx:VV.sc (.int .u8 ((48+r.natAbs % 10:Nat):Int))=bV (d10 (r.natAbs % 10)):=by rw[bV,afI hmd]
  have QW:=e1 (d10 (r.natAbs % 10)) H
  rw[←hx] at QW ap
  have next:∃s':Int×List UInt8,s'.1.natAbs+(if s'.2=[] then 1 else 0)<r.natAbs+(if bs=[] then 1 else 0) ∧ -9223372036854775808≤s'.1∧s'.1≤9223372036854775807∧(s'.2=[]→s'.1=n)∧(s'.2≠[]→decDigits n.natAbs=uL s'.1.natAbs++s'.2)∧Ja v' H' s'.2∧r.tdiv 10=s'.1:=by
   refine⟨(r.tdiv 10,d10 (r.natAbs % 10)::bs),?_,by simp only;omega,by simp only;omega,fun h=>(by simp at h),fun _ => ?_,ho',rfl⟩
   ·simp only[hq,List.cons_ne_nil,if_false]
    by_cases hb:bs=[]
    ·rw[if_pos hb];omega
    ·have h4:r≠0:=fun h=>Oe ⟨hb,h⟩
     rw[if_neg hb];omega
   ·simp only[hq]
    by_cases hb:bs=[]
    ·subst hb
     refine R6 ?_
     rw[hn rfl,aLt]
    ·have h4:r≠0:=fun h=>Oe ⟨hb,h⟩
     have h2:=hd hb
     rw[uL,if_neg (by omega)] at h2
     exact R6 h2
  by_cases hrn:r.tmod 10<0
  ·have w1:IntKind.i64.wrap (0-r.tmod 10)=((r.natAbs % 10:Nat):Int):=by
    have:r.tmod 10 = -((r.natAbs % 10:Nat):Int):=by
     by_cases h:r<0
     ·rw[if_pos h] at hm;exact hm
     ·rw[if_neg h] at hm;omega
    rw[this]
    exact wrapN _ (by omega) (by omega)
   by_cases hb:bs=[]
   ·have hl:(bs.length:Int)=0:=by rw[hb];rfl
    simp only[lT,g0,g4,hv3,hlen,hl,Y2,q1,hrn,w1,w2,w3,QW,CO,ap,VX,Nat.reduceEqDiff,Nat.reduceAdd]
    obtain⟨s',n1,n2,n3,n4,n5,n6,n7⟩:=next
    exact⟨s',n1,n2,n3,n4,n5,n6,by rw[n7]⟩
   ·have hl:¬(bs.length:Int)=0:=by have:=aNi.2 hb;omega
    have hr:¬r=0:=fun h=>Oe ⟨hb,h⟩
    simp only[lT,g0,g4,hv3,hlen,hl,hr,Y2,q1,hrn,w1,w2,w3,QW,CO,ap,VX,Nat.reduceEqDiff,Nat.reduceAdd]
    obtain⟨s',n1,n2,n3,n4,n5,n6,n7⟩:=next
    exact⟨s',n1,n2,n3,n4,n5,n6,by rw[n7]⟩
  ·have hmm:r.tmod 10=((r.natAbs % 10:Nat):Int):=by
    rw[hm] at hrn ⊢
    split
    ·rename_i h;rw[if_pos h] at hrn;omega
    ·rfl
   have aAQ:¬((r.natAbs % 10:Nat):Int)<0:=by omega
   by_cases hb:bs=[]
   ·have hl:(bs.length:Int)=0:=by rw[hb];rfl
    simp only[lT,g0,g4,hv3,hlen,hl,Y2,hmm,q1,aAQ,w2,w3,QW,CO,ap,VX,Nat.reduceEqDiff,Nat.reduceAdd]
    obtain⟨s',n1,n2,n3,n4,n5,n6,n7⟩:=next
    exact⟨s',n1,n2,n3,n4,n5,n6,by rw[n7]⟩
   ·have hl:¬(bs.length:Int)=0:=by have:=aNi.2 hb;omega
    have hr:¬r=0:=fun h=>Oe ⟨hb,h⟩
    simp only[lT,g0,g4,hv3,hlen,hl,hr,Y2,hmm,q1,aAQ,w2,w3,QW,CO,ap,VX,Nat.reduceEqDiff,Nat.reduceAdd]
    obtain⟨s',n1,n2,n3,n4,n5,n6,n7⟩:=next
    exact⟨s',n1,n2,n3,n4,n5,n6,by rw[n7]⟩
end Go.PM
namespace Go.PM
abbrev chV (c:List (List ByteArray)):VV := .agg [lW c]
def DJ (n:Nat) (H:aA) (bare:Bool) (c:List (List ByteArray)) (r:VV):Prop:=∃c0,r = .agg [c0]∧wE n H bare c c0
theorem DJ.dB {n:Nat} {H H':aA} {bare:Bool} {s:List (List ByteArray)} {c:VV} (h:DJ n H bare s c) (hk:∀b g x,n<b→aG H b g=some x→aG H' b g=some x):DJ n H' bare s c:=by
 obtain⟨c0,rfl,h0⟩:=h
 exact⟨c0,rfl,h0.dB hk⟩
theorem DJ.pre {n:Nat} {H H':aA} {bare:Bool} {s:List (List ByteArray)} {c:VV} (h:DJ n H bare s c) (hh:H <+: H'):DJ n H' bare s c:=h.dB fun _ _ _ _=>cR hh
theorem DJ.fz {n:Nat} {H:aA} {bare:Bool} {s:List (List ByteArray)} {c:VV} (h:DJ n H bare s c):PM.fz depth H c=some (chV s):=by
 obtain⟨c0,rfl,h0⟩:=h
 have f0:=h0.fz (d:=4)
 have e:PM.fz (7+1) H (.agg [c0])=if aX (.agg [c0])=true then some (.agg [c0]) else ([c0].mapM (PM.fz 7 H)).map .agg:=rfl
 show PM.fz (7+1) H (.agg [c0])=_
 rw[e]
 by_cases hp:aX (.agg [c0])=true
 ·rw[if_pos hp]
  have hu:aX c0=true:=by simpa[aX,aO] using hp
  rw[aL hu] at f0
  cases f0
  rfl
 ·rw[if_neg hp,aLI,f0]
  rfl
theorem ld1 {n b:Nat} {s:List (List ByteArray)} {bare:Bool} {H H':aA} {c:VV} (hc:DJ n H bare s c) (h:aG H' b 0=some ([c],1,true)):bI true 1 (.ptr b 0 0 0) H'=some c:=by
 obtain⟨c0,rfl,_⟩:=hc
 rw[bS,h]
 rfl
end Go.PM
namespace Go.PM
open Go.Lib
def jQ (c:UInt8):Bool:=decide (48≤c.toNat)&&decide (c.toNat≤57)
def dv (c:UInt8):Nat:=c.toNat-48
def OT (a:Nat) (l:List UInt8):Nat:=l.foldl (fun a c=>a*10+dv c) a
def bU (l:List UInt8):Nat:=OT 0 l
theorem Y1 (l:List UInt8):∀a,OT a l=a*10^l.length+bU l:=by
 induction l with
 | nil=>intro a;simp[OT,bU]
 |
  cons c l ih =>
  intro a
  have h1:OT a (c::l)=OT (a*10+dv c) l:=rfl
  have h2:bU (c::l)=OT (0*10+dv c) l:=rfl
  rw[h1,h2,ih,ih (0*10+dv c),aKv,aLM]
  grind
theorem OG (a b:List UInt8):bU (a++b)=bU a*10^b.length+bU b:=by
 have:bU (a++b)=OT (bU a) b:=by unfold bU OT;rw[List.foldl_append]
 rw[this,Y1]
theorem NF:bU []=0:=rfl
theorem adD (a:List UInt8) (c:UInt8):bU (a++[c])=bU a*10+dv c:=by
 rw[OG]
 simp[bU,OT]
theorem auR {c:UInt8} (h:jQ c=true):dv c<10:=by
 simp only[jQ,aKT,decide_eq_true_eq] at h
 unfold dv
 omega
theorem Jy:∀ {l:List UInt8},l.all jQ=true→bU l<10^l.length:=by
 intro l
 induction l with
 | nil=>intro _;decide
 |
  cons c l ih =>
  intro h
  rw[List.all_cons,aKT] at h
  have h1:=auR h.1
  have h2:=ih h.2
  have h3:bU (c::l)=OT (0*10+dv c) l:=rfl
  rw[h3,Y1,aKv,aLM]
  have h4:(0*10+dv c)*10^l.length≤9*10^l.length:=aKM _ (by omega)
  omega
theorem axD {M:Nat} (hM:1000000000000000000≤M):∀(l:List UInt8) (k acc:Nat),l.all jQ=true→acc<10^k→k+l.length≤18→parseUintM M acc l = .ok (OT acc l):=by
 intro l
 induction l with
 | nil=>intro k acc _ _ _;rfl
 |
  cons c l ih =>
  intro k acc h hk hl
  rw[List.all_cons,aKT] at h
  have h1:=auR h.1
  have h0:=h.1
  simp only[jQ,aKT,decide_eq_true_eq] at h0
  rw[aKv] at hl
  have h18:acc<10^17:=aKn hk (aMp (by decide) (by omega))
  have e17:(10:Nat)^17=100000000000000000:=by decide
  rw[e17] at h18
  have hd:c.toNat-48=dv c:=rfl
  rw[parseUintM,if_pos h0,if_neg (by omega),hd,if_neg (by omega),ih (k+1) _ h.2 (by rw[aLM];omega) (by omega)]
  rfl
theorem axZ {l:List UInt8} (h:l.all jQ=true) (h0:l≠[]) (hl:l.length≤18):parseUintB 64 l = .ok (bU l):=by
 unfold parseUintB
 rw[if_neg h0]
 exact axD (by decide) l 0 0 h (by decide) (by omega)
def jI (l:List UInt8):Bool:=l.all jQ&&decide (1≤l.length)&&decide (l.length≤200)&&(decide (l.length=1) || !decide (l.getD 0 0=48))
theorem lG {l:List UInt8}:jI l=true↔l.all jQ=true∧1≤l.length∧l.length≤200∧(l.length=1∨l.getD 0 0≠48):=by
 unfold jI
 simp only[aKT,Bool.or_eq_true,Bool.not_eq_true',decide_eq_true_eq,decide_eq_false_iff_not,ne_eq,and_assoc]
theorem BB {l:List UInt8} (h:jI l=true):bl (bU l)≤665:=by
 obtain⟨h1,h2,h3,_⟩:=lG.1 h
 refine C3 (aKn (Jy h1) ?_)
 exact aKm (aMp (by decide) h3) (by decide +kernel)
def oK (c:UInt8):List UInt8→List UInt8×Option (List UInt8)
 | []=>([],none)
 | x::r=>if x=c then ([],some r) else (x::(oK c r).1,(oK c r).2)
theorem CT {c:UInt8}:∀ {l:List UInt8},(oK c l).2=none→indexByte l c = -1∧(oK c l).1=l∧c∉l:=by
 intro l
 induction l with
 | nil=>intro _;exact⟨rfl,rfl,by simp⟩
 |
  cons x l ih =>
  intro h
  unfold oK at h ⊢
  by_cases hx:x=c
  ·rw[if_pos hx] at h
   cases h
  ·rw[if_neg hx] at h ⊢
   obtain⟨h1,h2,h3⟩:=ih h
   refine⟨?_,by rw[h2],?_⟩
   ·rw[indexByte,if_neg (by simpa using hx),h1]
    rfl
   ·rw[aLz,not_or]
    exact⟨fun h=>hx h.symm,h3⟩
theorem K2 {c:UInt8}:∀ {l r:List UInt8},(oK c l).2=some r→indexByte l c=((oK c l).1.length:Int)∧l=(oK c l).1++c::r∧c∉(oK c l).1:=by
 intro l
 induction l with
 | nil=>intro r h;cases h
 |
  cons x l ih =>
  intro r h
  unfold oK at h ⊢
  by_cases hx:x=c
  ·rw[if_pos hx] at h ⊢
   cases h
   subst hx
   refine⟨?_,rfl,by simp⟩
   rw[indexByte,if_pos (by simp)]
   rfl
  ·rw[if_neg hx] at h ⊢
   obtain⟨h1,h2,h3⟩:=ih h
   refine⟨?_,?_,?_⟩
   ·rw[indexByte,if_neg (by simpa using hx),h1,if_neg]
    ·simp
    ·simp
   ·conv=>lhs;rw[h2]
    rfl
   ·rw[aLz,not_or]
    exact⟨fun h=>hx h.symm,h3⟩
def rJ (neg:Bool) (d:List UInt8) (s:Option (List UInt8)):Option Rat :=
 if jI d=false∨(neg=true∧bU d=0) then none else
 match s with
 | none=>some (mkRat (mF neg (bU d)) 1)
 | some t=>if jI t=true∧1<bU t∧aM1 (bU d) (bU t)=1 then some (mkRat (mF neg (bU d)) (bU t)) else none
def isNeg (l:List UInt8):Bool:=decide (1≤l.length)&&decide (l.getD 0 0=45)
def rM (l:List UInt8):Option Rat:=rJ (isNeg l) ((oK 47 (if isNeg l then l.drop 1 else l)).1) ((oK 47 (if isNeg l then l.drop 1 else l)).2)
theorem W1 {neg:Bool} {d:List UInt8} {s:Option (List UInt8)} {q:Rat} (h:rJ neg d s=some q):jI d=true∧¬(neg=true∧bU d=0)∧((s=none∧q=mkRat (mF neg (bU d)) 1)∨∃t,s=some t∧jI t=true∧1<bU t∧aM1 (bU d) (bU t)=1∧q=mkRat (mF neg (bU d)) (bU t)):=by
 unfold rJ at h
 split at h
 ·cases h
 ·rename_i hc
  rw[not_or] at hc
  refine⟨by simpa using hc.1,hc.2,?_⟩
  split at h
  ·exact .inl ⟨rfl,(Option.some.inj h).symm⟩
  ·rename_i t
   split at h
   ·rename_i ht
    exact .inr ⟨t,rfl,ht.1,ht.2.1,ht.2.2,(Option.some.inj h).symm⟩
   ·cases h
theorem Uu {neg:Bool} {d:List UInt8} {s:Option (List UInt8)} {q:Rat} (h:rJ neg d s=some q):aM q≤665:=by
 obtain⟨h1,_,h3⟩:=W1 h
 have hb:=BB h1
 rcases h3 with⟨_,rfl⟩ | ⟨t,_,h4,h5,_,rfl⟩
 ·exact Dk (by rw[qJ];exact hb) (C3 (by decide +kernel)) (by decide)
 ·exact Dk (by rw[qJ];exact hb) (BB h4) (by omega)
theorem Io {l:List UInt8} {q:Rat} (h:rM l=some q):aM q≤665:=Uu h
theorem Ma {neg:Bool} {t b:Nat} (hb:b≠0) (hg:aM1 t b=1):(mkRat (mF neg t) b).num=mF neg t∧(mkRat (mF neg t) b).den=b:=by
 rw[Iz hb,Tm hb,hg,Nat.div_one,Nat.div_one]
 exact⟨rfl,rfl⟩
theorem Ix {c:UInt8} {l:List UInt8}:isNeg (c::l)=decide (c=45):=by simp[isNeg]
theorem alH {l:List UInt8} (h:l.all jQ=true):(47:UInt8)∉l:=by
 intro hm
 have:=aKz.1 h _ hm
 exact absurd this (by decide)
end Go.PM
namespace Go.PM
open Go.Lib
theorem Fk (l:List UInt8) {i:Nat} (h:i<l.length):JL (.string ⟨l.toArray⟩) (.int .i64 (i:Int))=some (.int .u8 ((l.getD i 0).toNat:Int)):=by
 have hs:(⟨l.toArray⟩:ByteArray).size=l.length:=by simp[ByteArray.size]
 have e1:(0:Int)≤i∧(i:Int)<(l.length:Int):=by omega
 simp only[JL,hs,e1,and_self,if_true,aLH]
theorem KE (l:List UInt8) (h:0<l.length):JL (.string ⟨l.toArray⟩) (.int .i64 0)=some (.int .u8 ((l.getD 0 0).toNat:Int)):=Fk l h
theorem Js (l:List UInt8) (a b:Nat):(⟨l.toArray⟩:ByteArray).extract a b=⟨((l.drop a).take (b-a)).toArray⟩:=by
 rw[ByteArray.ext_iff,ByteArray.data_extract]
 simp[List.extract_toArray,List.extract_eq_take_drop]
theorem HX (l:List UInt8) {a:Nat} (h:a≤l.length):zB (bD l) (some (VI (a:Int))) none=some (bD (l.drop a)):=by
 have hs:(⟨l.toArray⟩:ByteArray).size=l.length:=by simp[ByteArray.size]
 have e2:(0:Int)≤a∧(a:Int)≤(l.length:Int):=by omega
 simp only[zB,Ig,B2,hs,fD,e2,and_self,if_true,aLH,Js]
 rw[aLe (by simp)]
theorem PB (l:List UInt8) {b:Nat} (hb:b≤l.length):zB (bD l) none (some (VI (b:Int)))=some (bD (l.take b)):=by
 have hs:(⟨l.toArray⟩:ByteArray).size=l.length:=by simp[ByteArray.size]
 have e1:(0:Int)≤b∧(b:Int)≤(l.length:Int):=by omega
 simp only[zB,Ig,B2,hs,fD,e1,and_self,if_true,aLH,Js]
 rw[aLx,Nat.sub_zero]
theorem Wh (l:List UInt8):dK .eql (.string ⟨l.toArray⟩) (.string ⟨#[]⟩)=some (.bool (decide (l=[]))):=aaP l []
theorem LW (l:List UInt8):dK .neq (.string ⟨l.toArray⟩) (.string ⟨#[]⟩)=some (.bool (!decide (l=[]))):=Ti l []
theorem TN (l:List UInt8):TC 210 [bD l,bD [45]] (VB (isNeg l)):=by
 refine TC.walk ⟨true,false⟩ vO rfl (aL9 rfl) rfl rfl ?_
 have e1:Ak (.string ⟨#[45]⟩)=some (.int .i64 1):=rfl
 by_cases h:(1:Int)≤(l.length:Int)
 ·have e2:=PB l (b:=1) (by omega)
  have e2:zB (bD l) none (some (VI 1))=some (bD (l.take 1)):=e2
  have e3:dK .eql (.string ⟨(l.take 1).toArray⟩) (.string ⟨#[45]⟩)=some (.bool (decide (l.take 1=[45]))):=aaP (l.take 1) [45]
  have e4:isNeg l=decide (l.take 1=[45]):=by
   cases l with
   | nil=>exact absurd h (by decide)
   | cons c l=>rw[Ix];simp
  rw[e4]
  simp only[jE,iK,bP,e1,ge_iff_le,h,e2,e3,VX,Nat.reduceEqDiff,Nat.reduceAdd]
  exact aH rfl
 ·have e4:isNeg l=false:=by unfold isNeg;rw[decide_eq_false (by omega)];rfl
  rw[e4]
  simp only[jE,iK,bP,e1,ge_iff_le,h,VX,Nat.reduceEqDiff,Nat.reduceAdd]
  exact aH rfl
theorem R9 (l:List UInt8):TC 191 [bD l,bD [45]] (.dU [bD (if isNeg l then l.drop 1 else l),VB (isNeg l)]):=by
 refine TC.walk ⟨true,false⟩ wS rfl (aL9 rfl) rfl rfl ?_
 have e0:=TN l
 have e1:Ak (.string ⟨#[45]⟩)=some (.int .i64 1):=rfl
 cases h:isNeg l with
 |
  true =>
  rw[h] at e0
  have hl:1≤l.length:=by
   cases l with
   | nil=>cases h
   | cons c l=>simp
  have e2:zB (bD l) (some (VI 1)) none=some (bD (l.drop 1)):=HX l (a:=1) hl
  simp only[jB,iJ,e0,e1,e2,VX,Nat.reduceEqDiff,Nat.reduceAdd]
  exact aH rfl
 |
  false =>
  rw[h] at e0
  simp only[jB,iJ,e0,aKX,if_false,VX,Nat.reduceEqDiff,Nat.reduceAdd]
  exact aH rfl
theorem Wo (l:List UInt8):TC 173 [bD l,bD [45]] (.dU [bD (if isNeg l then l.drop 1 else l),VB (isNeg l)]):=by
 refine TC.walk ⟨true,false⟩ GX rfl (aL9 rfl) rfl rfl ?_
 have e0:=R9 l
 simp only[B7,Al,e0,VX,Nat.reduceEqDiff,Nat.reduceAdd]
 exact aH rfl
theorem azP (l:List UInt8) (hl:l.length≤1000000000000):TC 190 [bD l,bD [47]] (.dU [bD (oK 47 l).1,bD ((oK 47 l).2.getD []),VB (oK 47 l).2.isSome]):=by
 refine TC.walk ⟨true,false⟩ Br rfl (aL9 rfl) rfl rfl ?_
 have e0:=apH l 47
 have e1:Ak (.string ⟨#[47]⟩)=some (.int .i64 1):=rfl
 cases h:(oK 47 l).2 with
 |
  none =>
  obtain⟨h1,h2,_⟩:=CT h
  rw[h1] at e0
  rw[h2]
  simp only[nA,lO,e0,ge_iff_le,Int.reduceNeg,Int.reduceLE,VX,Nat.reduceEqDiff,Nat.reduceAdd]
  exact aH rfl
 |
  some r =>
  obtain⟨h1,h2,_⟩:=K2 h
  rw[h1] at e0
  generalize (oK 47 l).1=a at *
  subst h2
  rw[aKw,aKv] at hl
  have h0:(0:Int)≤(a.length:Int):=by omega
  have e2:=PB (a++47::r) (b:=a.length) (by simp)
  have e3:=HX (a++47::r) (a:=a.length+1) (by simp)
  rw[List.take_left] at e2
  have ed:(a++47::r).drop (a.length+1)=r:=by rw[List.drop_append];simp
  rw[ed] at e3
  have w:IntKind.i64.wrap ((a.length:Int)+1)=((a.length+1:Nat):Int):=wrapN _ (by omega) (by omega)
  simp only[nA,lO,e0,e1,ge_iff_le,h0,w,e2,e3,VX,Nat.reduceEqDiff,Nat.reduceAdd]
  exact aH rfl
theorem aA1 (l:List UInt8) (hl:l.length≤1000000000000):TC 172 [bD l,bD [47]] (.dU [bD (oK 47 l).1,bD ((oK 47 l).2.getD []),VB (oK 47 l).2.isSome]):=by
 refine TC.walk ⟨true,false⟩ Ql rfl (aL9 rfl) rfl rfl ?_
 have e0:=azP l hl
 simp only[Mv,Hk,e0,VX,Nat.reduceEqDiff,Nat.reduceAdd]
 exact aH rfl
def Df (l:List UInt8):VV:=if jI l=true then .dU [bN (bU l),VB true] else .dU [bN 0,VB false]
theorem aeG (l:List UInt8):gW (Df l)=true:=by
 unfold Df
 split<;>simp[gW,sO,tL,qD]
theorem awC {d:Nat}:fz (d+1) [.row 0 [] 1 true] (.ref 0 0 0 0 0)=some (bN 0):=by
 rw[GG]
 cases d with
 | zero=>rfl
 | succ d=>rfl
theorem Od {n:Nat} (hn:n≤9) {lo:Nat} {H:aA} {ρ:cT} {Q:VQ} (h58:ρ 58=VI n) (h59:ρ 59=VI 0) (h9:ρ 9=VK .u64 1) (hQ:∀aP,(∀t,t<9→aP t=ρ t)→aP 9=VK .u64 ((10^n:Nat):Int)→Q .normal aP H):VW ⟨true,false⟩ lo (.loop uJ) (tI 4 Q) ρ H:=by
 refine aR (fun(i:Nat) aP H'=>i≤n∧H'=H∧(∀t,t<9→aP t=ρ t)∧aP 58=VI n∧aP 59=VI i∧aP 9=VK .u64 ((10^i:Nat):Int)) (fun i=>n-i) 0 ⟨aKP _,rfl,fun _ _=>rfl,h58,h59,h9⟩ ?_
 rintro i aP H' ⟨hi,rfl,hk,g58,g59,g9⟩
 by_cases bX:(i:Int)<(n:Int)
 ·have wi:IntKind.i64.wrap ((i:Int)+1)=((i+1:Nat):Int):=wrapN (i+1) (by omega) (by omega)
  have hp:10^i≤10^8:=aMp (by decide) (by omega)
  have e8:(10:Nat)^8=100000000:=by decide
  have wp:IntKind.u64.wrap (((10^i:Nat):Int)*10)=((10^(i+1):Nat):Int):=by
   rw[aLM]
   generalize 10^i=p at *
   have:=eT (p*10) (by omega)
   rw[Int.natCast_mul] at this
   rw[Int.natCast_mul]
   exact this
  simp only[uJ,g58,g59,g9,bX,wi,wp,VX,Nat.reduceEqDiff,Nat.reduceAdd]
  refine⟨i+1,by omega,by omega,fun t ht => ?_,rfl,rfl⟩
  try simp only[zI]
  repeat rw[if_neg (by omega)]
  exact hk t ht
 ·have nC:i=n:=by omega
  subst nC
  simp only[uJ,g58,g59,bX,VX,Nat.reduceEqDiff,Nat.reduceAdd]
  refine hQ _ (fun t ht => ?_) ?_
  ·try simp only[zI]
   repeat rw[if_neg (by omega)]
   exact hk t ht
  ·simp only[g9,VX,Nat.reduceEqDiff,Nat.reduceAdd]
theorem amW {l:List UInt8} {i:Nat} (h:i<l.length):(l.take (i+1)).all jQ=((l.take i).all jQ&&jQ (l.getD i 0)):=by
 rw[List.take_add_one,aNv]
 have:l[i]? = some (l.getD i 0):=by rw[aKs h,List.getD_eq_getElem?_getD,aKs h];rfl
 rw[this]
 simp
theorem O9 {l:List UInt8} (hl:l.length≤1000000000000) {lo:Nat} {H:aA} {ρ:cT} {Q:VQ} (h0:ρ 0=bD l) (h29:ρ 29=VI l.length) (h30:ρ 30=VI 0)
  (hR:l.all jQ=false→∀aP:cT,aP 2 = .tree [] .nil→aP 3=VB false→Q .ret aP H) (hN:l.all jQ=true→∀aP:cT,(∀t,t<5→aP t=ρ t)→Q .normal aP H):VW ⟨true,false⟩ lo (.loop mI) (tI 0 Q) ρ H:=by
 refine aR (fun(i:Nat) aP H'=>i≤l.length∧H'=H∧(l.take i).all jQ=true∧(∀t,t<5→aP t=ρ t)∧aP 29=VI l.length∧aP 30=VI i) (fun i=>l.length-i) 0 ⟨aKP _,rfl,rfl,fun _ _=>rfl,h29,h30⟩ ?_
 rintro i aP H' ⟨hi,rfl,hd,hk,g29,g30⟩
 have g0:=(hk 0 (by decide)).trans h0
 by_cases bX:(i:Int)<(l.length:Int)
 ·have Yf:i<l.length:=by omega
  have e1:=Fk l Yf
  have wi:IntKind.i64.wrap ((i:Int)+1)=((i+1:Nat):Int):=wrapN (i+1) (by omega) (by omega)
  have ht:=amW Yf
  rw[hd,Bool.true_and] at ht
  have XG:jQ (l.getD i 0)=(decide (48≤(l.getD i 0).toNat)&&decide ((l.getD i 0).toNat≤57)):=rfl
  have jN:jQ (l.getD i 0)=false→l.all jQ=false:=by
   intro h
   rw[h] at ht
   rw[←aLu (i+1) l,aNv,ht,Bool.false_and]
  generalize (l.getD i 0).toNat=c at *
  by_cases q1:(c:Int)<48
  ·have:=jN (by rw[XG,decide_eq_false (by omega)];rfl)
   simp only[mI,g0,g29,g30,bX,e1,q1,VX,Nat.reduceEqDiff,Nat.reduceAdd]
   exact hR this _ (by simp only[VX,Nat.reduceEqDiff,Nat.reduceAdd]) (by simp only[VX,Nat.reduceEqDiff,Nat.reduceAdd])
  ·by_cases q2:(57:Int)<(c:Int)
   ·have:=jN (by rw[XG,decide_eq_false (show ¬c≤57 by omega),Bool.and_false])
    simp only[mI,g0,g29,g30,bX,e1,q1,q2,VX,Nat.reduceEqDiff,Nat.reduceAdd]
    exact hR this _ (by simp only[VX,Nat.reduceEqDiff,Nat.reduceAdd]) (by simp only[VX,Nat.reduceEqDiff,Nat.reduceAdd])
   ·rw[XG,decide_eq_true (by omega),decide_eq_true (by omega),aLJ] at ht
    simp only[mI,g0,g29,g30,bX,e1,q1,q2,wi,VX,Nat.reduceEqDiff,Nat.reduceAdd]
    refine⟨i+1,by omega,by omega,ht,fun t ht => ?_,rfl⟩
    try simp only[zI]
    repeat rw[if_neg (by omega)]
    exact hk t ht
 ·have nC:i=l.length:=by omega
  subst nC
  rw[aLy] at hd
  simp only[mI,g29,g30,bX,VX,Nat.reduceEqDiff,Nat.reduceAdd]
  refine hN hd _ fun t ht => ?_
  try simp only[zI]
  repeat rw[if_neg (by omega)]
  exact hk t ht
set_option maxHeartbeats 2000000 in
theorem Oy {l:List UInt8} (hd:l.all jQ=true) (hl:l.length≤200) (gD:l≠[]) {ρ:cT} {Q:VQ} (h0:ρ 0=bD l) (h4:ρ 4 = .ref 0 0 0 0 0)
  (hQ:∀(aP:cT),aP 4=bN (bU l)→Q .normal aP [.row 0 [] 1 false]):VW ⟨true,false⟩ 0 (.loop pS) (tI 2 Q) ρ [.row 0 [] 1 true]:=by
 refine aR (fun(s:List UInt8×List UInt8) aP H'=>l=s.1++s.2∧aP 0=bD s.2∧((H'=[.row 0 [] 1 true]∧aP 4 = .ref 0 0 0 0 0∧s.1=[])∨(H'=[.row 0 [] 1 false]∧aP 4=bN (bU s.1)))) (fun s=>s.2.length) ([],l) ⟨rfl,h0,.inl ⟨rfl,h4,rfl⟩⟩ ?_
 rintro⟨pre,rest⟩ aP H' ⟨Wq,g0,hv⟩
 simp only at Wq g0 hv
 have e1:=LW rest
 by_cases he:rest=[]
 ·subst he
  rw[aLt] at Wq
  subst Wq
  rcases hv with⟨_,_,h⟩ | ⟨rfl,g4⟩
  ·exact absurd h gD
  have QW:dK .neq (.string ⟨#[]⟩) (.string ⟨#[]⟩)=some (.bool false):=by
   have:=LW []
   rw[decide_eq_true rfl] at this
   exact this
  simp only[pS,g0,QW,VX,Nat.reduceEqDiff,Nat.reduceAdd]
  exact hQ _ (by simp only[g4,VX,Nat.reduceEqDiff,Nat.reduceAdd])
 ·rw[Wq,aNv,aKT] at hd
  obtain⟨hd1,hd2⟩:=hd
  rw[Wq,aKw] at hl
  have lR:0<rest.length:=aNi.2 he
  have QW:dK .neq (.string ⟨rest.toArray⟩) (.string ⟨#[]⟩)=some (.bool true):=by rw[e1,decide_eq_false he];rfl
  have wm:(rest.length:Int).tmod 9=((rest.length % 9:Nat):Int):=by rw[aMu (by omega)];simp
  have er:dK .rem (.int .i64 (rest.length:Int)) (.int .i64 9)=some (.int .i64 ((rest.length % 9:Nat):Int)):=by
   rw[←wm]
   rfl
  obtain⟨n,hn⟩:∃n,n=if rest.length % 9=0 then 9 else rest.length % 9:=⟨_,rfl⟩
  have hn1:1≤n∧n≤9∧n≤rest.length:=by
   rw[hn]
   split<;>omega
  obtain⟨n1,n9,nl⟩:=hn1
  have e2:=PB rest nl
  have e3:=HX rest nl
  have hch:(rest.take n).length=n:=by rw[aLU];omega
  have hcd:(rest.take n).all jQ=true:=by
   rw[←aLu n rest,aNv,aKT] at hd2
   exact hd2.1
  have hp:=apR (rest.take n) (bU (rest.take n)) (by omega) (axZ hcd (fun h=>by rw[h] at hch;simp at hch;omega) (by omega))
  have G7:=Jy hcd
  rw[hch] at G7
  have hp9:10^n≤10^9:=aMp (by decide) n9
  have e9:(10:Nat)^9=1000000000:=by decide
  have aH9:bU (rest.take n)<1000000000:=by omega
  have c1:=pE (10^n) (by omega)
  have c2:=pE (bU (rest.take n)) (by omega)
  have hbp:bl (bU pre)≤665:=by
   refine C3 (aKn (Jy hd1) ?_)
   exact aKm (aMp (by decide) (by omega:pre.length≤200)) (by decide +kernel)
  have hb9:bl (10^n)≤64:=C3 (by omega)
  have hbm:=nW (bU pre) (10^n)
  have hbc:bl (bU (rest.take n))≤64:=C3 (by omega)
  have tm:=jM (bU pre) (10^n) (gI (by omega)) (gI (by omega))
  have c4:=Fx (bU pre*10^n) (bU (rest.take n)) (gI (by omega)) (gI (by omega))
  have pU:bU pre*10^n+bU (rest.take n)=bU (pre++rest.take n):=by rw[OG,hch]
  rw[pU] at c4
  have fin:(rest.drop n).length<rest.length∧pre++rest=(pre++rest.take n)++rest.drop n:=⟨by rw[List.length_drop];omega,by rw[aL7,aLu]⟩
  obtain⟨v4,g4,c3⟩:∃v4,aP 4=v4∧∀lo K,dH 143 [v4,bN (10^n)] lo H' K=K (bN (bU pre*10^n)) [.row 0 [] 1 false]:=by
   rcases hv with⟨rfl,g4,hp0⟩ | ⟨rfl,g4⟩
   ·refine⟨_,g4,fun lo K => ?_⟩
    subst hp0
    have:=tm.Dg (H:=[.row 0 [] 1 true]) (args:=[.ref 0 0 0 0 0,bN (10^n)]) (lo:=lo) (k:=K) rfl (by simp[aO,bT]) (fz2 awC (aL (bT _))) rfl
    rw[this,show Hn (bN (bU []*10^n))=false from rfl,if_neg (by decide),List.flatMap_cons,List.flatMap_cons,List.flatMap_nil,D2 (bT _),KH (n:=0) (c:=0) (es:=[]) (e:=1) (w:=true) aT rfl rfl]
    rfl
   ·exact⟨_,g4,fun lo K=>tm lo [.row 0 [] 1 false] K⟩
  clear hv
  obtain⟨P,hP⟩:∃P,P=10^n:=⟨_,rfl⟩
  rw[←hP] at c1 c4 c3
  have hnI:(rest.length % 9:Nat)=0∨¬(rest.length % 9:Nat)=0:=by omega
  rcases hnI with h9 | h9
  ·rw[if_pos h9] at hn
   subst hn
   have q:((rest.length % 9:Nat):Int)=0:=by omega
   have e2':zB (bD rest) none (some (VI 9))=some (bD (rest.take 9)):=e2
   have e3':zB (bD rest) (some (VI 9)) none=some (bD (rest.drop 9)):=e3
   simp only[pS,g0,g4,QW,bP,er,q,e2',hp,VX,Nat.reduceEqDiff,Nat.reduceAdd]
   refine Od (n:=9) (by decide) ?_ ?_ ?_ fun AH k1 q9 => ?_
   ·simp only[VX,Nat.reduceEqDiff,Nat.reduceAdd];rfl
   ·simp only[VX,Nat.reduceEqDiff,Nat.reduceAdd]
   ·simp only[VX,Nat.reduceEqDiff,Nat.reduceAdd]
   rw[←hP] at q9
   have u0:AH 0=bD rest:=by rw[k1 0 (by decide)];simp only[g0,VX,Nat.reduceEqDiff,Nat.reduceAdd]
   have u4:AH 4=v4:=by rw[k1 4 (by decide)];simp only[g4,VX,Nat.reduceEqDiff,Nat.reduceAdd]
   have u6:AH 6=VI 9:=by rw[k1 6 (by decide)];simp only[VX,Nat.reduceEqDiff,Nat.reduceAdd]
   have u7:AH 7=VK .u64 (bU (rest.take 9)):=by rw[k1 7 (by decide)];simp only[VX,Nat.reduceEqDiff,Nat.reduceAdd]
   simp only[u0,u4,u6,u7,q9,c1,c2,c3,c4,e3',VX,Nat.reduceEqDiff,Nat.reduceAdd]
   exact⟨(pre++rest.take 9,rest.drop 9),fin.1,Wq.trans fin.2,rfl,.inr rfl⟩
  ·rw[if_neg h9] at hn
   rw[←hn] at er
   have q:¬(n:Int)=0:=by omega
   simp only[pS,g0,g4,QW,bP,er,q,e2,hp,VX,Nat.reduceEqDiff,Nat.reduceAdd]
   refine Od (n:=n) n9 ?_ ?_ ?_ fun AH k1 q9 => ?_
   ·simp only[VX,Nat.reduceEqDiff,Nat.reduceAdd]
   ·simp only[VX,Nat.reduceEqDiff,Nat.reduceAdd]
   ·simp only[VX,Nat.reduceEqDiff,Nat.reduceAdd]
   rw[←hP] at q9
   have u0:AH 0=bD rest:=by rw[k1 0 (by decide)];simp only[g0,VX,Nat.reduceEqDiff,Nat.reduceAdd]
   have u4:AH 4=v4:=by rw[k1 4 (by decide)];simp only[g4,VX,Nat.reduceEqDiff,Nat.reduceAdd]
   have u6:AH 6=VI n:=by rw[k1 6 (by decide)];simp only[VX,Nat.reduceEqDiff,Nat.reduceAdd]
   have u7:AH 7=VK .u64 (bU (rest.take n)):=by rw[k1 7 (by decide)];simp only[VX,Nat.reduceEqDiff,Nat.reduceAdd]
   simp only[u0,u4,u6,u7,q9,c1,c2,c3,c4,e3,VX,Nat.reduceEqDiff,Nat.reduceAdd]
   exact⟨(pre++rest.take n,rest.drop n),fin.1,Wq.trans fin.2,rfl,.inr rfl⟩
set_option maxHeartbeats 2000000 in
theorem Fi (l:List UInt8) (hl:l.length≤1000000000000):TC 174 [bD l] (Df l):=by
 refine TC.walk ⟨true,false⟩ PC rfl (aL9 rfl) rfl (aeG l) ?_
 have e1:=Wh l
 by_cases he:l=[]
 ·have hk:jI l=false:=by rw[he];rfl
  have QW:dK .eql (.string ⟨l.toArray⟩) (.string ⟨#[]⟩)=some (.bool true):=by rw[e1,decide_eq_true he]
  unfold Df
  rw[hk]
  simp only[sS,oA,QW,aKX,if_false,VX,Nat.reduceEqDiff,Nat.reduceAdd]
  exact bO (d:=6) Au (aL (v:=VB false) rfl)
 have lR:0<l.length:=aNi.2 he
 by_cases aqO:(200:Int)<(l.length:Int)
 ·have hk:jI l=false:=by
   cases h:jI l with
   | false=>rfl
   | true=>have:=(lG.1 h).2.2.1;omega
  unfold Df
  rw[hk]
  simp only[sS,oA,e1,he,decide_false,bP,aqO,aKX,if_false,VX,Nat.reduceEqDiff,Nat.reduceAdd]
  exact bO (d:=6) Au (aL (v:=VB false) rfl)
 have e2:=KE l lR
 by_cases hz:(((l.getD 0 0).toNat:Int)=48∧1<(l.length:Int))
 ·obtain⟨KV,Nq⟩:=hz
  have hk:jI l=false:=by
   cases h:jI l with
   | false=>rfl
   |
    true =>
    rcases(lG.1 h).2.2.2 with h1 | h1
    ·omega
    ·exact absurd (UInt8.toNat_inj.1 (by rw[show (48:UInt8).toNat=48 from rfl];omega)) h1
  unfold Df
  rw[hk]
  simp only[sS,oA,e1,he,decide_false,bP,aqO,e2,KV,Nq,aKX,if_false,VX,Nat.reduceEqDiff,Nat.reduceAdd]
  exact bO (d:=6) Au (aL (v:=VB false) rfl)
 have aA8:l.length=1∨l.getD 0 0≠48:=by
  by_cases h1:l.length=1
  ·exact .inl h1
  ·right
   intro h2
   apply hz
   rw[h2]
   exact⟨rfl,by omega⟩
 have e3:∀lr,oD lr [.int .u32 0] 0 [] []=some (.ref 0 0 0 0 0,[.row 0 [] 1 true]):=fun lr=>mO (H:=[]) (lr:=lr) (z:=[.int .u32 0]) rfl
 have kN:l.all jQ=true→jI l=true:=fun h=>lG.2 ⟨h,lR,by omega,aA8⟩
 have kF:l.all jQ=false→jI l=false:=fun h=>by unfold jI;rw[h];rfl
 have rF:jI l=false→Df l = .dU [bN 0,VB false]:=fun h=>by unfold Df;rw[h];rfl
 have rT:jI l=true→Df l = .dU [bN (bU l),VB true]:=fun h=>if_pos h
 by_cases hA:(((l.getD 0 0).toNat:Int)=48)
 ·have hB:¬1<(l.length:Int):=fun h=>hz ⟨hA,h⟩
  simp only[sS,oA,e1,e3,he,decide_false,bP,aqO,e2,hA,hB,aKX,if_false,VX,Nat.reduceEqDiff,Nat.reduceAdd]
  refine O9 hl ?_ ?_ ?_ (fun hd AH g2 g3 => ?_) fun hd AH k1 => ?_
  ·simp only[VX,Nat.reduceEqDiff,Nat.reduceAdd]
  ·simp only[VX,Nat.reduceEqDiff,Nat.reduceAdd]
  ·simp only[VX,Nat.reduceEqDiff,Nat.reduceAdd]
  ·rw[rF (kF hd)]
   simp only[g2,g3,VX,Nat.reduceEqDiff,Nat.reduceAdd]
   exact bO (d:=6) Au (aL (v:=VB false) rfl)
  ·rw[rT (kN hd)]
   simp only[VX,Nat.reduceEqDiff,Nat.reduceAdd]
   refine Oy hd (by omega) he ?_ ?_ fun tG g4 => ?_
   ·rw[k1 0 (by decide)];simp only[VX,Nat.reduceEqDiff,Nat.reduceAdd]
   ·rw[k1 4 (by decide)];simp only[VX,Nat.reduceEqDiff,Nat.reduceAdd]
   ·simp only[g4,VX,Nat.reduceEqDiff,Nat.reduceAdd]
    exact bO (d:=6) (aL (bT _)) (aL (v:=VB true) rfl)
 ·simp only[sS,oA,e1,e3,he,decide_false,bP,aqO,e2,hA,aKX,if_false,VX,Nat.reduceEqDiff,Nat.reduceAdd]
  refine O9 hl ?_ ?_ ?_ (fun hd AH g2 g3 => ?_) fun hd AH k1 => ?_
  ·simp only[VX,Nat.reduceEqDiff,Nat.reduceAdd]
  ·simp only[VX,Nat.reduceEqDiff,Nat.reduceAdd]
  ·simp only[VX,Nat.reduceEqDiff,Nat.reduceAdd]
  ·rw[rF (kF hd)]
   simp only[g2,g3,VX,Nat.reduceEqDiff,Nat.reduceAdd]
   exact bO (d:=6) Au (aL (v:=VB false) rfl)
  ·rw[rT (kN hd)]
   simp only[VX,Nat.reduceEqDiff,Nat.reduceAdd]
   refine Oy hd (by omega) he ?_ ?_ fun tG g4 => ?_
   ·rw[k1 0 (by decide)];simp only[VX,Nat.reduceEqDiff,Nat.reduceAdd]
   ·rw[k1 4 (by decide)];simp only[VX,Nat.reduceEqDiff,Nat.reduceAdd]
   ·simp only[g4,VX,Nat.reduceEqDiff,Nat.reduceAdd]
    exact bO (d:=6) (aL (bT _)) (aL (v:=VB true) rfl)
def KU:VV := .agg [VB false,bN 0,bN 0]
def D4 (l:List UInt8):VV:=match rM l with
 | some q => .dU [aF q,VB true]
 | none => .dU [KU,VB false]
theorem U2:gW KU=true:=by simp[KU,gW,sO,tL,qD]
theorem Ya (l:List UInt8):gW (D4 l)=true:=by
 unfold D4
 split<;>simp[gW,sO,rS,U2,qD]
theorem iH {d:Nat} {H:aA}:fz (d+2) H (.agg [VB false,.tree [] .nil,.tree [] .nil])=some KU:=uB (aL (v:=VB false) rfl) Au Au
theorem PJ {neg:Bool} {t b:Nat} (hb:b≠0) (hg:aM1 t b=1) (hn:¬(neg=true∧t=0)):aF (mkRat (mF neg t) b) = .agg [VB neg,bN t,bN b]:=by
 obtain⟨e1,e2⟩:=Ma (neg:=neg) hb hg
 refine DB ?_ (by rw[e1,qJ]) e2
 rw[e1]
 cases neg with
 | false=>unfold mF;simp
 |
  true =>
  have:t≠0:=fun h=>hn ⟨rfl,h⟩
  unfold mF
  simp
  omega
theorem Yj (l:List UInt8):rM l=rJ (isNeg (oK 47 l).1) (if isNeg (oK 47 l).1 then (oK 47 l).1.drop 1 else (oK 47 l).1) (oK 47 l).2:=by
 cases l with
 | nil=>rfl
 |
  cons c r =>
  unfold rM
  by_cases h47:c=47
  ·subst h47
   rfl
  ·have e:oK 47 (c::r)=(c::(oK 47 r).1,(oK 47 r).2):=by rw[oK,if_neg h47]
   by_cases h45:c=45
   ·subst h45
    rw[e]
    rfl
   ·rw[e,Ix,Ix,decide_eq_false h45]
    simp only[aKX,if_false,e]
theorem T9 {c:UInt8}:∀ {l:List UInt8},(oK c l).1.length≤l.length∧∀t,(oK c l).2=some t→t.length≤l.length:=by
 intro l
 cases h:(oK c l).2 with
 | none=>rw[(CT h).2.1];exact⟨aKl _,fun t ht=>by cases ht⟩
 |
  some r =>
  have:=congrArg aNu (K2 h).2.1
  rw[aKw,aKv] at this
  exact⟨by omega,fun t ht=>by cases ht;omega⟩
theorem QK {n:Nat}:(((aD 4294967296 n).length:Nat):Int)=0↔n=0:=by
 rw[←oF (b:=4294967296) (n:=n) (by decide),←aNg]
 omega
set_option maxRecDepth 100000 in
set_option maxHeartbeats 4000000 in
theorem FV (l:List UInt8) (hl:l.length≤1000000000000):TC 115 [bD l] (D4 l):=by
 refine TC.walk ⟨true,false⟩ Pb rfl (aL9 rfl) rfl (Ya l) ?_
 have e1:=aA1 l hl
 obtain⟨l1,l2⟩:=T9 (c:=47) (l:=l)
 have hq:=Yj l
 unfold D4
 rw[hq]
 clear hq
 generalize (oK 47 l).1=f at *
 generalize (oK 47 l).2=s2 at *
 have e2:=Wo f
 have ld:(if isNeg f=true then f.drop 1 else f).length≤f.length:=by split<;>simp
 generalize (if isNeg f=true then f.drop 1 else f)=d at *
 generalize isNeg f=neg at *
 have e3:=Fi d (by omega)
 have c1:TC 139 [.sc (.int .u64 1)] (bN 1):=pE 1 (by decide)
 cases hd:jI d with
 |
  false =>
  have hp:rJ neg d s2=none:=if_pos (.inl hd)
  rw[hp]
  unfold Df at e3
  rw[hd,if_neg (by decide)] at e3
  simp only[fI,dJ,e1,e2,e3,aK,fT,Nat.reduceLeDiff,Nat.reduceLT,Nat.reduceSub,VX,Nat.reduceEqDiff,Nat.reduceAdd]
  exact bO (d:=6) iH (aL (v:=VB false) rfl)
 |
  true =>
  unfold Df at e3
  rw[hd,if_pos rfl] at e3
  by_cases hz:neg=true∧bU d=0
  ·have hp:rJ neg d s2=none:=if_pos (.inr hz)
   rw[hp]
   obtain⟨rfl,Ch⟩:=hz
   rw[Ch] at e3
   have Cf:(((aD 4294967296 0).length:Nat):Int)=0:=QK.2 rfl
   simp only[fI,dJ,e1,e2,e3,dM,Cf,aK,fT,Nat.reduceLeDiff,Nat.reduceLT,Nat.reduceSub,VX,Nat.reduceEqDiff,Nat.reduceAdd]
   exact bO (d:=6) iH (aL (v:=VB false) rfl)
  ·have hbt:=BB hd
   have Cf:neg=true→¬(((aD 4294967296 (bU d)).length:Nat):Int)=0:=fun h h0=>hz ⟨h,QK.1 h0⟩
   cases s2 with
   |
    none =>
    have hp:rJ neg d none=some (mkRat (mF neg (bU d)) 1):=if_neg (by rw[hd];rintro(h | h);exact absurd h (by decide);exact hz h)
    rw[hp]
    simp only[]
    rw[PJ (by decide) (Nat.gcd_one_right _) hz]
    cases neg with
    |
     false =>
     simp only[fI,dJ,e1,e2,e3,c1,aK0,Option.getD_none,aK,aY,aZ,aS,fT,Nat.reduceLeDiff,Nat.reduceLT,Nat.reduceSub,VX,Nat.reduceEqDiff,Nat.reduceAdd]
     exact bO (d:=6) (uB (aL (v:=VB false) rfl) (aL (bT _)) (aL (bT _))) (aL (v:=VB true) rfl)
    |
     true =>
     have Cf:=Cf rfl
     simp only[fI,dJ,e1,e2,e3,c1,dM,Cf,aK0,Option.getD_none,aK,aY,aZ,aS,fT,Nat.reduceLeDiff,Nat.reduceLT,Nat.reduceSub,VX,Nat.reduceEqDiff,Nat.reduceAdd]
     exact bO (d:=6) (uB (aL (v:=VB true) rfl) (aL (bT _)) (aL (bT _))) (aL (v:=VB true) rfl)
   |
    some t =>
    have e4:=Fi t (by have:=l2 t rfl;omega)
    have hp:rJ neg d (some t)=if jI t=true∧1<bU t∧aM1 (bU d) (bU t)=1 then some (mkRat (mF neg (bU d)) (bU t)) else none:=if_neg (by rw[hd];rintro(h | h);exact absurd h (by decide);exact hz h)
    rw[hp]
    cases ht:jI t with
    |
     false =>
     rw[if_neg (fun h=>absurd h.1 (by decide))]
     unfold Df at e4
     rw[ht,if_neg (by decide)] at e4
     cases neg with
     |
      false =>
      simp only[fI,dJ,e1,e2,e3,e4,c1,aNw,aNx,aK,aY,aZ,aS,fT,Nat.reduceLeDiff,Nat.reduceLT,Nat.reduceSub,VX,Nat.reduceEqDiff,Nat.reduceAdd]
      exact bO (d:=6) iH (aL (v:=VB false) rfl)
     |
      true =>
      have Cf:=Cf rfl
      simp only[fI,dJ,e1,e2,e3,e4,c1,dM,Cf,aNw,aNx,aK,aY,aZ,aS,fT,Nat.reduceLeDiff,Nat.reduceLT,Nat.reduceSub,VX,Nat.reduceEqDiff,Nat.reduceAdd]
      exact bO (d:=6) iH (aL (v:=VB false) rfl)
    |
     true =>
     have NH:=BB ht
     unfold Df at e4
     rw[ht,if_pos rfl] at e4
     have c2:=lK (bU t) 1 (gI (by omega)) (gI (aKm (C3 (n:=1) (k:=1) (by decide)) (by decide)))
     have c3:=FT (bU d) (bU t) (gI (by omega)) (gI (by omega))
     by_cases h1:fW (bU t) 1≤0
     ·have hle:¬1<bU t:=fun h=>by unfold fW at h1;rw[if_neg (by omega),if_neg (by omega)] at h1;exact absurd h1 (by decide)
      rw[if_neg (fun h=>hle h.2.1)]
      cases neg with
      |
       false =>
       simp only[fI,dJ,e1,e2,e3,e4,c1,c2,h1,aNw,aNx,aK,aY,aZ,aS,fT,Nat.reduceLeDiff,Nat.reduceLT,Nat.reduceSub,VX,Nat.reduceEqDiff,Nat.reduceAdd]
       exact bO (d:=6) iH (aL (v:=VB false) rfl)
      |
       true =>
       have Cf:=Cf rfl
       simp only[fI,dJ,e1,e2,e3,e4,c1,c2,h1,dM,Cf,aNw,aNx,aK,aY,aZ,aS,fT,Nat.reduceLeDiff,Nat.reduceLT,Nat.reduceSub,VX,Nat.reduceEqDiff,Nat.reduceAdd]
       exact bO (d:=6) iH (aL (v:=VB false) rfl)
     ·have bF:1<bU t:=by
       rcases Nat.lt_or_ge 1 (bU t) with h | h
       ·exact h
       ·exfalso
        apply h1
        unfold fW
        split
        ·decide
        ·rw[if_pos (by omega)];decide
      have hgl:bl (aM1 (bU d) (bU t))≤665:=aKm (mA (Nat.le_of_dvd (by omega) (Nat.gcd_dvd_right _ _))) NH
      have c4:=lK (aM1 (bU d) (bU t)) 1 (gI (by omega)) (gI (aKm (C3 (n:=1) (k:=1) (by decide)) (by decide)))
      by_cases hg:aM1 (bU d) (bU t)=1
      ·have h4:fW (aM1 (bU d) (bU t)) 1=0:=by rw[hg];rfl
       rw[if_pos ⟨rfl,bF,hg⟩]
       simp only[]
       rw[PJ (by omega) hg hz]
       cases neg with
       |
        false =>
        simp only[fI,dJ,e1,e2,e3,e4,c1,c2,c3,c4,h1,h4,aNw,aNx,aK,aY,aZ,aS,fT,Nat.reduceLeDiff,Nat.reduceLT,Nat.reduceSub,VX,Nat.reduceEqDiff,Nat.reduceAdd]
        exact bO (d:=6) (uB (aL (v:=VB false) rfl) (aL (bT _)) (aL (bT _))) (aL (v:=VB true) rfl)
       |
        true =>
        have Cf:=Cf rfl
        simp only[fI,dJ,e1,e2,e3,e4,c1,c2,c3,c4,h1,h4,dM,Cf,aNw,aNx,aK,aY,aZ,aS,fT,Nat.reduceLeDiff,Nat.reduceLT,Nat.reduceSub,VX,Nat.reduceEqDiff,Nat.reduceAdd]
        exact bO (d:=6) (uB (aL (v:=VB true) rfl) (aL (bT _)) (aL (bT _))) (aL (v:=VB true) rfl)
      ·have h4:¬fW (aM1 (bU d) (bU t)) 1=0:=by
        unfold fW
        split<;>(try split)<;>first | decide | omega
       rw[if_neg (fun h=>hg h.2.2)]
       cases neg with
       |
        false =>
        simp only[fI,dJ,e1,e2,e3,e4,c1,c2,c3,c4,h1,h4,aNw,aNx,aK,aY,aZ,aS,fT,Nat.reduceLeDiff,Nat.reduceLT,Nat.reduceSub,VX,Nat.reduceEqDiff,Nat.reduceAdd]
        exact bO (d:=6) iH (aL (v:=VB false) rfl)
       |
        true =>
        have Cf:=Cf rfl
        simp only[fI,dJ,e1,e2,e3,e4,c1,c2,c3,c4,h1,h4,dM,Cf,aNw,aNx,aK,aY,aZ,aS,fT,Nat.reduceLeDiff,Nat.reduceLT,Nat.reduceSub,VX,Nat.reduceEqDiff,Nat.reduceAdd]
        exact bO (d:=6) iH (aL (v:=VB false) rfl)
end Go.PM
namespace Go.PM
open Go.Lib
theorem Vg {l:List UInt8} {q:Rat} (h:rM l=some q):D4 l = .dU [aF q,VB true]:=by unfold D4;rw[h]
theorem Vp {l:List UInt8} (h:rM l=none):D4 l = .dU [KU,VB false]:=by unfold D4;rw[h]
theorem LH:aB KU=[VB false,bN 0,bN 0]:=rfl
theorem Pw:isAny KU=false:=rfl
theorem We:dP true 3 KU 0=some KU:=rfl
theorem RI (q:Rat):∃s k,Am q = .dU [bD s,VB k]:=by
 unfold Am
 split<;>exact⟨_,_,rfl⟩
end Go.PM
namespace Go.PM
open Go.Lib
theorem zG {q:Rat}:iY q=0↔q=0:=by
 rw[←Rat.num_eq_zero]
 rcases Int.lt_trichotomy q.num 0 with h | h | h
 ·rw[oY h];omega
 ·rw[kX h];simp[h]
 ·rw[oX h];omega
end Go.PM
namespace Go.PM
open Go.Lib
theorem Uq {α:Type} {f:α→VV} {d e b g c:Nat} {xs:List α} {H:aA} {w:Bool} (hp:∀x,aX (f x)=true) (h:aG H b g=some (xs.map f,e,w)) (hc:xs.length≤c):fz (d+2) H (.ref b g 0 xs.length c)=some (aC f xs):=by
 have:aX (.ref b g 0 xs.length c)=false:=rfl
 unfold PM.fz
 simp only[this,h,aKX,if_false]
 rw[if_pos ⟨by simp,hc⟩,aLx,aLe (by simp),mapM_pure (fM hp)]
 rfl
theorem BX {d:Nat} {H:aA}:fz (d+1) H (.tree [] .nil)=some (.tree [] .op):=by
 unfold PM.fz
 have:aX (.tree [] .nil)=false:=by simp[aX]
 simp[this]
theorem It {H:aA}:fz depth H (.dU [.tree [] .nil,VB false])=some (.dU [.tree [] .op,VB false]):=bO (d:=6) BX (aL (v:=VB false) rfl)
theorem zK {u v:VV} (hu:gW u=true) (hv:gW v=true):gW (.dU [u,v])=true:=by simp only[gW,sO,hu,hv,aLJ]
theorem adK {u v:VV} (hu:aX u=true) (hv:aX v=true):aX (.dU [u,v])=true:=by simp only[aX,aO,hu,hv,aLJ]
theorem FR {u:VV} (hu:aX u=true):aO [u]=true:=by simp only[aO,hu,aLJ]
theorem vL {u v:VV} (hu:aX u=true) (hv:aX v=true):aO [u,v]=true:=by simp only[aO,hu,hv,aLJ]
def pQ (s:ByteArray):Option Rat:=rM s.data.toList
theorem ahL (s:ByteArray):sV s=bD s.data.toList:=rfl
def sY (xs:List ByteArray):Option (List Rat):=if xs.length≤300 then xs.mapM pQ else none
def R2 (o:Option (List Rat)):VV:=match o with
 | some qs => .dU [aC aF qs,VB true]
 | none => .dU [aC aF [],VB false]
theorem cW (q:Rat):(aB (aF q)).length=3:=rfl
theorem gL (qs:List Rat):aX (aC aF qs)=true:=mN cW dW
theorem acI (q:Rat):Cl (aF q)=true:=by simp[Cl,aF,bN]
theorem Gw (qs:List Rat):gW (aC aF qs)=true:=zC cW rS acI
theorem RN (o:Option (List Rat)):gW (R2 o)=true:=by
 unfold R2
 split
 ·exact zK (Gw _) rfl
 ·exact zK (Gw []) rfl
theorem QS {α β:Type} {f:α→Option β} {xs:List α} {ys:List β} {x:α} {y:β} (h:xs.mapM f=some ys) (hx:f x=some y):(xs++[x]).mapM f=some (ys++[y]):=by
 rw[List.mapM_append,h]
 simp[hx]
theorem mapM_none {α β:Type} {f:α→Option β} {x:α} (hx:f x=none):∀ {xs:List α},x∈xs→xs.mapM f=none
 | [],h=>by cases h
 |
  y::xs,h=>by
  rw[aLI]
  cases hy:f y with
  | none=>rfl
  |
   some z =>
   rcases aLz.1 h with rfl | h
   ·rw[hx] at hy;cases hy
   ·show ((xs.mapM f).bind fun zs=>some (z::zs))=none
    rw[mapM_none hx h];rfl
theorem mapM_mem {α β:Type} {f:α→Option β} {P:β→Prop} (hP:∀x y,f x=some y→P y):∀ {xs:List α} {ys:List β},xs.mapM f=some ys→∀y∈ys,P y
 | [],ys,h,y,hy=>by simp at h;subst h;cases hy
 |
  x::xs,ys,h,y,hy=>by
  rw[aLI] at h
  cases hx:f x with
  | none=>rw[hx] at h;cases h
  |
   some z =>
   rw[hx] at h
   cases hs:xs.mapM f with
   | none=>rw[hs] at h;cases h
   |
    some zs =>
    rw[hs] at h
    cases h
    rcases aLz.1 hy with rfl | hy
    ·exact hP _ _ hx
    ·exact mapM_mem hP hs _ hy
theorem sG {α:Type} {xs:List α} {i:Nat} {x:α} (h:xs[i]? = some x):xs.take (i+1)=xs.take i++[x]:=by rw[List.take_add_one,h];rfl
theorem nD {xs:List ByteArray} {qs:List Rat} (h:sY xs=some qs):(∀q∈qs,aM q≤665)∧qs.length≤300∧qs.length=xs.length:=by
 unfold sY at h
 split at h
 ·rename_i hl
  have:=AS h
  exact⟨mapM_mem (fun _ _ h=>Io h) h,by omega,this⟩
 ·cases h
set_option maxHeartbeats 1000000 in
theorem Fs (xs:List ByteArray) (hn:xs.length≤1000000000) (hs:∀s∈xs,s.size≤1000000000):TC 65 [gB xs] (R2 (sY xs)):=by
 refine TC.walk ⟨true,false⟩ VJ rfl (aL9 rfl) (by simp[aO,jD]) (RN _) ?_
 unfold sY
 by_cases XT:(300:Int)<(xs.length:Int)
 ·rw[if_neg (by omega)]
  simp only[Ku,FI,XT,VX,Nat.reduceEqDiff,Nat.reduceAdd]
  exact It
 rw[if_pos (by omega)]
 have e0:=fun H=>mO (H:=H) (lr:=false) (z:=[.bool false,.slice none 0 0,.slice none 0 0]) rfl
 simp only[Ku,FI,XT,e0,VX,Nat.reduceEqDiff,Nat.reduceAdd]
 refine O6 (fun(s:Nat×List Rat) ρ H=>s.1≤xs.length∧(xs.take s.1).mapM pQ=some s.2∧H=[.row s.1 (s.2.map aF) 3 true]∧ρ 4 = .ref 0 s.1 0 s.1 s.1∧ρ 13=gB xs∧ρ 14=VI xs.length∧ρ 15=VI s.1) (fun s=>xs.length-s.1) (0,[]) ⟨aKP _,rfl,rfl,rfl,rfl,rfl,rfl⟩ ?_
 rintro⟨i,out⟩ ρ H ⟨hi,wQ,rfl,g4,g13,g14,g15⟩
 simp only at hi wQ g4 g15
 have iA:out.length=i:=by rw[AS wQ,aLU];omega
 by_cases bX:(i:Int)<(xs.length:Int)
 ·obtain⟨x,hx⟩:∃x,xs[i]? = some x:=⟨_,aKs (by omega)⟩
  have hxm:=aLf hx
  have e1:=fun H=>aI (f:=sV) (t := .op) (H:=H) (size:=1) (k := .i64) hx rfl
  have wi:IntKind.i64.wrap ((i:Int)+1)=((i+1:Nat):Int):=wrapN (i+1) (by omega) (by omega)
  have e2:=FV x.data.toList (by have:=hs x hxm;rw[aNy];show x.size≤_;omega)
  rw[←ahL] at e2
  cases hp:pQ x with
  |
   none =>
   rw[Vp hp] at e2
   rw[mapM_none hp hxm]
   simp only[Ao,g4,g13,g14,g15,bX,e1,e2,LH,Pw,We,aZ,aY,aS,fT,Nat.reduceLeDiff,Nat.reduceLT,Nat.reduceSub,nH,cB,cN,gO,lQ,pT,bne_iff_ne,ne_eq,not_false_eq_true,not_true_eq_false,VX,Nat.reduceEqDiff,Nat.reduceAdd]
   exact It
  |
   some q =>
   rw[Vg hp] at e2
   have eL:∀H,oD false [.bool false,.slice none 0 0,.slice none 0 0] 1 [(0,aF q)] H=some (.tree [aF q] (.cl 3),H):=fun H=>lS rfl rfl rfl
   have eS:∀H,dF 3 (.tree [aF q] (.cl 3)) H=some [aF q]:=fun H=>gS rfl rfl
   have eP:dI 0 3 56 (.ref 0 i 0 i i) [aF q] [.row i (out.map aF) 3 true,.row 0 [aF q] 3 true]=some (.ref 0 (i+1) 0 (i+1) (i+1),[.row (i+1) ((out++[q]).map aF) 3 true,.row 0 [aF q] 3 true]):=by
    rw[jU (f:=aF) (xs:=out) (by rw[aT]) iA.symm (aKl _) (by decide) (by decide) (by omega),aLZ]
   simp only[Ao,g4,g13,g14,g15,bX,e1,e2,eL,eS,eP,wi,aK,cK,bH,aZ,aY,aS,fT,Nat.reduceLeDiff,Nat.reduceLT,Nat.reduceSub,nH,cB,cN,gO,lQ,pT,bne_iff_ne,ne_eq,not_false_eq_true,not_true_eq_false,VX,Nat.reduceEqDiff,Nat.reduceAdd]
   refine⟨(i+1,out++[q]),by simp only;omega,?_,by simp only;omega,by simp only[sG hx];exact QS wQ hp,rfl,?_⟩
   ·rw[Dq (oO _ (fM dW)),K1]
   ·simp only[AW,g13,g14,CL (jD _),KS (Nat.lt_succ_self 0),VX,Nat.reduceEqDiff,Nat.reduceAdd,aNz,nR,List.all_nil,aLY,AW,Pg,CL]
 ·have nC:i=xs.length:=by omega
  subst nC
  rw[aLy] at wQ
  rw[wQ]
  simp only[Ao,g4,g13,g14,g15,bX,VX,Nat.reduceEqDiff,Nat.reduceAdd]
  refine bO (d:=6) ?_ (aL (v:=VB true) rfl)
  have:=Uq (d:=5) (w:=true) (f:=aF) (e:=3) (b:=0) (g:=xs.length) (c:=xs.length) (xs:=out) (H:=[.row xs.length (out.map aF) 3 true]) dW (by rw[aT]) (by omega)
  rw[iA] at this
  exact this
end Go.PM
namespace Go.PM
open Go.Lib
theorem aiJ {α:Type} {l:List α} (h:l.Nodup) {i j:Nat} {x:α} (hi:l[i]? = some x) (hj:l[j]? = some x):i=j:=by
 obtain⟨hi,qM⟩:=aKk.1 hi
 obtain⟨hj,hj'⟩:=aKk.1 hj
 have h:=List.pairwise_iff_getElem.1 h
 rcases Nat.lt_trichotomy i j with bF | heq | hgt
 ·exact absurd (qM.trans hj'.symm) (h i j hi hj bF)
 ·exact heq
 ·exact absurd (hj'.trans qM.symm) (h j i hj hi hgt)
section
variable {α:Type} {f:α→VV} {e lo hi:Nat} {H H':aA} {v:VV}
def jT (lo hi:Nat) (H H':aA):Prop:=∀b g x,lo≤b→b<hi→aG H b g=some x→aG H' b g=some x
theorem jT.pre (h:H <+: H'):jT lo hi H H':=fun _ _ _ _ _=>cR h
theorem jT.refl:jT lo hi H H:=fun _ _ _ _ _ h=>h
theorem jT.trans {Vr:aA} (h:jT lo hi H H') (h':jT lo hi H' Vr):jT lo hi H Vr:=fun b g x h1 h2 h3=>h' b g x h1 h2 (h b g x h1 h2 h3)
theorem jT.sub {l h':Nat} (h:jT lo hi H H') (hl:lo≤l) (hh:h'≤hi):jT l h' H H':=fun b g x h1 h2=>h b g x (by omega) (by omega)
theorem jT.set {b:Nat} {x:fK} (hb:b<lo∨hi≤b):jT lo hi H (H.set b x):=fun _ _ _ h1 h2=>bC (by omega)
theorem jT.move {L:aA}:jT H.length hi (List.replicate H.length .dead++L) (H++L):=fun _ _ _ h1 _=>Kr h1
def WU (f:α→VV) (e:Nat) (cE:List α) (lo hi:Nat) (H:aA) (v:VV):Prop :=
 (v = .tree [] .nil∧cE=[])∨∃b g c,lo≤b∧b<hi∧v = .ref b g 0 cE.length c∧cE.length≤c∧aG H b g=some (cE.map f,e,true)
theorem WU.dB {cE:List α} (h:WU f e cE lo hi H v) (hk:jT lo hi H H'):WU f e cE lo hi H' v:=by
 rcases h with h | ⟨b,g,c,h1,h2,h3,h4,h5⟩
 ·exact .inl h
 ·exact .inr ⟨b,g,c,h1,h2,h3,h4,hk _ _ _ h1 h2 h5⟩
theorem WU.wide {cE:List α} {fZ qM:Nat} (h:WU f e cE lo hi H v) (hl:fZ≤lo) (hh:hi≤qM):WU f e cE fZ qM H v:=by
 rcases h with h | ⟨b,g,c,h1,h2,h3⟩
 ·exact .inl h
 ·exact .inr ⟨b,g,c,by omega,by omega,h3⟩
theorem Gn {d b g c:Nat} {xs:List α} {w:Bool} (hp:∀x,aX (f x)=true) (h:aG H b g=some (xs.map f,e,w)) (hc:xs.length≤c):fz (d+2) H (.ref b g 0 xs.length c)=some (aC f xs):=by
 have:aX (.ref b g 0 xs.length c)=false:=rfl
 show PM.fz ((d+1)+1) H _=_
 unfold PM.fz
 simp only[this,h,aKX,if_false]
 rw[if_pos ⟨by simp,hc⟩,aLx,aLe (by simp),mapM_pure (n:=d) (fM hp)]
 rfl
theorem WU.fz {d:Nat} {cE:List α} (h:WU f e cE lo hi H v) (hp:∀x,aX (f x)=true):PM.fz (d+2) H v=some (aC f cE):=by
 rcases h with⟨rfl,rfl⟩ | ⟨b,g,c,h1,h2,rfl,h4,h5⟩
 ·exact NY
 ·exact Gn hp h5 h4
structure Ck (α:Type) where
 b:Nat
 g:Nat
 c:Nat
 xs:List α
def tU (r:Ck α):VV := .ref r.b r.g 0 r.xs.length r.c
structure Zi (f:α→VV) (e lo hi b:Nat) (H:aA) (rs:List (Ck α)):Prop where
 nd:(rs.map (·.b)).Nodup
 row:∀r∈rs,lo≤r.b∧r.b<hi∧r.b≠b∧r.xs.length≤r.c∧aG H r.b r.g=some (r.xs.map f,e,true)
def RG (f:α→VV) (e:Nat) (cE:List (List α)) (lo hi:Nat) (H:aA) (v:VV):Prop :=
 (v = .tree [] .nil∧cE=[])∨∃b g c rs,lo≤b∧b<hi∧v = .ref b g 0 cE.length c∧cE.length≤c∧aG H b g=some (rs.map tU,1,true)∧rs.map (·.xs)=cE∧Zi f e lo hi b H rs
theorem RG.dB {cE:List (List α)} (h:RG f e cE lo hi H v) (hk:jT lo hi H H'):RG f e cE lo hi H' v:=by
 rcases h with h | ⟨b,g,c,rs,h1,h2,h3,h4,h5,h6,h7⟩
 ·exact .inl h
 ·exact .inr ⟨b,g,c,rs,h1,h2,h3,h4,hk _ _ _ h1 h2 h5,h6,h7.nd,fun r hr=>by
   obtain⟨k1,k2,k3,k4,k5⟩:=h7.row r hr
   exact⟨k1,k2,k3,k4,hk _ _ _ k1 k2 k5⟩⟩
theorem RG.wide {cE:List (List α)} {fZ qM:Nat} (h:RG f e cE lo hi H v) (hl:fZ≤lo) (hh:hi≤qM):RG f e cE fZ qM H v:=by
 rcases h with h | ⟨b,g,c,rs,h1,h2,h3,h4,h5,h6,h7⟩
 ·exact .inl h
 ·exact .inr ⟨b,g,c,rs,by omega,by omega,h3,h4,h5,h6,h7.nd,fun r hr=>by
   obtain⟨k1,k2,k3,k4,k5⟩:=h7.row r hr
   exact⟨by omega,by omega,k3,k4,k5⟩⟩
theorem ZI {d b g c lo hi:Nat} {rs:List (Ck α)} {w:Bool} (hp:∀x,aX (f x)=true) (h:aG H b g=some (rs.map tU,1,w)) (hc:rs.length≤c) (hR:Zi f e lo hi b H rs) :
  fz (d+3) H (.ref b g 0 rs.length c)=some (aC (aC f) (rs.map (·.xs))):=by
 have:aX (.ref b g 0 rs.length c)=false:=rfl
 show PM.fz ((d+2)+1) H _=_
 unfold PM.fz
 simp only[this,h,aKX,if_false]
 rw[if_pos ⟨by simp,hc⟩,aLx,aLe (by simp),mapM_map (f:=tU) (f':=fun r=>aC f r.xs) fun r hr=>Gn hp (hR.row r hr).2.2.2.2 (hR.row r hr).2.2.2.1]
 simp[aC,List.map_map]
theorem RG.fz {d:Nat} {cE:List (List α)} (h:RG f e cE lo hi H v) (hp:∀x,aX (f x)=true):PM.fz (d+3) H v=some (aC (aC f) cE):=by
 rcases h with⟨rfl,rfl⟩ | ⟨b,g,c,rs,h1,h2,rfl,h4,h5,rfl,h7⟩
 ·exact NY
 ·rw[aL2] at h4 ⊢
  exact ZI hp h5 h4 h7
theorem Gh {d:Nat} {us IG:List VV} (h:us.mapM (PM.fz (d+1) H)=some IG):PM.fz (d+2) H (.agg us)=some (.agg IG):=by
 have e:PM.fz (d+2) H (.agg us)=if aX (.agg us)=true then some (.agg us) else (us.mapM (PM.fz (d+1) H)).map .agg:=rfl
 rw[e]
 by_cases hq:aX (.agg us)=true
 ·rw[if_pos hq]
  have:us.mapM (PM.fz (d+1) H)=some us:=mapM_pure hq
  rw[this] at h
  cases h
  rfl
 ·rw[if_neg hq,h]
  rfl
end
def Jq (T:VV) (lo hi:Nat) (H:aA) (v:VV):Prop:=∀H',jT lo hi H H'→fz depth H' v=some T
theorem Jq.dB {T:VV}:∀ {lo hi H H' v},Jq T lo hi H v→jT lo hi H H'→Jq T lo hi H' v:=fun h hk _ h'=>h _ (hk.trans h')
theorem Jq.now {T v:VV} {lo hi:Nat} {H:aA} (h:Jq T lo hi H v):fz depth H v=some T:=h H jT.refl
def CG (cE:List (List ByteArray)) (lo hi:Nat) (H:aA) (v:VV):Prop:=∃c,v = .agg [c]∧RG sV 1 cE lo hi H c
theorem CG.dB {cE:List (List ByteArray)}:∀ {lo hi H H' v},CG cE lo hi H v→jT lo hi H H'→CG cE lo hi H' v:=by
 rintro lo hi H H' v ⟨c,h1,h2⟩ hk
 exact⟨c,h1,h2.dB hk⟩
theorem CG.fz {cE:List (List ByteArray)} {lo hi:Nat} {H:aA} {v:VV} (h:CG cE lo hi H v):PM.fz depth H v=some (chV cE):=by
 obtain⟨c,rfl,h⟩:=h
 refine Gh (d:=6) ?_
 rw[aLI,h.fz (d:=4) fun _=>rfl]
 rfl
theorem CG.seen {cE:List (List ByteArray)} {lo hi:Nat} {H:aA} {v:VV} (h:CG cE lo hi H v):Jq (chV cE) lo hi H v:=fun _ hk=>(h.dB hk).fz
def SvG (s:tA) (lo hi:Nat) (H:aA) (v:VV):Prop:=∃a b c m1 m2,v = .agg [a,b,c]∧lo≤m1∧m1≤m2∧m2≤hi∧WU sV 1 s.b lo m1 H a∧RG sV 1 s.g m1 m2 H b∧WU sV 1 s.e m2 hi H c
theorem SvG.dB {s:tA}:∀ {lo hi H H' v},SvG s lo hi H v→jT lo hi H H'→SvG s lo hi H' v:=by
 rintro lo hi H H' v ⟨a,b,c,m1,m2,h1,k1,k2,k3,h2,h3,h4⟩ hk
 exact⟨a,b,c,m1,m2,h1,k1,k2,k3,h2.dB (hk.sub (by omega) (by omega)),h3.dB (hk.sub (by omega) (by omega)),h4.dB (hk.sub (by omega) (by omega))⟩
theorem ayR {s:tA} {l1 h1 l2 h2 l3 h3:Nat} {H:aA} {a b c:VV} (ha:WU sV 1 s.b l1 h1 H a) (hb:RG sV 1 s.g l2 h2 H b) (hc:WU sV 1 s.e l3 h3 H c):PM.fz depth H (.agg [a,b,c])=some (tR s):=by
 refine Gh (d:=6) ?_
 rw[aLI,ha.fz (d:=5) fun _=>rfl]
 rw[aLI,hb.fz (d:=4) fun _=>rfl]
 rw[aLI,hc.fz (d:=5) fun _=>rfl]
 rfl
theorem SvG.fz {s:tA} {lo hi:Nat} {H:aA} {v:VV} (h:SvG s lo hi H v):PM.fz depth H v=some (tR s):=by
 obtain⟨a,b,c,m1,m2,rfl,k1,k2,k3,h2,h3,h4⟩:=h
 exact ayR h2 h3 h4
theorem SvG.seen {s:tA} {lo hi:Nat} {H:aA} {v:VV} (h:SvG s lo hi H v):Jq (tR s) lo hi H v:=fun _ hk=>(h.dB hk).fz
theorem WU.seen {cE:List ByteArray} {lo hi:Nat} {H:aA} {v:VV} (h:WU sV 1 cE lo hi H v):Jq (gB cE) lo hi H v:=fun _ hk=>(h.dB hk).fz (d:=6) fun _=>rfl
end Go.PM
namespace Go.PM
structure Lin where
 u:List ByteArray
 d:List ByteArray
 deriving Inhabited
end Go.PM
namespace Go.Proofs.YtjmflicajplclaaGreatDoor
open Go.ChangeShapes Go.WideShapes Go.ChangeAt Go.RowKit Go.PM
set_option maxRecDepth 100000 in
theorem adB {T:Type} {uA:TypeId×Value→T} {W:World} {v:Value} {d:DataW T} {ps:List MemPlace} {base:Nat} (hv:Value.okWide Tryz.prog W .any base 9 v) (h:DataW.Trod uA Tryz.prog W 0 (fun _=>true) true 9 v d ps) :
 ∃s:ByteArray,v = .string s∧d = .lit (.string s.data.toList)∧ps=[]∧s.size≤maxLen:=Go.ChangeMaps.open_string Tryz.underlying9 hv h
end Go.Proofs.YtjmflicajplclaaGreatDoor
namespace Go.Proofs.YtjmflicajplclaaGreatDoor
open Go.ChangeShapes Go.WideShapes Go.ChangeAt Go.RowKit Go.PM
theorem ajT {T α:Type} {uA:TypeId×Value→T} {f:α→VV} {P:Program} {W:World} {t e:TypeId} {V:View} {s:List α} {pv v:Value} {m:dL} {d:DataW T} {ps:List MemPlace} {fuel:Nat} (ht:P.underlying t=some (.slice e))
  (hf:DataW.trod uA P W 0 (fun _=>true) true fuel t [v]=some (d,ps)) (hR:RV m pv v) (hT:VR V (aC f s) pv):∃c,s.length≤c∧(c=0∨∃el sp,d = .slice el sp∧el.length+sp.length=c):=by
 have key:∀a n c,v = .slice a n c→s.length≤c:=by
  rintro a n c rfl
  generalize hx:aC f s=x at hT
  cases hT with
  |
   oS k hk =>
   injection hx with h1
   have h2:s=[]:=by simpa using h1
   rw[h2]
   exact aKP _
  |
   tree es k b o c' r e' p hF hb ho hc' he hk hl =>
   injection hx with h1 h2
   have EZ:es.length=s.length:=by rw[←h1,aL2]
   cases hR with
   | slice _ _ _ _ l ra rc hh hn Sp hxx haa=>omega
  | _=>cases hx
 rcases DataW.trod_slice ht hf with⟨h1,_⟩ | ⟨a',len,cap,elems,rest,k,_,h1,hd,_,hl,hm,hlen,hE,hR',_⟩
 ·injection h1 with h1 _
  exact⟨0,key _ _ _ h1,.inl rfl⟩
 ·injection h1 with h1 _
  obtain⟨AU,_⟩:=hR' rfl
  exact⟨cap,key _ _ _ h1,.inr ⟨_,_,congrArg Prod.fst hd,by simp[hlen,AU];omega⟩⟩
set_option maxRecDepth 100000 in
theorem aqW {T:Type} {uA:TypeId×Value→T} {W:World} {V:View} {s:tA} {pv v:Value} {m:dL} {d:DataW T} {ps:List MemPlace} {base:Nat} (hv:Value.okWide Tryz.prog W .any base 57 v)
  (h:DataW.Trod uA Tryz.prog W 0 (fun _=>true) true 57 v d ps) (hR:RV m pv v) (hT:VR V (tR s) pv):∃d0 dr c,d = .agg (d0::dr)∧s.b.length≤c∧(c=0∨∃el sp,d0 = .slice el sp∧el.length+sp.length=c):=by
 obtain⟨cs,rfl,MD⟩:=okWide_struct Tryz.underlying57 hv
 have h3:Tryz.prog.cellsOf 57=3:=by kernel_rfl
 have h1:Tryz.prog.cellsOf 33=1:=by kernel_rfl
 rw[h3] at MD
 obtain⟨fuel,hf⟩:=h
 have e:(Value.agg cs).cells.toList=cs.toList:=rfl
 rw[e] at hf
 obtain⟨y0,y1,y2,n,hd,_,k0,_,_⟩:=Go.Deep.trod_struct3 Tryz.underlying57 hf
 have hd:=congrArg Prod.fst hd
 simp only at hd
 have hc0:cs[0]? = some (cs.getD 0 Go.undef):=by rw[Array.getD_eq_getD_getElem?,Array.getElem?_eq_getElem (by omega)];rfl
 have k0:DataW.trod uA Tryz.prog W 0 (fun _=>true) true n 33 [cs.getD 0 Go.undef]=some (y0.1,y0.2):=by
  have e2:(cs.toList.drop 0).take (Tryz.prog.cellsOf 33)=[cs.getD 0 Go.undef]:=by
   rw[h1,aLx]
   match hl:cs.toList with
   | []=>have:=congrArg aNu hl;rw[aNy,MD] at this;cases this
   |
    a::r =>
    have:cs[0]? = some a:=by rw[←Array.getElem?_toList,hl];rfl
    rw[hc0] at this
    rw[aK8,aNz]
    exact congrArg (fun x=>[x]) (Option.some.inj this).symm
  exact(congrArg _ e2).symm.trans k0
 generalize hx:tR s=x at hT
 cases hT with
 |
  agg xs qs hL =>
  cases hx
  cases hL with
  |
   cons _ _ _ qr hq hr =>
   cases hR with
   |
    agg _ _ _ hR2 =>
    have r0:=hR2 0 (by simp)
    obtain⟨c,c1,c2⟩:=ajT (s:=s.b) Tryz.underlying33 k0 r0 hq
    exact⟨_,_,c,hd,c1,c2⟩
 | _=>cases hx
set_option maxRecDepth 100000 in
theorem asL {T:Type} {ts:List TypeId} {ds:List (DataW T)} (h:(DataW.weightsEach Tryz.prog ts ds).all (· ≤ reachBytes)=true) {j:Nat} {d d0:DataW T} {dr:List (DataW T)} {c:Nat} (hc:c=0∨∃el sp,d0 = .slice el sp∧el.length+sp.length=c) (ES:d = .agg (d0::dr))
  (ht:ts[j]? = some 57) (hd:ds[j]? = some d):c≤140737488355328:=by
 rcases hc with rfl | ⟨el,sp,rfl,rfl⟩
 ·omega
 ·subst ES
  have h1:=aKz.1 h _ (DataW.weights_mem_each ht hd ((el.length+sp.length)*Tryz.prog.bytesOf 9) (by
   simp only[DataW.weights,Tryz.underlying57]
   show _∈DataW.weights Tryz.prog 33 _++_
   simp only[DataW.weights,Tryz.underlying33]
   simp))
  have h2:reachBytes<2^47:=reachBytes_lt
  have h3:Tryz.prog.bytesOf 9=16:=by kernel_rfl
  rw[h3] at h1
  have h4:(el.length+sp.length)*16≤reachBytes:=by simpa using h1
  omega
end Go.Proofs.YtjmflicajplclaaGreatDoor
namespace Go.PM
def Sg (f:Nat→Rat):Nat→Rat
 | 0=>0
 | n+1=>Sg f n+f n
theorem iT {f g:Nat→Rat}:∀ {n:Nat},(∀i,i<n→f i=g i)→Sg f n=Sg g n
 | 0,_=>rfl
 | n+1,h=>by rw[Sg,Sg,iT fun i hi=>h i (by omega),h n (by omega)]
theorem Nz {f:Nat→Rat} {n:Nat} (h:∀i,i<n→f i=0):Sg f n=0:=by
 induction n with
 | zero=>rfl
 | succ n ih=>rw[Sg,ih fun i hi=>h i (by omega),h n (by omega)];grind
theorem amH (f g:Nat→Rat) (n:Nat):Sg (fun i=>f i+g i) n=Sg f n+Sg g n:=by
 induction n with
 | zero=>simp only[Sg];grind
 | succ n ih=>simp only[Sg,ih];grind
theorem Ll (c:Rat) (f:Nat→Rat) (n:Nat):Sg (fun i=>c*f i) n=c*Sg f n:=by
 induction n with
 | zero=>simp only[Sg];grind
 | succ n ih=>simp only[Sg,ih];grind
theorem SQ (f g:Nat→Rat) (n:Nat):Sg (fun i=>f i-g i) n=Sg f n-Sg g n:=by
 induction n with
 | zero=>simp only[Sg];grind
 | succ n ih=>simp only[Sg,ih];grind
theorem NT {f:Nat→Rat} {n k:Nat} (hk:k<n) (h:∀i,i<n→i≠k→f i=0):Sg f n=f k:=by
 induction n with
 | zero=>omega
 |
  succ n ih =>
  rw[Sg]
  by_cases TH:k=n
  ·subst TH
   rw[Nz fun i hi=>h i (by omega) (by omega)]
   grind
  ·rw[ih (by omega) fun i hi=>h i (by omega),h n (by omega) (by omega)]
   grind
theorem atI {f:Nat→Rat} {n k:Nat} (hk:k<n) (h:∀i,k<i→i<n→f i=0):Sg f n=Sg f k+f k:=by
 induction n with
 | zero=>omega
 |
  succ n ih =>
  by_cases TH:k=n
  ·subst TH;rfl
  ·rw[Sg,ih (by omega) fun i hi hn=>h i hi (by omega),h n (by omega) (by omega)]
   grind
theorem Rs {f:Nat→Rat} {n:Nat} (h:∀i,i<n→0≤f i):0≤Sg f n:=by
 induction n with
 | zero=>exact Rat.le_refl
 |
  succ n ih =>
  have h1:=ih fun i hi=>h i (by omega)
  have h2:=h n (by omega)
  rw[Sg];grind
theorem arF (F:Nat→Nat→Rat) (n m:Nat):Sg (fun i=>Sg (F i) m) n=Sg (fun j=>Sg (fun i=>F i j) n) m:=by
 induction n with
 | zero=>simp only[Sg];rw[Nz];intros;rfl
 | succ n ih=>simp only[Sg,ih];rw[amH]
def fJ (n:Nat) (A:Nat→Nat→Rat) (b x:Nat→Rat):Prop:=∀i,i<n→Sg (fun j=>A i j*x j) n=b i
def BM (n:Nat) (A:Nat→Nat→Rat):Prop:=∀x,fJ n A (fun _=>0) x→∀j,j<n→x j=0
theorem BM.uniq {n:Nat} {A:Nat→Nat→Rat} {b x y:Nat→Rat} (h:BM n A) (hx:fJ n A b x) (hy:fJ n A b y):∀j,j<n→x j=y j:=by
 intro j hj
 have:=h (fun j=>x j-y j) (fun i hi=>by
  have e:Sg (fun j=>A i j*(x j-y j)) n=Sg (fun j=>A i j*x j) n-Sg (fun j=>A i j*y j) n:=by
   rw[←SQ]
   exact iT fun j _=>by grind
  rw[e,hx i hi,hy i hi]
  grind) j hj
 grind
def G4 (c:Nat→Rat) (k:Nat) (A:Nat→Nat→Rat):Nat→Nat→Rat:=fun i j=>A i j-c i*A k j
def TF (c:Nat→Rat) (k:Nat) (b:Nat→Rat):Nat→Rat:=fun i=>b i-c i*b k
theorem DN {n k:Nat} {A:Nat→Nat→Rat} {b x c:Nat→Rat} (hk:k<n) (hc:c k=0):fJ n (G4 c k A) (TF c k b) x↔fJ n A b x:=by
 have e:∀i,Sg (fun j=>G4 c k A i j*x j) n=Sg (fun j=>A i j*x j) n-c i*Sg (fun j=>A k j*x j) n:=by
  intro i
  rw[←Ll,←SQ]
  exact iT fun j _=>by unfold G4;grind
 constructor
 ·intro h
  have hk':=h k hk
  rw[e] at hk'
  unfold TF at hk'
  rw[hc] at hk'
  intro i hi
  have:=h i hi
  rw[e] at this
  unfold TF at this
  grind
 ·intro h i hi
  rw[e,h i hi,h k hk]
  rfl
theorem OF {n k:Nat} {A:Nat→Nat→Rat} {c:Nat→Rat} (hk:k<n) (hc:c k=0) (h:BM n A):BM n (G4 c k A):=by
 intro x hx
 refine h x ((DN (b:=fun _=>0) hk hc).1 fun i hi => ?_)
 rw[hx i hi]
 unfold TF
 grind
def swp {α:Type} (k m:Nat) (A:Nat→α):Nat→α:=fun i=>if i=k then A m else if i=m then A k else A i
theorem DD {n k m:Nat} {A:Nat→Nat→Rat} {b x:Nat→Rat} (hk:k<n) (hm:m<n):fJ n (swp k m A) (swp k m b) x↔fJ n A b x:=by
 constructor
 ·intro h i hi
  by_cases h1:i=k
  ·subst h1
   have:=h m hm
   unfold swp at this
   by_cases h2:m=i
   ·subst h2;simpa using this
   ·simpa[h2] using this
  ·by_cases h2:i=m
   ·subst h2
    have:=h k hk
    unfold swp at this
    simpa using this
   ·have:=h i hi
    unfold swp at this
    simpa[h1,h2] using this
 ·intro h i hi
  unfold swp
  by_cases h1:i=k
  ·subst h1
   simpa using h m hm
  ·by_cases h2:i=m
   ·subst h2
    simpa[h1] using h k hk
   ·simpa[h1,h2] using h i hi
theorem Pc {n k m:Nat} {A:Nat→Nat→Rat} (hk:k<n) (hm:m<n) (h:BM n A):BM n (swp k m A):=by
 intro x hx
 refine h x ((DD (b:=fun _=>0) hk hm).1 fun i hi => ?_)
 rw[hx i hi]
 unfold swp
 split<;>(try split)<;>rfl
def BC (n k:Nat) (A:Nat→Nat→Rat):Prop:=(∀i j,i<n→j<k→j<i→A i j=0)∧∀j,j<k→A j j≠0
theorem BC.solve {k:Nat} {A:Nat→Nat→Rat}:∀ {m:Nat},m≤k→BC k k A→∀b:Nat→Rat,(∀i,m≤i→b i=0)→∃x:Nat→Rat,(∀i,m≤i→x i=0)∧fJ k A b x
 | 0,_,_,b,hb=>⟨fun _=>0,fun _ _=>rfl,fun i _=>by rw[Nz fun j _=>by grind,hb i (aKP _)]⟩
 |
  m+1,hm,hU,b,hb=>by
  let t:=b m / A m m
  obtain⟨x,Q7,hx⟩:=BC.solve (m:=m) (by omega) hU (fun i=>if i<m then b i-A i m*t else 0) (fun i hi=>if_neg (by omega))
  refine⟨fun i=>if i=m then t else x i,fun i hi => ?_,fun i hi => ?_⟩
  ·simp only[]
   rw[if_neg (by omega)]
   exact Q7 i (by omega)
  ·have e:Sg (fun j=>A i j*(if j=m then t else x j)) k=Sg (fun j=>A i j*x j) k+A i m*t:=by
    have e1:Sg (fun j=>if j=m then A i m*t else 0) k=A i m*t:=by
     rw[NT (k:=m) (by omega) fun j _ hj=>if_neg hj,if_pos rfl]
    rw[←e1,←amH]
    refine iT fun j _ => ?_
    by_cases hj:j=m
    ·subst hj
     rw[if_pos rfl,if_pos rfl,Q7 j (aKl _)]
     grind
    ·rw[if_neg hj,if_neg hj]
     grind
   rw[e,hx i hi]
   simp only[]
   have hmm:=hU.2 m (by omega)
   by_cases h1:i<m
   ·rw[if_pos h1];grind
   ·rw[if_neg h1]
    by_cases h2:i=m
    ·subst h2
     show 0+A i i*(b i / A i i)=b i
     grind
    ·rw[hU.1 i m hi (by omega) (by omega),hb i (by omega)]
     grind
theorem BM.aiT {n k:Nat} {A:Nat→Nat→Rat} (hF:BM n A) (hk:k<n) (hU:BC n k A):∃m,k≤m∧m<n∧A m k≠0:=by
 apply Classical.byContradiction
 intro hno
 have hz:∀m,k≤m→m<n→A m k=0:=fun m h1 h2=>Classical.byContradiction fun h=>hno ⟨m,h1,h2,h⟩
 have hU':BC k k A:=⟨fun i j hi hj=>hU.1 i j (by omega) hj,hU.2⟩
 obtain⟨x,Q7,hx⟩:=hU'.solve (m:=k) (aKl _) (fun i=>if i<k then-A i k else 0) (fun i hi=>if_neg (by omega))
 have:=hF (fun j=>if j=k then 1 else x j) (fun i hi=>by
  have e:Sg (fun j=>A i j*(if j=k then 1 else x j)) n=Sg (fun j=>A i j*x j) k+A i k:=by
   rw[atI hk fun j h1 h2=>by rw[if_neg (by omega),Q7 j (by omega)];grind]
   rw[if_pos rfl,iT (g:=fun j=>A i j*x j) fun j hj=>by rw[if_neg (by omega)]]
   grind
  rw[e]
  by_cases Wp:i<k
  ·rw[hx i Wp];simp only[];rw[if_pos Wp];grind
  ·rw[hz i (by omega) hi,Nz fun j hj=>by rw[hU.1 i j hi hj (by omega)];grind]
   grind) k hk
 rw[if_pos rfl] at this
 exact absurd this (by decide)
theorem BC.step {n k:Nat} {A:Nat→Nat→Rat} (hU:BC n k A) (Su:A k k≠0) (hk:k<n):BC n (k+1) (G4 (fun i=>if k<i then A i k / A k k else 0) k A):=by
 refine⟨fun i j hi hj DV => ?_,fun j hj => ?_⟩
 ·unfold G4
  by_cases WM:j=k
  ·subst WM
   simp only[]
   rw[if_pos DV]
   grind
  ·rw[hU.1 i j hi (by omega) DV,hU.1 k j hk (by omega) (by omega)]
   grind
 ·unfold G4
  by_cases WM:j=k
  ·subst WM
   simp only[]
   rw[if_neg (by omega)]
   grind
  ·simp only[]
   rw[if_neg (by omega)]
   have:=hU.2 j (by omega)
   grind
theorem BC.swp {n k m:Nat} {A:Nat→Nat→Rat} (hU:BC n k A) (hk:k≤m) (hm:m<n):BC n k (swp k m A):=by
 refine⟨fun i j hi hj DV => ?_,fun j hj => ?_⟩
 ·unfold Go.PM.swp
  split
  ·exact hU.1 m j hm hj (by omega)
  ·split
   ·exact hU.1 k j (by omega) hj (by omega)
   ·exact hU.1 i j hi hj DV
 ·unfold Go.PM.swp
  rw[if_neg (by omega),if_neg (by omega)]
  exact hU.2 j hj
def MS (n k:Nat) (A:Nat→Nat→Rat):Prop:=(∀i j,i<n→j<k→i≠j→A i j=0)∧∀j,j<k→A j j≠0
theorem MS.upper {n k:Nat} {A:Nat→Nat→Rat} (h:MS n k A):BC n k A:=⟨fun i j hi hj DV=>h.1 i j hi hj (by omega),h.2⟩
theorem MS.step {n k:Nat} {A:Nat→Nat→Rat} (hU:MS n k A) (Su:A k k≠0) (hk:k<n):MS n (k+1) (G4 (fun i=>if i=k then 0 else A i k / A k k) k A):=by
 refine⟨fun i j hi hj DV => ?_,fun j hj => ?_⟩
 ·unfold G4
  by_cases WM:j=k
  ·subst WM
   simp only[]
   rw[if_neg DV]
   grind
  ·rw[hU.1 i j hi (by omega) DV,hU.1 k j hk (by omega) (by omega)]
   grind
 ·unfold G4
  by_cases WM:j=k
  ·subst WM
   simp only[]
   rw[if_pos trivial]
   grind
  ·simp only[]
   rw[if_neg WM,hU.1 k j hk (by omega) (by omega)]
   have:=hU.2 j (by omega)
   grind
theorem MS.swp {n k m:Nat} {A:Nat→Nat→Rat} (hU:MS n k A) (hk:k≤m) (hm:m<n):MS n k (swp k m A):=by
 refine⟨fun i j hi hj DV => ?_,fun j hj => ?_⟩
 ·unfold Go.PM.swp
  split
  ·exact hU.1 m j hm hj (by omega)
  ·split
   ·exact hU.1 k j (by omega) hj (by omega)
   ·exact hU.1 i j hi hj DV
 ·unfold Go.PM.swp
  rw[if_neg (by omega),if_neg (by omega)]
  exact hU.2 j hj
theorem MS.ahF {n:Nat} {A:Nat→Nat→Rat} (hU:MS n n A) (b:Nat→Rat):fJ n A b fun i=>b i / A i i:=by
 intro i hi
 rw[NT hi fun j hj DV=>by rw[hU.1 i j hi hj (Ne.symm DV)];grind]
 have:=hU.2 i hi
 grind
theorem BC.back {n k:Nat} {A:Nat→Nat→Rat} {b x:Nat→Rat} (hU:BC n n A) (hx:fJ n A b x) (hk:k<n):x k=(b k-(Sg (fun j=>A k j*x j) n-Sg (fun j=>A k j*x j) (k+1))) / A k k:=by
 have h1:=hx k hk
 have h2:Sg (fun j=>A k j*x j) (k+1)=A k k*x k:=by
  rw[NT (k:=k) (by omega) fun j hj WM=>by rw[hU.1 k j hk (by omega) (by omega)];grind]
 have:=hU.2 k hk
 rw[h1,h2]
 grind
end Go.PM
namespace Go.PM
section
variable {α:Type} {f:α→VV} {e:Nat}
structure Rd (f:α→VV) (e:Nat) (xs:List α) (H:aA) (v:VV):Prop where
 len:∀H',H <+: H'→rC v H'=some (VI xs.length)
 get:∀H',H <+: H'→∀(i:Nat) x,xs[i]? = some x→∃p,bJ e v (VI i) H'=some p∧∀ag,bI ag e p H'=dP ag e (f x) 0
 cell:aB v=[v]∧bL v=true∧isAny v=false
theorem Rd.pre {xs:List α} {H H':aA} {v:VV} (h:Rd f e xs H v) (hh:H <+: H'):Rd f e xs H' v:=⟨fun H2 h2=>h.len H2 (hh.trans h2),fun H2 h2=>h.get H2 (hh.trans h2),h.cell⟩
theorem Rd.tree {xs:List α} {H:aA} {t:TK} (hs:∀x,(aB (f x)).length=e):Rd f e xs H (.tree (xs.map f) t) :=
 ⟨fun _ _=>eR,fun _ _ i x hx=>⟨_,aI hx (hs x),fun ag=>Nr⟩,rfl,rfl,rfl⟩
theorem Rd.row {xs:List α} {H:aA} {b g n c:Nat} {w:Bool} (h:aG H b g=some (xs.map f,e,w)) (hn:n=xs.length):Rd f e xs H (.ref b g 0 n c):=by
 subst hn
 refine⟨fun H' hh=>eK (cR hh h),fun H' hh i x hx => ?_,rfl,rfl,rfl⟩
 have hi:=(aKk.1 hx).1
 have e1:=bA (o:=0) (n:=xs.length) (c:=c) (i:=i) (k := .i64) (cR hh h) hi
 rw[aLT] at e1
 exact⟨_,e1,fun ag=>pW (f:=f) (cR hh h) hx⟩
structure MG (f:α→VV) (e lo hi b g:Nat) (H:aA) (rs:List (Ck α)):Prop where
 out:aG H b g=some (rs.map tU,1,true)
 blo:lo≤b
 bhi:b<hi
 rows:Zi f e lo hi b H rs
variable {lo hi b g:Nat} {H H':aA} {rs:List (Ck α)}
theorem MG.dB (h:MG f e lo hi b g H rs) (hk:jT lo hi H H'):MG f e lo hi b g H' rs :=
 ⟨hk _ _ _ h.blo h.bhi h.out,h.blo,h.bhi,h.rows.nd,fun r hr=>by
  obtain⟨k1,k2,k3,k4,k5⟩:=h.rows.row r hr
  exact⟨k1,k2,k3,k4,hk _ _ _ k1 k2 k5⟩⟩
theorem MG.pre (h:MG f e lo hi b g H rs) (hh:H <+: H'):MG f e lo hi b g H' rs:=h.dB (jT.pre hh)
theorem MG.len {n c:Nat} (h:MG f e lo hi b g H rs):rC (.ref b g 0 n c) H=some (VI n):=eK h.out
theorem MG.addr {i n c:Nat} (h:MG f e lo hi b g H rs) (hi:i<n):bJ 1 (.ref b g 0 n c) (VI i) H=some (.ptr b g i 0):=by
 have:=bA (o:=0) (n:=n) (c:=c) (i:=i) (k := .i64) h.out hi
 rwa [aLT] at this
theorem MG.cell {i:Nat} {r:Ck α} (h:MG f e lo hi b g H rs) (hr:rs[i]? = some r):bI false 1 (.ptr b g i 0) H=some (.ref r.b r.g 0 r.xs.length r.c):=by
 rw[pW (f:=tU) h.out hr]
 rfl
theorem MG.row {i:Nat} {r:Ck α} (h:MG f e lo hi b g H rs) (hr:rs[i]? = some r):aG H r.b r.g=some (r.xs.map f,e,true):=(h.rows.row r (aLf hr)).2.2.2.2
theorem MG.at {i j n c:Nat} {r:Ck α} (h:MG f e lo hi b g H rs) (hr:rs[i]? = some r) (hj:j<n):bJ e (.ref r.b r.g 0 n c) (VI j) H=some (.ptr r.b r.g j 0):=by
 have:=bA (o:=0) (n:=n) (c:=c) (i:=j) (k := .i64) (h.row hr) hj
 rwa [aLT] at this
theorem MG.get {i j:Nat} {ag:Bool} {r:Ck α} {x:α} (h:MG f e lo hi b g H rs) (hr:rs[i]? = some r) (hx:r.xs[j]? = some x):bI ag e (.ptr r.b r.g j 0) H=dP ag e (f x) 0:=pW (f:=f) (h.row hr) hx
theorem MG.inj {i j:Nat} {r s:Ck α} (h:MG f e lo hi b g H rs) (hr:rs[i]? = some r) (hs:rs[j]? = some s) (he:r.b=s.b):i=j:=by
 have h1:(rs.map (·.b))[i]? = some r.b:=by simp[hr]
 have h2:(rs.map (·.b))[j]? = some r.b:=by simp[hs,he]
 exact aiJ h.rows.nd h1 h2
theorem NG {β γ:Type} {F:β→γ} {l:List β} {i:Nat} {x y:β} (hx:l[i]? = some x) (he:F y=F x):(l.set i y).map F=l.map F:=by
 apply List.ext_getElem?
 intro j
 rw[List.getElem?_map,List.getElem?_map,List.getElem?_set]
 split
 ·rename_i Qo
  subst Qo
  split
  ·rw[hx,aLG,aLG,he]
  ·rename_i hn
   rw[(List.getElem?_eq_none (by omega))] at hx
   cases hx
 ·rfl
theorem MG.set {i:Nat} {r:Ck α} {ys:List α} (h:MG f e lo hi b g H rs) (hr:rs[i]? = some r) (hl:ys.length=r.xs.length):MG f e lo hi b g (H.set r.b (.row r.g (ys.map f) e true)) (rs.set i { r with xs:=ys }):=by
 have MB:=h.rows.row r (aLf hr)
 refine⟨?_,h.blo,h.bhi,?_,fun s hs => ?_⟩
 ·rw[NG hr (by simp[tU,hl])]
  exact bC MB.2.2.1 h.out
 ·rw[NG (F:=fun r:Ck α=>r.b) (y:={ r with xs:=ys }) hr rfl]
  exact h.rows.nd
 ·obtain⟨j,hj⟩:=aMh hs
  rw[List.getElem?_set] at hj
  split at hj
  ·rename_i Qo
   split at hj
   ·cases hj
    exact⟨MB.1,MB.2.1,MB.2.2.1,by rw[hl];exact MB.2.2.2.1,cA MB.2.2.2.2⟩
   ·cases hj
  ·rename_i Qo
   have hsm:=h.rows.row s (aLf hj)
   exact⟨hsm.1,hsm.2.1,hsm.2.2.1,hsm.2.2.2.1,bC (fun he=>Qo (h.inj hr hj he)) hsm.2.2.2.2⟩
theorem MG.put {i j fZ:Nat} {r:Ck α} {y:α} (h:MG f e lo hi b g H rs) (hr:rs[i]? = some r) (hj:j<r.xs.length) (dQ:fZ≤lo) (hv:(aB (f y)).length=e) (hs:(aB (f y)).all bL=true) :
  bK fZ e (.ptr r.b r.g j 0) (f y) H=some (H.set r.b (.row r.g ((r.xs.set j y).map f) e true)) :=
 dN (f:=f) (h.row hr) hj (aKm dQ (h.rows.row r (aLf hr)).1) hv hs
theorem MG.lt {i:Nat} {r:Ck α} (h:MG f e lo hi b g H rs) (hr:rs[i]? = some r):lo≤r.b∧r.b<hi∧r.b<H.length:=⟨(h.rows.row r (aLf hr)).1,(h.rows.row r (aLf hr)).2.1,kW (h.row hr)⟩
theorem MG.cE {c:Nat} (h:MG f e lo hi b g H rs) (hc:rs.length≤c):RG f e (rs.map (·.xs)) lo hi H (.ref b g 0 rs.length c) := .inr ⟨b,g,c,rs,h.blo,h.bhi,by rw[aL2],by rw[aL2];exact hc,h.out,rfl,h.rows⟩
theorem MG.fz {d c:Nat} (h:MG f e lo hi b g H rs) (hc:rs.length≤c) (hp:∀x,aX (f x)=true):PM.fz (d+3) H (.ref b g 0 rs.length c)=some (aC (aC f) (rs.map (·.xs))):=ZI hp h.out hc h.rows
theorem MG.wide {fZ qM:Nat} (h:MG f e lo hi b g H rs) (hl:fZ≤lo) (hh:hi≤qM):MG f e fZ qM b g H rs:=⟨h.out,by have:=h.blo;omega,by have:=h.bhi;omega,h.rows.nd,fun r hr=>by
 obtain⟨k1,k2,k3,k4,k5⟩:=h.rows.row r hr
 exact⟨by omega,by omega,k3,k4,k5⟩⟩
end
theorem eH:type_of% (aL1 @uT<|aL1 @rH<|aL1 @oT.eq_1<|aL1 @sK.eq_1<|aL1 @sK.eq_2<|aL1 @F3.eq_1<|aL1 @F3.eq_2<|aL1 @A7.eq_1<|aL1 @A7.eq_2<|aL1 @I7<|aL1 @DI<|aL1 @Gf<|aL1 @Gp<|aL1 @aNz.{0}<|aL1 @aK8.{0}<|aL1 @List.take_nil.{0}<|aL1 @aLx.{0}<|aL1 @aL6.{0}<|aL1 @List.drop_nil.{0}<|aL1 @aLt.{0} <| @aKl):=aL1 @uT<|aL1 @rH<|aL1 @oT.eq_1<|aL1 @sK.eq_1<|aL1 @sK.eq_2<|aL1 @F3.eq_1<|aL1 @F3.eq_2<|aL1 @A7.eq_1<|aL1 @A7.eq_2<|aL1 @I7<|aL1 @DI<|aL1 @Gf<|aL1 @Gp<|aL1 @aNz.{0}<|aL1 @aK8.{0}<|aL1 @List.take_nil.{0}<|aL1 @aLx.{0}<|aL1 @aL6.{0}<|aL1 @List.drop_nil.{0}<|aL1 @aLt.{0} <| @aKl
def Rr (P:Nat→Nat→aA→VV→Prop) (H:aA) (r:VV) (H':aA):Prop:=H <+: H'∧P H.length H'.length H' r
theorem rR {F lo:Nat} {args:List VV} {P:Nat→Nat→aA→VV→Prop} {H:aA} {K:VV→aA→Prop} (Ci:Fm.contains F=true) (h:jA F args lo H (Rr P H)) (hk:∀r L,P H.length (H++L).length (H++L) r→K r (H++L)):dH F args lo H K:=by
 refine fS Ci (h.mono ?_)
 rintro r H' ⟨⟨L,rfl⟩,hP⟩
 exact hk r L hP
end Go.PM
namespace Go.PM
open Go.Lib
abbrev cell0:fK := .row 0 [.agg [VB false,.tree [] .nil,.tree [] .nil]] 3 true
def dO (qs:List Rat):Rat:=qs.foldl (· + ·) 0
theorem Ds {qs:List Rat} {i:Nat} {q:Rat} (h:qs[i]? = some q):dO (qs.take (i+1))=dO (qs.take i)+q:=by
 rw[sG h,dO,List.foldl_append];rfl
theorem QD {B:Nat}:∀ {qs:List Rat},(∀q∈qs,aM q≤B)→∀a:Rat,aM (qs.foldl (· + ·) a)≤qs.length*(B+1)+aM a
 | [],_,a=>by simp
 |
  q::qs,h,a=>by
  have h1:=QD (fun x hx=>h x (List.mem_cons_of_mem _ hx)) (a+q)
  have h2:=yE a q
  have h3:=h q List.mem_cons_self
  rw[List.foldl_cons,aKv,Nat.succ_mul]
  omega
theorem AP {B:Nat} {qs:List Rat} (h:∀q∈qs,aM q≤B) (i:Nat):aM (dO (qs.take i))≤qs.length*(B+1)+1:=by
 have h1:=QD (qs:=qs.take i) (fun q hq=>h q (aLi hq)) 0
 have h2:(qs.take i).length*(B+1)≤qs.length*(B+1):=aKM _ (by rw[aLU];omega)
 rw[vB] at h1
 unfold dO
 omega
set_option maxHeartbeats 1000000 in
abbrev rz:VV := .agg [VB false,.tree [] .nil,.tree [] .nil]
theorem nX {H H1:aA} {b:Nat} {x:fK} (h:H <+: H1) (hb:H.length≤b):H <+: H1.set b x:=by
 obtain⟨L,rfl⟩:=h
 rw[List.set_append_right _ _ hb]
 exact aMg _ _
theorem Fb {H H1 L:aA} (h:H <+: H1):H <+: H1++L:=h.trans (aMg _ _)
theorem J0 {lo:Nat} {H:aA} {q:Rat} (h:lo≤H.length):bK lo 3 (.ptr H.length 0 0 0) (aF q) (H++[cell0])=some (H++[.row 0 [aF q] 3 true]):=by
 rw[bR (g:=0) (e:=3) (j:=0) kD (by exact aNA) h rfl rfl,Oa]
 rfl
theorem Y9 {H K:aA} {q:Rat}:bI true 3 (.ptr H.length 0 0 0) (H ++ .row 0 [aF q] 3 true::K)=some (aF q):=by
 rw[bS,BS,aT]
 exact bH _
theorem OR {lo:Nat} {H:aA} {v:VV} (qs:List Rat) {B:Nat} (hv:Rd aF 3 qs H v) (dQ:lo≤H.length) (hb:∀q∈qs,aM q≤B) (hk:qs.length*(B+1)+1≤1099511627776) (hB:B≤1099511627776) (hn:qs.length≤1000000000) :
  jA 70 [v] lo H (Rr (fun _ _ _ r=>r=aF (dO qs)) H):=by
 refine jA.walk ⟨true,false⟩ Yo (aL9 rfl) ?_
 have e1:TC 64 [VI 0] (aF 0):=wA 0 (by decide) (by decide)
 have e2:=hv.len (H++[cell0,.row 0 [aF 0] 3 true]) (aMg _ _)
 have s0:bK lo 3 (.ptr (H.length+1) 0 0 0) (aF 0) (H++[cell0,cell0])=some (H++[cell0,.row 0 [aF 0] 3 true]):=by
  have:=J0 (lo:=lo) (H:=H++[cell0]) (q:=0) (by rw[aKw];omega)
  simpa only[aKw,aKv,aLY,aLT,aL7,List.cons_append,aLD] using this
 simp only[UI,PN,e1,e2,s0,aKw,aKv,aLY,aL7,List.cons_append,aLD,eH,VX,Nat.reduceEqDiff,Nat.reduceAdd,Nat.reduceLeDiff,Nat.reduceLT,Nat.reduceSub]
 refine aR (fun(i:Nat) ρ H1=>i≤qs.length∧H <+: H1∧aG H1 H.length 0=some ([rz],3,true)∧aG H1 (H.length+1) 0=some ([aF (dO (qs.take i))],3,true)∧ρ 2 = .ptr H.length 0 0 0∧ρ 3 = .ptr (H.length+1) 0 0 0∧ρ 7=v∧ρ 8=VI qs.length∧ρ 9=VI i) (fun i=>qs.length-i) 0 ⟨aKP _,aMg _ _,BS.trans aT,NA.trans (dZ.trans aT),rfl,rfl,rfl,rfl,rfl⟩ ?_
 rintro i ρ H1 ⟨hi,hp,Kd,TD,g2,g3,g7,g8,g9⟩
 have Dw:=kW TD
 by_cases bX:(i:Int)<(qs.length:Int)
 ·obtain⟨q,hq⟩:∃q,qs[i]? = some q:=⟨_,aKs (by omega)⟩
  obtain⟨p,a1,a2⟩:=hv.get H1 hp i q hq
  have a2':=(a2 true).trans (bH _)
  have wi:IntKind.i64.wrap ((i:Int)+1)=((i+1:Nat):Int):=wrapN (i+1) (by omega) (by omega)
  have h1:=AP hb i
  have h2:=hb q (aLf hq)
  have h3:(i+1)*(B+1)≤qs.length*(B+1):=aKM _ (by omega)
  have e3:=oB (dO (qs.take i)) q (by omega) (by omega)
  rw[←Ds hq] at e3
  have s1:=J0 (lo:=lo) (H:=H1) (q:=q) (by omega)
  have s2:=Y9 (H:=H1) (K:=[]) (q:=q)
  have s3:bI true 3 (.ptr (H.length+1) 0 0 0) (H1++[.row 0 [aF q] 3 true])=some (aF (dO (qs.take i))):=by
   rw[bS,gP TD]
   exact bH _
  have s4:=bR (lo:=lo) (v:=aF (dO (qs.take (i+1)))) (j:=0) (gP (L:=[.row 0 [aF q] 3 true]) TD) (by exact aNA) (by omega) rfl rfl
  rw[aLZ] at s4
  simp only[FD,g2,g3,g7,g8,g9,bX,a1,a2',e3,s1,s2,s3,s4,wi,bH,eH,VX,Nat.reduceEqDiff,Nat.reduceAdd,Nat.reduceLeDiff,Nat.reduceLT,Nat.reduceSub]
  exact⟨i+1,by omega,by omega,nX (Fb hp) (by omega),bC (by omega) (gP Kd),cA (gP TD),by (repeat' apply aL1)<;>first | rfl | trivial | assumption⟩
 ·have nC:i=qs.length:=by omega
  subst nC
  rw[aLy] at TD
  have s3:bI true 3 (.ptr (H.length+1) 0 0 0) H1=some (aF (dO qs)):=by
   rw[bS,TD]
   exact bH _
  have s4:=bR (lo:=lo) (v:=aF (dO qs)) (j:=0) Kd (by exact aNA) dQ rfl rfl
  rw[aLZ] at s4
  have s5:bI true 3 (.ptr H.length 0 0 0) (H1.set H.length (.row 0 [aF (dO qs)] 3 true))=some (aF (dO qs)):=by
   rw[bS,cA Kd]
   exact bH _
  simp only[FD,g2,g3,g8,g9,bX,s3,s4,s5,eH,VX,Nat.reduceEqDiff,Nat.reduceAdd,Nat.reduceLeDiff,Nat.reduceLT,Nat.reduceSub]
  exact⟨nX hp (aKl _),rfl⟩
theorem Gq {q:Rat}:iY q<0↔q<0:=by
 have e:q.num<0↔q<0:=by rw[←Int.not_le,Rat.num_nonneg];constructor<;>intro h<;>grind
 rw[←e]
 rcases Int.lt_trichotomy q.num 0 with h | h | h
 ·rw[oY h];omega
 ·rw[kX h];omega
 ·rw[oX h];omega
theorem BG (q:Rat):TC 67 [aF q] (VB (decide (q<0))):=by
 refine TC.walk ⟨true,false⟩ OU rfl (aL9 rfl) (by simp[aO,dW]) rfl ?_
 have e1:=dD q
 by_cases h:iY q<0
 ·rw[decide_eq_true (Gq.1 h)]
  simp only[DC,Bs,e1,h,aK,cK,bH,aZ,aY,aS,fT,Nat.reduceLeDiff,Nat.reduceLT,Nat.reduceSub,nH,cB,cN,gO,lQ,pT,bne_iff_ne,ne_eq,not_false_eq_true,not_true_eq_false,VX,Nat.reduceEqDiff,Nat.reduceAdd]
  exact aH rfl
 ·rw[decide_eq_false (mt Gq.2 h)]
  simp only[DC,Bs,e1,h,aK,cK,bH,aZ,aY,aS,fT,Nat.reduceLeDiff,Nat.reduceLT,Nat.reduceSub,nH,cB,cN,gO,lQ,pT,bne_iff_ne,ne_eq,not_false_eq_true,not_true_eq_false,VX,Nat.reduceEqDiff,Nat.reduceAdd]
  exact aH rfl
theorem DA (xs:List Rat) (g:Nat) (p:Rat→Bool) (hg:∀x∈xs,TC g [aF x] (VB (p x))) (hn:xs.length≤1000000000) :
  ∃k:Int,(0≤k↔xs.any p=true)∧TC 141 [aC aF xs,.wX g []] (VI k):=by
 refine⟨match xs.findIdx? p with | some i=>i | none => -1,?_,?_⟩
 ·cases h:xs.findIdx? p with
  |
   none =>
   rw[aNB] at h
   simp only[List.any_eq_true]
   constructor
   ·intro h';omega
   ·rintro⟨x,hx,hp⟩;rw[h x hx] at hp;cases hp
  |
   some i =>
   simp only[List.any_eq_true]
   obtain⟨hi,hp,_⟩:=aNC.1 h
   exact⟨fun _=>⟨_,List.getElem_mem hi,hp⟩,fun _=>by omega⟩
 ·refine TC.walk ⟨true,false⟩ qX rfl (aL9 rfl) (by simp[aO,gL];rfl) rfl ?_
  simp only[jZ,jH,VX,Nat.reduceEqDiff,Nat.reduceAdd]
  refine aR (fun(i:Nat) ρ H=>i≤xs.length∧H=[]∧(∀j x,j<i→xs[j]? = some x→p x=false)∧ρ 0=aC aF xs∧ρ 1 = .wX g []∧ρ 7=VI xs.length∧ρ 8=VI i) (fun i=>xs.length-i) 0 ⟨aKP _,rfl,fun j x h=>by omega,rfl,rfl,rfl,rfl⟩ ?_
  rintro i ρ H ⟨hi,rfl,jN,h0,h1,h7,h8⟩
  by_cases bX:(i:Int)<(xs.length:Int)
  ·obtain⟨x,hx⟩:∃x,xs[i]? = some x:=⟨_,aKs (by omega)⟩
   have e1:=aI (f:=aF) (t := .op) (H:=[]) (size:=3) (k := .i64) hx rfl
   have wi:IntKind.i64.wrap ((i:Int)+1)=((i+1:Nat):Int):=wrapN (i+1) (by omega) (by omega)
   have e2:=hg x (aLf hx)
   cases hp:p x with
   |
    false =>
    rw[hp] at e2
    simp only[cS,h0,h1,h7,h8,bX,e1,e2,wi,DX,aLt,aK,cK,bH,aZ,aY,aS,VX,Nat.reduceEqDiff,Nat.reduceAdd]
    refine⟨i+1,by omega,by omega,fun j y hj hy => ?_,by (repeat' apply aL1)<;>first | rfl | trivial⟩
    rcases Nat.lt_or_ge j i with DV | DV
    ·exact jN j y DV hy
    ·have:j=i:=by omega
     subst this
     rw[hx] at hy
     injection hy with hy
     exact hy▸hp
   |
    true =>
    rw[hp] at e2
    simp only[cS,h0,h1,h7,h8,bX,e1,e2,wi,DX,aLt,aK,cK,bH,aZ,aY,aS,VX,Nat.reduceEqDiff,Nat.reduceAdd]
    have:xs.findIdx? p=some i:=by
     rw[aNC]
     obtain⟨bF,GY⟩:=aKk.1 hx
     exact⟨bF,by rw[GY];exact hp,fun j hj=>by
      have:=jN j _ hj (aKs (by omega))
      simp[this]⟩
    rw[this]
    exact aH rfl
  ·simp only[cS,h0,h1,h7,h8,bX,VX,Nat.reduceEqDiff,Nat.reduceAdd]
   have:xs.findIdx? p=none:=by
    rw[aNB]
    intro x hx
    obtain⟨j,hj⟩:=aMh hx
    exact jN j x (by have:=(aKk.1 hj).1;omega) hj
   rw[this]
   exact aH rfl
theorem mG (xs:List Rat) (g:Nat) (p:Rat→Bool) (hg:∀x∈xs,TC g [aF x] (VB (p x))) (hn:xs.length≤1000000000):TC 66 [aC aF xs,.wX g []] (VB (xs.any p)):=by
 refine TC.walk ⟨true,false⟩ oZ rfl (aL9 rfl) (by simp[aO,gL];rfl) rfl ?_
 obtain⟨k,hk,hc⟩:=DA xs g p hg hn
 have e:decide (0≤k)=xs.any p:=by
  cases h:xs.any p with
  | true=>rw[decide_eq_true (hk.2 h)]
  | false=>rw[decide_eq_false fun h'=>by rw[hk.1 h'] at h;cases h]
 simp only[iW,iD,hc,e,VX,Nat.reduceEqDiff,Nat.reduceAdd]
 exact aH rfl
def kG (qs:List Rat):Bool := !(qs.any fun q=>decide (q<0))&&decide (dO qs=1)
def mR (xs:List ByteArray):Option (List Rat):=match sY xs with
 | some qs=>if kG qs=true then some qs else none
 | none=>none
theorem Qc {xs:List ByteArray} {qs:List Rat} (h:mR xs=some qs):sY xs=some qs∧kG qs=true:=by
 unfold mR at h
 split at h
 ·rename_i ps hp
  split at h
  ·rename_i hw
   cases h
   exact⟨hp,hw⟩
  ·cases h
 ·cases h
theorem Ol {n:Nat} (h:n≤300):n*(665+1)+1≤1099511627776:=by omega
theorem Ft {xs:List ByteArray} {qs:List Rat} (h:sY xs=some qs):mR xs=if kG qs=true then some qs else none:=by unfold mR;rw[h]
theorem Mi {xs:List ByteArray} (h:sY xs=none):mR xs=none:=by unfold mR;rw[h]
theorem rZ:R2 none = .dU [aC aF [],VB false]:=rfl
theorem xN (qs:List Rat):R2 (some qs) = .dU [aC aF qs,VB true]:=rfl
set_option maxHeartbeats 1000000 in
theorem KW (xs:List ByteArray) (hn:xs.length≤1000000000) (hs:∀s∈xs,s.size≤1000000000):TC 98 [gB xs] (R2 (mR xs)):=by
 refine TC.walk ⟨true,false⟩ Li rfl (aL9 rfl) (by simp[aO,jD]) (RN _) ?_
 have e1:=Fs xs hn hs
 cases h:sY xs with
 |
  none =>
  rw[h,rZ] at e1
  rw[Mi h,rZ]
  simp only[rO,nY,e1,VX,Nat.reduceEqDiff,Nat.reduceAdd]
  exact It
 |
  some qs =>
  rw[h,xN] at e1
  rw[Ft h]
  obtain⟨hb,hl,_⟩:=nD h
  have e2:=mG qs 67 (fun q=>decide (q<0)) (fun q _=>BG q) (by omega)
  have hm:qs.length*666≤199800:=by omega
  have e3:=fun(K:aA)=>OR (lo:=0) (H:=K) (v:=aC aF qs) qs (B:=665) (Rd.tree cW) (aKP _) hb (Ol hl) (by decide) (by omega)
  have hsb:=AP hb qs.length
  rw[aLy] at hsb
  have e4:=Ky (dO qs) (by omega)
  cases Ad:qs.any (fun q=>decide (q<0)) with
  |
   true =>
   rw[Ad] at e2
   have hw:¬kG qs=true:=by unfold kG;rw[Ad];simp
   rw[if_neg hw,rZ]
   simp only[rO,nY,e1,e2,VX,Nat.reduceEqDiff,Nat.reduceAdd]
   exact It
  |
   false =>
   rw[Ad] at e2
   by_cases acJ:dO qs=1
   ·rw[decide_eq_true acJ] at e4
    have hw:kG qs=true:=by unfold kG;rw[Ad,decide_eq_true acJ];rfl
    rw[if_pos hw,xN]
    simp only[rO,nY,e1,e2,VX,Nat.reduceEqDiff,Nat.reduceAdd]
    refine rR rfl (e3 _) fun r L hr => ?_
    subst hr
    simp only[e4,VX,Nat.reduceEqDiff,Nat.reduceAdd]
    exact aH (adK (gL _) rfl)
   ·rw[decide_eq_false acJ] at e4
    have hw:¬kG qs=true:=by unfold kG;rw[Ad,decide_eq_false acJ];simp
    rw[if_neg hw,rZ]
    simp only[rO,nY,e1,e2,VX,Nat.reduceEqDiff,Nat.reduceAdd]
    refine rR rfl (e3 _) fun r L hr => ?_
    subst hr
    simp only[e4,VX,Nat.reduceEqDiff,Nat.reduceAdd]
    exact It
end Go.PM
namespace Go.PM
open Go.Lib
end Go.PM
namespace Go.PM
def Cm:aE:=(LS [LO 10 (.bin .lss (LT 9) (LT 8))] (.seq (.cond (LT 10) .skip (.exit 0)) (.seq (.block 1 (LS [LM 11 9,LM 4 11] (.cV [LM 12 3,LM 13 4,LO 14 (.call 64 [(LI 0)]),LO 15 (.lit [(.bool false),(.slice none 0 0),(.slice none 0 0)] 1 [(0,(LT 14))]),LM 16 0,LO 17 (.call 162 [(LT 15),(LT 16)]),LO 18 (.iaddr 1 (LT 12) (LT 13)),LN (.store 1 (LT 18) (LT 17))]))) (.cV [LO 19 (.bin .add (LT 9) (LI 1)),LM 9 19]))))
def JT:aE:=(LS [LO 2 (.mv (.const (.slice none 0 0)))] (LS [LM 5 0,LO 6 (.make [(.slice none 0 0)] 24 (LT 5) (LT 5)),LM 3 6] (.seq (LS [LM 7 3,LO 8 (.len (LT 7)),LO 9 (.mv (LI 0))] (.block 0 (.loop Cm))) (LS [LM 20 3,LM 2 20] .ret))))
def OX:aU:=⟨21,[(.tmp 2)],JT⟩
theorem TA:fQ 99=some OX:=by kernel_rfl
def CA:aE:=(.seq (LS [LM 21 8,LM 22 6,LO 23 (.bin .lss (LT 21) (LT 22)),LM 24 23,LY 24 25 (.mv (LT 0)),LY 24 26 (.mv (LT 8)),LY 24 27 (.iaddr 1 (LT 25) (LT 26)),LY 24 28 (LL 27),LY 24 29 (.mv (LT 7)),LY 24 30 (.iaddr 3 (LT 28) (LT 29)),LY 24 31 (LK 30),LY 24 32 (.call 68 [(LT 31)]),LY 24 33 (.bin .eql (LT 32) (LI 0)),LO 34 (.pick (LT 24) (LT 33) LF)] (.cond (LT 34) .skip (.exit 2))) (.block 3 (.cV [LM 35 8,LO 36 (.bin .add (LT 35) (LI 1)),LM 8 36])))
def Co:aE:=(.seq (LS [LM 100 11,LM 101 6,LO 102 (.bin .lss (LT 100) (LT 101))] (.cond (LT 102) .skip (.exit 6))) (.seq (.block 7 (.cV [LM 105 0,LM 106 9,LO 107 (.iaddr 1 (LT 105) (LT 106)),LO 108 (LL 107),LM 109 11,LM 110 0,LM 111 9,LO 112 (.iaddr 1 (LT 110) (LT 111)),LO 113 (LL 112),LM 114 11,LO 115 (.iaddr 3 (LT 113) (LT 114)),LO 116 (LK 115),LO 117 (LK 10),LM 118 0,LM 119 7,LO 120 (.iaddr 1 (LT 118) (LT 119)),LO 121 (LL 120),LM 122 11,LO 123 (.iaddr 3 (LT 121) (LT 122)),LO 124 (LK 123),LQ 125 (.call 132 [(LT 117),(LT 124)]),LQ 126 (.call 128 [(LT 116),(LT 125)]),LO 127 (.iaddr 3 (LT 108) (LT 109)),LN (.store 3 (LT 127) (LT 126))])) (.cV [LM 103 11,LO 104 (.bin .add (LT 103) (LI 1)),LM 11 104])))
def yR:aE:=(.seq (LS [LM 70 9,LM 71 6,LO 72 (.bin .lss (LT 70) (LT 71))] (.cond (LT 72) .skip (.exit 4))) (.seq (.block 5 (.seq (LS [LM 75 0,LM 76 9,LO 77 (.iaddr 1 (LT 75) (LT 76)),LO 78 (LL 77),LM 79 7,LO 80 (.iaddr 3 (LT 78) (LT 79)),LO 81 (LK 80),LO 82 (.call 68 [(LT 81)]),LO 83 (.bin .eql (LT 82) (LI 0))] (.cond (LT 83) (.exit 5) .skip)) (LS [LM 84 0,LM 85 9,LO 86 (.iaddr 1 (LT 84) (LT 85)),LO 87 (LL 86),LM 88 7,LO 89 (.iaddr 3 (LT 87) (LT 88)),LO 90 (LK 89),LM 91 0,LM 92 7,LO 93 (.iaddr 1 (LT 91) (LT 92)),LO 94 (LL 93),LM 95 7,LO 96 (.iaddr 3 (LT 94) (LT 95)),LO 97 (LK 96),LQ 98 (.call 129 [(LT 90),(LT 97)]),LQ 10 (.new [(.bool false),(.slice none 0 0),(.slice none 0 0)]),LN (.store 3 (LT 10) (LT 98))] (.seq (LS [LM 99 7,LM 11 99] (.block 6 (.loop Co))) (.cV [LM 128 1,LM 129 9,LM 130 1,LM 131 9,LO 132 (.iaddr 3 (LT 130) (LT 131)),LO 133 (LK 132),LO 134 (LK 10),LM 135 1,LM 136 7,LO 137 (.iaddr 3 (LT 135) (LT 136)),LO 138 (LK 137),LQ 139 (.call 132 [(LT 134),(LT 138)]),LQ 140 (.call 128 [(LT 133),(LT 139)]),LO 141 (.iaddr 3 (LT 128) (LT 129)),LN (.store 3 (LT 141) (LT 140))]))))) (.cV [LM 73 9,LO 74 (.bin .add (LT 73) (LI 1)),LM 9 74])))
def Cw:aE:=(LS [LO 18 (.bin .lss (LT 17) (LT 16))] (.seq (.cond (LT 18) .skip (.exit 0)) (.seq (.block 1 (LS [LM 19 17,LM 7 19] (LS [LM 20 7,LM 8 20] (.seq (.block 2 (.loop CA)) (.seq (LS [LM 37 8,LM 38 6,LO 39 (.bin .eql (LT 37) (LT 38))] (.cond (LT 39) (LS [LO 4 (.mv (.const (.slice none 0 0))),LO 5 (.mv LF)] .ret) .skip)) (LS [LM 40 0,LM 41 7,LM 42 0,LM 43 8,LM 44 1,LM 45 7,LM 46 1,LM 47 8,LM 48 0,LM 49 8,LO 50 (.iaddr 1 (LT 48) (LT 49)),LO 51 (LL 50),LM 52 0,LM 53 7,LO 54 (.iaddr 1 (LT 52) (LT 53)),LO 55 (LL 54),LM 56 1,LM 57 8,LO 58 (.iaddr 3 (LT 56) (LT 57)),LO 59 (LK 58),LM 60 1,LM 61 7,LO 62 (.iaddr 3 (LT 60) (LT 61)),LO 63 (LK 62),LO 64 (.iaddr 1 (LT 40) (LT 41)),LN (.store 1 (LT 64) (LT 51)),LO 65 (.iaddr 1 (LT 42) (LT 43)),LN (.store 1 (LT 65) (LT 55)),LO 66 (.iaddr 3 (LT 44) (LT 45)),LN (.store 3 (LT 66) (LT 59)),LO 67 (.iaddr 3 (LT 46) (LT 47)),LN (.store 3 (LT 67) (LT 63))] (LS [LM 68 7,LO 69 (.bin .add (LT 68) (LI 1)),LM 9 69] (.block 4 (.loop yR))))))))) (.cV [LO 142 (.bin .add (LT 17) (LI 1)),LM 17 142]))))
def Cu:aE:=(.seq (LS [LM 151 13,LM 152 6,LO 153 (.bin .lss (LT 151) (LT 152))] (.cond (LT 153) .skip (.exit 10))) (.seq (.block 11 (.cV [LM 156 1,LM 157 12,LM 158 1,LM 159 12,LO 160 (.iaddr 3 (LT 158) (LT 159)),LO 161 (LK 160),LM 162 0,LM 163 12,LO 164 (.iaddr 1 (LT 162) (LT 163)),LO 165 (LL 164),LM 166 13,LO 167 (.iaddr 3 (LT 165) (LT 166)),LO 168 (LK 167),LM 169 1,LM 170 13,LO 171 (.iaddr 3 (LT 169) (LT 170)),LO 172 (LK 171),LQ 173 (.call 132 [(LT 168),(LT 172)]),LQ 174 (.call 128 [(LT 161),(LT 173)]),LO 175 (.iaddr 3 (LT 156) (LT 157)),LN (.store 3 (LT 175) (LT 174))])) (.cV [LM 154 13,LO 155 (.bin .add (LT 154) (LI 1)),LM 13 155])))
def Cq:aE:=(.seq (LS [LM 145 12,LO 146 (.bin .geq (LT 145) (LI 0))] (.cond (LT 146) .skip (.exit 8))) (.seq (.block 9 (.seq (LS [LM 149 12,LO 150 (.bin .add (LT 149) (LI 1)),LM 13 150] (.block 10 (.loop Cu))) (.cV [LM 176 1,LM 177 12,LM 178 1,LM 179 12,LO 180 (.iaddr 3 (LT 178) (LT 179)),LO 181 (LK 180),LM 182 0,LM 183 12,LO 184 (.iaddr 1 (LT 182) (LT 183)),LO 185 (LL 184),LM 186 12,LO 187 (.iaddr 3 (LT 185) (LT 186)),LO 188 (LK 187),LQ 189 (.call 129 [(LT 181),(LT 188)]),LO 190 (.iaddr 3 (LT 176) (LT 177)),LN (.store 3 (LT 190) (LT 189))]))) (.cV [LM 147 12,LO 148 (.bin .sub (LT 147) (LI 1)),LM 12 148])))
def Ka:aE:=(LS [LO 4 (.mv (.const (.slice none 0 0))),LO 5 (.mv LF)] (LS [LM 14 0,LO 15 (.len (LT 14)),LM 6 15] (.seq (LS [LM 16 6,LO 17 (.mv (LI 0))] (.block 0 (.loop Cw))) (.seq (LS [LM 143 6,LO 144 (.bin .sub (LT 143) (LI 1)),LM 12 144] (.block 8 (.loop Cq))) (LS [LM 191 1,LM 4 191,LO 5 (.mv LG)] .ret)))))
def PR:aU:=⟨192,[(.tmp 4),(.tmp 5)],Ka⟩
theorem Td:fQ 118=some PR:=by kernel_rfl
end Go.PM
namespace Go.PM
open Go.Lib
theorem QA (x:List Rat):(aB (aC aF x)).length=1:=rfl
theorem Jv (m:List (List Rat)):aX (aC (aC aF) m)=true:=mN QA gL
theorem asQ (m:List (List Rat)):gW (aC (aC aF) m)=true:=zC QA Gw fun _=>rfl
end Go.PM
namespace Go.PM
theorem SY (n:Nat) (h:n<18446744073709551616):dK .and (.int .u64 (n:Int)) (.int .u64 4294967295)=some (.int .u64 ((n % 4294967296:Nat):Int)):=by
 simp only[dK,if_true]
 have h1:(BitVec.ofInt IntKind.u64.bits (n:Int) &&& BitVec.ofInt IntKind.u64.bits 4294967295).toNat=n % 4294967296:=by
  rw[BitVec.toNat_and]
  have e1:(BitVec.ofInt IntKind.u64.bits (n:Int)).toNat=n:=by
   rw[BitVec.toNat_ofInt]
   simp only[IntKind.bits]
   omega
  have e2:(BitVec.ofInt IntKind.u64.bits 4294967295).toNat=2^32-1:=by
   rw[BitVec.toNat_ofInt]
   simp only[IntKind.bits]
   omega
  rw[e1,e2,Nat.and_two_pow_sub_one_eq_mod]
 rw[h1,eT _ (by omega)]
end Go.PM