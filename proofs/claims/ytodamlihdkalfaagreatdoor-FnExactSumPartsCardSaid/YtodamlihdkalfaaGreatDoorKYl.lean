/- Texts of a claim, in one: part 12. -/
import Derived.KernelRfl
import Derived.Lib.LaidTab
import Derived.LaidLaws
import Derived.LaidMore
import Derived.MakeChecks
import Derived.Handed
import Derived.Test.YtodamlihdkalfaaGreatDoorKYk
set_option linter.unusedSimpArgs false
set_option linter.unusedVariables false
namespace Go.PM
open Go.Lib
def fV (c:UInt8):List UInt8→List (List UInt8)
 | []=>[[]]
 |
  x::r=>if x=c then []::fV c r else match fV c r with
  | []=>[[x]]
  | a::t=>(x::a)::t
theorem Kt {c:UInt8} {r:List UInt8}:∀ {a:List UInt8},c∉a→fV c (a++c::r)=a::fV c r:=by
 intro a
 induction a with
 | nil=>intro _;rw[List.nil_append,fV,if_pos rfl]
 |
  cons x a ih =>
  intro h
  rw[List.mem_cons,not_or] at h
  rw[List.cons_append,fV,if_neg (fun he=>h.1 he.symm),ih h.2]
theorem D7 {c:UInt8}:∀ {a:List UInt8},c∉a→fV c a=[a]:=by
 intro a
 induction a with
 | nil=>intro _;rfl
 |
  cons x a ih =>
  intro h
  rw[List.mem_cons,not_or] at h
  rw[fV,if_neg (fun he=>h.1 he.symm),ih h.2]
theorem SF {c:UInt8} (l:List UInt8):fV c l≠[]:=by
 cases l with
 | nil=>simp[fV]
 |
  cons x r =>
  rw[fV]
  split
  ·simp
  ·split<;>simp
theorem QG {c:UInt8} {l:List UInt8} (h:(kS c l).2=none):fV c l=[l]:=D7 (zM h).2.2
theorem Hx {c:UInt8} {l r:List UInt8} (h:(kS c l).2=some r):fV c l=(kS c l).1::fV c r:=by
 obtain⟨_,h2,h3⟩:=Gt h
 have:=Kt (r:=r) h3
 rw[←h2] at this
 exact this
theorem PN {c:UInt8} {l:List UInt8} (h:c∈l):2≤(fV c l).length:=by
 cases hc:(kS c l).2 with
 | none=>exact absurd h (zM hc).2.2
 |
  some r =>
  rw[Hx hc,List.length_cons]
  have:=List.length_pos_iff.2 (SF (c:=c) r)
  omega
theorem UH {l:List UInt8} {i:Nat} (h:i<l.length):(l.take (i+1)).all gG=((l.take i).all gG&&gG (l.getD i 0)):=by
 rw[List.take_add_one,List.all_append]
 have:l[i]? = some (l.getD i 0):=by rw[List.getElem?_eq_getElem h,List.getD_eq_getElem?_getD,List.getElem?_eq_getElem h];rfl
 rw[this]
 simp
set_option maxHeartbeats 1000000 in
theorem oJ (l:List UInt8) (hl:l.length≤1000000000000):TC 223 [aR l] (VB (gB l)):=by
 refine TC.walk ⟨true,false⟩ Gj rfl (Nat.le_of_ble_eq_true rfl) rfl rfl ?_
 simp only[BT,Ap,VX,Nat.reduceEqDiff,Nat.reduceAdd]
 refine aN (fun(i:Nat) ρ H=>i≤l.length∧H=[]∧(l.take i).all gG=true∧ρ 0=aR l∧ρ 3=VI i) (fun i=>l.length-i) 0 ⟨Nat.zero_le _,rfl,rfl,rfl,rfl⟩ ?_
 rintro i ρ H ⟨hi,rfl,hd,g0,g3⟩
 by_cases cC:(i:Int)<(l.length:Int)
 ·have Sj:i<l.length:=by omega
  have e1:=CL l Sj
  have wi:IntKind.i64.wrap ((i:Int)+1)=((i+1:Nat):Int):=wrapN (i+1) (by omega) (by omega)
  have ht:=UH Sj
  rw[hd,Bool.true_and] at ht
  have RM:gG (l.getD i 0)=(decide (48≤(l.getD i 0).toNat)&&decide ((l.getD i 0).toNat≤57)):=rfl
  have kB:gG (l.getD i 0)=false→gB l=false:=by
   intro h
   rw[h] at ht
   have:l.all gG=false:=by rw[←List.take_append_drop (i+1) l,List.all_append,ht,Bool.false_and]
   unfold gB
   rw[this]
   rfl
  generalize (l.getD i 0).toNat=c at *
  by_cases q1:(c:Int)<48
  ·rw[kB (by rw[RM,decide_eq_false (by omega)];rfl)]
   simp only[cY,g0,g3,bB,cC,e1,q1,VX,Nat.reduceEqDiff,Nat.reduceAdd]
   exact aI rfl
  ·by_cases q2:(57:Int)<(c:Int)
   ·rw[kB (by rw[RM,decide_eq_false (show ¬c≤57 by omega),Bool.and_false])]
    simp only[cY,g0,g3,bB,cC,e1,q1,q2,VX,Nat.reduceEqDiff,Nat.reduceAdd]
    exact aI rfl
   ·rw[RM,decide_eq_true (by omega),decide_eq_true (by omega),Bool.and_self] at ht
    simp only[cY,g0,g3,bB,cC,e1,q1,q2,wi,VX,Nat.reduceEqDiff,Nat.reduceAdd]
    exact⟨i+1,by omega,by omega,ht,rfl⟩
 ·have oU:i=l.length:=by omega
  subst oU
  rw[List.take_length] at hd
  by_cases h1:(1:Int)≤(l.length:Int)
  ·by_cases h2:(l.length:Int)≤200
   ·by_cases h3:(l.length:Int)=1
    ·rw[iI.2 ⟨hd,by omega,by omega,.inl (by omega)⟩]
     simp only[cY,g0,g3,bB,cC,ge_iff_le,h1,h2,h3,Int.reduceLE,Int.reduceLT,VX,Nat.reduceEqDiff,Nat.reduceAdd]
     exact aI rfl
    ·have e1:=GZ l (by omega)
     by_cases h4:(((l.getD 0 0).toNat:Int)=48)
     ·have hk:gB l=false:=by
       cases h:gB l with
       | false=>rfl
       |
        true =>
        rcases(iI.1 h).2.2.2 with h5 | h5
        ·omega
        ·exact absurd (UInt8.toNat_inj.1 (by rw[show (48:UInt8).toNat=48 from rfl];omega)) h5
      rw[hk]
      simp only[cY,g0,g3,bB,cC,ge_iff_le,h1,h2,h3,h4,e1,VX,Nat.reduceEqDiff,Nat.reduceAdd]
      exact aI rfl
     ·have h5:l.getD 0 0≠48:=fun h=>h4 (by rw[h];rfl)
      rw[iI.2 ⟨hd,by omega,by omega,.inr h5⟩]
      simp only[cY,g0,g3,bB,cC,ge_iff_le,h1,h2,h3,h4,e1,VX,Nat.reduceEqDiff,Nat.reduceAdd]
      exact aI rfl
   ·have hk:gB l=false:=by
     cases h:gB l with
     | false=>rfl
     | true=>have:=(iI.1 h).2.2.1;omega
    rw[hk]
    simp only[cY,g0,g3,bB,cC,ge_iff_le,h1,h2,VX,Nat.reduceEqDiff,Nat.reduceAdd]
    exact aI rfl
  ·have hk:gB l=false:=by
    cases h:gB l with
    | false=>rfl
    | true=>have:=(iI.1 h).2.1;omega
   rw[hk]
   simp only[cY,g0,g3,bB,cC,ge_iff_le,h1,VX,Nat.reduceEqDiff,Nat.reduceAdd]
   exact aI rfl
set_option maxHeartbeats 1000000 in
theorem Dy (l:List UInt8) (c:UInt8) (hl:l.length≤1000000000000):TC 222 [aR l,.sc (.int .u8 (c.toNat:Int))] (aZ aR (fV c l)):=by
 refine TC.walk ⟨true,false⟩ KU rfl (Nat.le_of_ble_eq_true rfl) rfl (Cr (size:=1) (fun _=>rfl) (fun _=>rfl) fun _=>rfl) ?_
 have e3:∀lr,mV lr [.string ⟨#[]⟩] 0 [] []=some (.ref 0 0 0 0 0,[.row 0 (([]:List (List UInt8)).map aR) 1 true]):=fun lr=>jJ (H:=[]) (lr:=lr) (z:=[.string ⟨#[]⟩]) rfl
 have e4:∀(x:List UInt8) (H:aA),mV false [.string ⟨#[]⟩] 1 [(0,aR x)] H=some (.tree [aR x] (.cl 1),H):=fun x H=>kH (z:=[.string ⟨#[]⟩]) rfl rfl rfl
 have e5:∀(x:List UInt8) (H:aA),dD 1 (.tree [aR x] (.cl 1)) H=some [aR x]:=fun x H=>iC rfl rfl
 simp only[Hl,DD,e3,VX,Nat.reduceEqDiff,Nat.reduceAdd]
 refine aN (fun(s:List (List UInt8)×Nat×Nat) ρ H=>H=[.row s.1.length (s.1.map aR) 1 true]∧s.2.1≤s.2.2∧s.2.2≤l.length+1∧s.1.length≤s.2.1 ∧
  ((s.2.2≤l.length∧fV c l=s.1++fV c (l.drop s.2.1)∧c∉(l.drop s.2.1).take (s.2.2-s.2.1))∨(s.2.2=l.length+1∧fV c l=s.1)) ∧
  ρ 0=aR l∧ρ 1 = .sc (.int .u8 (c.toNat:Int))∧ρ 5 = .ref 0 s.1.length 0 s.1.length s.1.length∧ρ 6=VI s.2.1∧ρ 7=VI s.2.2) (fun s=>l.length+1-s.2.2) ([],0,0) ⟨rfl,Nat.zero_le _,Nat.zero_le _,Nat.zero_le _,.inl ⟨Nat.zero_le _,rfl,by simp⟩,rfl,rfl,rfl,rfl,rfl⟩ ?_
 rintro⟨out,fr,i⟩ ρ H ⟨rfl,hfi,hi,gZ,Ay,g0,g1,g5,g6,g7⟩
 simp only at hfi hi gZ Ay g5 g6 g7
 by_cases cC:(i:Int)≤(l.length:Int)
 ·have Sj:i≤l.length:=by omega
  obtain⟨hp,hc⟩:fV c l=out++fV c (l.drop fr)∧c∉(l.drop fr).take (i-fr):=by
   rcases Ay with⟨_,h1,h2⟩ | ⟨h,_⟩
   ·exact⟨h1,h2⟩
   ·omega
  have wi:IntKind.i64.wrap ((i:Int)+1)=((i+1:Nat):Int):=wrapN (i+1) (by omega) (by omega)
  have e2:=YU l hfi Sj
  have eP:=iE (f:=aR) (xs:=out) (x:=(l.drop fr).take (i-fr)) (lo:=0) (b:=0) (g:=out.length) (n:=out.length) (e:=1) (bytes:=16) (H:=[.row out.length (out.map aR) 1 true]) bG rfl (Nat.zero_le _) (by decide) (by decide) (by omega)
  have GX:([.row out.length (out.map aR) 1 true]:aA).set 0 (.row (out.length+1) ((out++[(l.drop fr).take (i-fr)]).map aR) 1 true)=[.row (out.length+1) ((out++[(l.drop fr).take (i-fr)]).map aR) 1 true]:=rfl
  rw[GX] at eP
  by_cases q1:i=l.length
  ·subst q1
   have W5:fV c l=out++[(l.drop fr).take (l.length-fr)]:=by
    rw[hp]
    have:(l.drop fr).take (l.length-fr)=l.drop fr:=List.take_of_length_le (by rw[List.length_drop];omega)
    rw[this] at hc ⊢
    rw[D7 hc]
   simp only[nF,g0,g1,g5,g6,g7,bB,cC,eq_self,e2,e4,e5,eP,wi,VX,Nat.reduceEqDiff,Nat.reduceAdd]
   refine⟨(out++[(l.drop fr).take (l.length-fr)],l.length+1,l.length+1),by simp only;omega,?_,by simp only;omega,by simp only;omega,?_,.inr ⟨rfl,W5⟩,?_⟩
   ·simp
   ·simp only[List.length_append,List.length_cons,List.length_nil];omega
   ·simp
  ·have aaX:i<l.length:=by omega
   have q1':¬(i:Int)=(l.length:Int):=by omega
   have e1:=CL l aaX
   have hgd:l.drop i=l.getD i 0::l.drop (i+1):=by rw[List.drop_eq_getElem_cons aaX,List.getD_eq_getElem?_getD,List.getElem?_eq_getElem aaX];rfl
   by_cases q2:l.getD i 0=c
   ·have q2':((l.getD i 0).toNat:Int)=(c.toNat:Int):=by rw[q2]
    have W5:fV c l=(out++[(l.drop fr).take (i-fr)])++fV c (l.drop (i+1)):=by
     have QJ:l.drop fr=(l.drop fr).take (i-fr)++c::l.drop (i+1):=by
      have h1:(l.drop fr).drop (i-fr)=l.drop i:=by rw[List.drop_drop];congr 1;omega
      conv=>lhs;rw[←List.take_append_drop (i-fr) (l.drop fr),h1,hgd,q2]
     rw[hp]
     conv=>lhs;rw[QJ]
     rw[Kt hc,List.append_assoc]
     rfl
    simp only[nF,g0,g1,g5,g6,g7,bB,cC,q1',e1,q2',eq_self,e2,e4,e5,eP,wi,VX,Nat.reduceEqDiff,Nat.reduceAdd]
    refine⟨(out++[(l.drop fr).take (i-fr)],i+1,i+1),by simp only;omega,?_,by simp only;omega,by simp only;omega,?_,.inl ⟨by simp only;omega,W5,by simp⟩,?_⟩
    ·simp
    ·simp only[List.length_append,List.length_cons,List.length_nil];omega
    ·simp
   ·have q2':¬((l.getD i 0).toNat:Int)=(c.toNat:Int):=fun h=>q2 (UInt8.toNat_inj.1 (by omega))
    simp only[nF,g0,g1,g5,g6,g7,bB,cC,q1',e1,q2',wi,VX,Nat.reduceEqDiff,Nat.reduceAdd]
    refine⟨(out,fr,i+1),by simp only;omega,rfl,by simp only;omega,by simp only;omega,gZ,.inl ⟨by simp only;omega,hp,?_⟩,rfl,rfl,rfl⟩
    simp only
    rw[show i+1-fr=(i-fr)+1 by omega,List.take_add_one,List.mem_append,not_or]
    refine⟨hc,?_⟩
    have:(l.drop fr)[i-fr]? = some (l.getD i 0):=by
     rw[List.getElem?_drop,show fr+(i-fr)=i by omega,List.getD_eq_getElem?_getD,List.getElem?_eq_getElem aaX]
     rfl
    rw[this]
    simp
    exact fun h=>q2 h.symm
 ·have W5:fV c l=out:=by
   rcases Ay with⟨h,_⟩ | ⟨_,h⟩
   ·omega
   ·exact h
  rw[W5]
  simp only[nF,g0,g5,g7,bB,cC,VX,Nat.reduceEqDiff,Nat.reduceAdd]
  exact AX (es:=out.map aR) bG (by simp) (Nat.le_refl _) (cZ fun _=>rfl)
theorem YM {l:List UInt8} (h:l.all gG=true) {i:Nat} (hi:i<l.length):48≤(l.getD i 0).toNat∧(l.getD i 0).toNat≤57:=by
 have:=List.all_eq_true.1 h (l.getD i 0) (by rw[List.getD_eq_getElem?_getD,List.getElem?_eq_getElem hi];exact List.getElem_mem hi)
 simpa[gG] using this
theorem KI {l:List UInt8} (hd:l.all gG=true) (hl:l.length≤1000000000000) {fr tq:Nat} (hft:fr≤tq) (h9:tq-fr≤9) (htl:tq≤l.length) {H:aA} {lo:Nat} {ρ:cM} {Q:VQ} (h0:ρ 0=aR l) (h4:ρ 4=VI tq) (h6:ρ 6=VI 0) (h7:ρ 7=VI fr)
  (hQ:∀aU,(∀t,t<6→aU t=ρ t)→aU 6=VI (bJ ((l.drop fr).take (tq-fr)))→Q .normal aU H):VW ⟨true,false⟩ lo (.loop lE) (yV 2 Q) ρ H:=by
 refine aN (fun(i:Nat) aU H'=>fr≤i∧i≤tq∧H'=H∧(∀t,t<6→aU t=ρ t)∧aU 6=VI (bJ ((l.drop fr).take (i-fr)))∧aU 7=VI i) (fun i=>tq-i) fr ⟨Nat.le_refl _,hft,rfl,fun _ _=>rfl,by rw[h6,Nat.sub_self];rfl,h7⟩ ?_
 rintro i aU H' ⟨hfi,hi,rfl,hk,g6,g7⟩
 have g0:=(hk 0 (by decide)).trans h0
 have g4:=(hk 4 (by decide)).trans h4
 by_cases cC:(i:Int)<(tq:Int)
 ·have Sj:i<l.length:=by omega
  have e1:=CL l Sj
  obtain⟨c1,c2⟩:=YM hd Sj
  have wi:IntKind.i64.wrap ((i:Int)+1)=((i+1:Nat):Int):=wrapN (i+1) (by omega) (by omega)
  have hcd:((l.drop fr).take (i-fr)).all gG=true:=by
   rw[List.all_eq_true] at hd ⊢
   exact fun x hx=>hd x (List.mem_of_mem_drop (List.mem_of_mem_take hx))
  have aV:=Fp hcd
  rw[List.length_take,List.length_drop,Nat.min_eq_left (by omega)] at aV
  have hp9:10^(i-fr)≤10^8:=Nat.pow_le_pow_right (by decide) (by omega)
  have e8:(10:Nat)^8=100000000:=by decide
  have sT:bJ ((l.drop fr).take (i+1-fr))=bJ ((l.drop fr).take (i-fr))*10+dv (l.getD i 0):=by
   have:(l.drop fr)[i-fr]? = some (l.getD i 0):=by
    rw[List.getElem?_drop,show fr+(i-fr)=i by omega,List.getD_eq_getElem?_getD,List.getElem?_eq_getElem Sj]
    rfl
   rw[show i+1-fr=(i-fr)+1 by omega,List.take_add_one,this]
   exact VY _ _
  have hdv:dv (l.getD i 0)=(l.getD i 0).toNat-48:=rfl
  rw[hdv] at sT
  generalize (l.getD i 0).toNat=c at *
  generalize bJ ((l.drop fr).take (i-fr))=D at *
  have w1:IntKind.i64.wrap (10*(D:Int))=((10*D:Nat):Int):=wrapN _ (by omega) (by omega)
  have w2:IntKind.u8.wrap ((c:Int)-48)=((c-48:Nat):Int):=by
   simp[IntKind.wrap,IntKind.bits,IntKind.signed]
   omega
  have w3:IntKind.i64.wrap ((c-48:Nat):Int)=((c-48:Nat):Int):=wrapN _ rfl (by omega)
  have w4:IntKind.i64.wrap (((10*D:Nat):Int)+((c-48:Nat):Int))=((D*10+(c-48):Nat):Int):=wrapN _ (by omega) (by omega)
  simp only[lE,g0,g4,g6,g7,cC,e1,w1,w2,w3,w4,wi,VX,Nat.reduceEqDiff,Nat.reduceAdd]
  refine⟨i+1,by omega,by omega,by omega,fun t ht => ?_,by rw[sT],rfl⟩
  try simp only[tO]
  repeat rw[if_neg (by omega)]
  exact hk t ht
 ·have oU:i=tq:=by omega
  subst oU
  simp only[lE,g4,g7,cC,VX,Nat.reduceEqDiff,Nat.reduceAdd]
  refine hQ _ (fun t ht => ?_) ?_
  ·try simp only[tO]
   repeat rw[if_neg (by omega)]
   exact hk t ht
  ·simp only[g6,VX,Nat.reduceEqDiff,Nat.reduceAdd]
set_option maxHeartbeats 1000000 in
theorem rI (l:List UInt8) (hd:l.all gG=true) (hl:l.length≤1000000000):TC 224 [aR l] (bL (bJ l)):=by
 refine TC.walk ⟨true,false⟩ EI rfl (Nat.le_of_ble_eq_true rfl) rfl (lR _) ?_
 have e3:∀lr,mV lr [.int .i64 0] 0 [] []=some (.ref 0 0 0 0 0,[.row 0 (([]:List Nat).map tV) 1 true]):=fun lr=>jJ (H:=[]) (lr:=lr) (z:=[.int .i64 0]) rfl
 have e4:∀(x:Nat) (H:aA),mV false [.int .i64 0] 1 [(0,tV x)] H=some (.tree [tV x] (.cl 1),H):=fun x H=>kH (z:=[.int .i64 0]) rfl rfl rfl
 have e5:∀(x:Nat) (H:aA),dD 1 (.tree [tV x] (.cl 1)) H=some [tV x]:=fun x H=>iC rfl rfl
 simp only[Bj,yF,e3,bB,VX,Nat.reduceEqDiff,Nat.reduceAdd]
 refine aN (fun(s:List Nat×Int) ρ H=>H=[.row s.1.length (s.1.map tV) 1 true]∧s.2≤l.length ∧ -9≤s.2∧s.1.length+s.2.toNat≤l.length∧(∀d∈s.1,d<1000000000)∧bJ l=val 1000000000 s.1+1000000000^s.1.length*bJ (l.take s.2.toNat) ∧
  ρ 0=aR l∧ρ 3 = .ref 0 s.1.length 0 s.1.length s.1.length∧ρ 4=VI s.2) (fun s=>s.2.toNat) ([],(l.length:Int)) ⟨rfl,Int.le_refl _,by simp only;omega,by simp,by simp,?_,rfl,rfl,rfl⟩ ?_
 ·simp only[Int.toNat_natCast,List.take_length,List.length_nil,Nat.pow_zero,Nat.one_mul,val,Nat.zero_add]
 rintro⟨out,z⟩ ρ H ⟨rfl,hz,hz9,gZ,hds,hv,g0,g3,g4⟩
 simp only at hz hz9 gZ hds hv g3 g4
 by_cases iU:0<z
 ·obtain⟨tq,rfl⟩:∃tq:Nat,z=tq:=⟨z.toNat,by omega⟩
  rw[Int.toNat_natCast] at gZ hv
  have hto:0<tq:=by omega
  have key:∀fr:Nat,fr≤tq→tq-fr≤9→bJ (l.take tq)=bJ (l.take fr)*10^(tq-fr)+bJ ((l.drop fr).take (tq-fr))∧bJ ((l.drop fr).take (tq-fr))<1000000000:=by
   intro fr h1 h2
   have hcd:((l.drop fr).take (tq-fr)).all gG=true:=by
    rw[List.all_eq_true] at hd ⊢
    exact fun x hx=>hd x (List.mem_of_mem_drop (List.mem_of_mem_take hx))
   have hlen:((l.drop fr).take (tq-fr)).length=tq-fr:=by rw[List.length_take,List.length_drop];omega
   constructor
   ·have:=List.take_add (l:=l) (i:=fr) (j:=tq-fr)
    rw[show fr+(tq-fr)=tq by omega] at this
    rw[this,Jh,hlen]
   ·have:=Fp hcd
    rw[hlen] at this
    exact Nat.lt_of_lt_of_le this (Nat.le_trans (Nat.pow_le_pow_right (by decide) h2) (by decide))
  have eP:=fun X=>iE (f:=tV) (xs:=out) (x:=X) (lo:=0) (b:=0) (g:=out.length) (n:=out.length) (e:=1) (bytes:=8) (H:=[.row out.length (out.map tV) 1 true]) bG rfl (Nat.zero_le _) (by decide) (by decide) (by omega)
  have GX:∀X,([.row out.length (out.map tV) 1 true]:aA).set 0 (.row (out.length+1) ((out++[X]).map tV) 1 true)=[.row (out.length+1) ((out++[X]).map tV) 1 true]:=fun _=>rfl
  simp only[GX] at eP
  by_cases h9:(9:Int)<(tq:Int)
  ·obtain⟨k1,k2⟩:=key (tq-9) (by omega) (by omega)
   have wz:IntKind.i64.wrap ((tq:Int)-9)=((tq-9:Nat):Int):=wrapN _ (by omega) (by omega)
   rw[show tq-(tq-9)=9 by omega] at k1 k2
   rw[show (10:Nat)^9=1000000000 by decide] at k1
   simp only[kY,g0,g3,g4,iU,h9,wz,VX,Nat.reduceEqDiff,Nat.reduceAdd]
   refine KI (l:=l) hd (by omega) (fr:=tq-9) (tq:=tq) (by omega) (by omega) (by omega) ?_ ?_ ?_ ?_ fun vI q q6 => ?_
   all_goals first | (simp only[g0,g4,VX,Nat.reduceEqDiff,Nat.reduceAdd];done) | skip
   rw[show tq-(tq-9)=9 by omega] at q6
   have u3:vI 3 = .ref 0 out.length 0 out.length out.length:=by rw[q 3 (by decide)];simp only[g3,VX,Nat.reduceEqDiff,Nat.reduceAdd]
   have u0:vI 0=aR l:=by rw[q 0 (by decide)];simp only[g0,VX,Nat.reduceEqDiff,Nat.reduceAdd]
   have u4:vI 4=VI tq:=by rw[q 4 (by decide)];simp only[g4,VX,Nat.reduceEqDiff,Nat.reduceAdd]
   generalize bJ ((l.drop (tq-9)).take 9)=X at *
   have e4:=e4 X
   have e5:=e5 X
   have eP:=eP X
   simp only[u0,u3,u4,q6,e4,e5,eP,wz,VX,Nat.reduceEqDiff,Nat.reduceAdd]
   refine⟨(out++[X],((tq-9:Nat):Int)),by simp only;omega,?_,by simp only;omega,by simp only;omega,?_,?_,?_,?_⟩
   ·simp
   ·simp only[List.length_append,List.length_cons,List.length_nil];omega
   ·intro d hdm
    rcases List.mem_append.1 hdm with h | h
    ·exact hds d h
    ·rw[List.mem_singleton] at h;omega
   ·simp only[Int.toNat_natCast]
    rw[hv,k1,rA,List.length_append,List.length_singleton,Nat.pow_succ]
    grind
   ·simp
  ·obtain⟨k1,k2⟩:=key 0 (by omega) (by omega)
   rw[List.take_zero,Jm,Nat.zero_mul,Nat.zero_add,Nat.sub_zero] at k1
   rw[Nat.sub_zero] at k2
   have wz:IntKind.i64.wrap ((tq:Int)-9)=(tq:Int)-9:=wrap64 (by omega) (by omega)
   simp only[kY,g0,g3,g4,iU,h9,VX,Nat.reduceEqDiff,Nat.reduceAdd]
   refine KI (l:=l) hd (by omega) (fr:=0) (tq:=tq) (by omega) (by omega) (by omega) ?_ ?_ ?_ ?_ fun vI q q6 => ?_
   all_goals first | (simp only[g0,g4,VX,Nat.reduceEqDiff,Nat.reduceAdd];done) | (simp only[VX,Nat.reduceEqDiff,Nat.reduceAdd];rfl) | skip
   rw[Nat.sub_zero] at q6
   have u3:vI 3 = .ref 0 out.length 0 out.length out.length:=by rw[q 3 (by decide)];simp only[g3,VX,Nat.reduceEqDiff,Nat.reduceAdd]
   have u0:vI 0=aR l:=by rw[q 0 (by decide)];simp only[g0,VX,Nat.reduceEqDiff,Nat.reduceAdd]
   have u4:vI 4=VI tq:=by rw[q 4 (by decide)];simp only[g4,VX,Nat.reduceEqDiff,Nat.reduceAdd]
   generalize bJ ((l.drop 0).take tq)=X at *
   have e4:=e4 X
   have e5:=e5 X
   have eP:=eP X
   simp only[u0,u3,u4,q6,e4,e5,eP,wz,VX,Nat.reduceEqDiff,Nat.reduceAdd]
   refine⟨(out++[X],(tq:Int)-9),by simp only;omega,?_,by simp only;omega,by simp only;omega,?_,?_,?_,?_⟩
   ·simp
   ·simp only[List.length_append,List.length_cons,List.length_nil];omega
   ·intro d hdm
    rcases List.mem_append.1 hdm with h | h
    ·exact hds d h
    ·rw[List.mem_singleton] at h;omega
   ·simp only
    rw[show ((tq:Int)-9).toNat=0 by omega,List.take_zero,Jm,Nat.mul_zero,Nat.add_zero,hv,k1,rA]
   ·simp
 ·have h0:z.toNat=0:=by omega
  rw[h0,List.take_zero,Jm,Nat.mul_zero,Nat.add_zero] at hv
  rw[hv]
  have ct:=TC.aaA (f:=tV) (xs:=out) (size:=1) (e:=1) (w:=true) (H:=[.row out.length (out.map tV) 1 true]) (b:=0) (gn:=out.length) (n:=out.length) (c:=out.length) (rL out hds (by show out.length≤70368744177664;omega)) bG rfl (Nat.le_refl _) D1 (fun _=>rfl) rfl rfl
  simp only[kY,g0,g3,g4,iU,ct,VX,Nat.reduceEqDiff,Nat.reduceAdd]
  exact aI (bO _)
end Go.PM
namespace Go.PM
open Go.Lib
def Cg (l:List UInt8):VV:=match vW l with
 | some q => .dY [bU q,VB true]
 | none => .dY [JV,VB false]
theorem xG (q:Rat):aO (bU q)=true:=by simp[bU,aO,aL,bO,jS]
theorem L8 (q:Rat):gH (bU q)=true:=by simp[bU,gH,qI,lR,jS]
theorem St (l:List UInt8):gH (Cg l)=true:=by
 unfold Cg
 split<;>simp[gH,qI,L8,QA,jS]
theorem Ji {neg:Bool} {t b:Nat} (hb:b≠0) (hg:Nat.gcd t b=1) (hn:¬(neg=true∧t=0)):bU (mkRat (oO neg t) b) = .agg [VB neg,bL t,bL b]:=by
 obtain⟨e1,e2⟩:=Hw (neg:=neg) hb hg
 refine NI ?_ (by rw[e1,xQ]) e2
 rw[e1]
 cases neg with
 | false=>unfold oO;simp
 |
  true =>
  have:t≠0:=fun h=>hn ⟨rfl,h⟩
  unfold oO
  simp
  omega
theorem Dc {n:Nat}:(((aC 1000000000 n).length:Nat):Int)=0↔n=0:=by
 rw[←kK (b:=1000000000) (n:=n) (by decide),←List.length_eq_zero_iff]
 omega
theorem PD {neg:Bool} {d t:List UInt8} (h:(47:UInt8)∈t):nJ neg d (some t)=none:=by
 have ht:gB t=false:=by
  cases hk:gB t with
  | false=>rfl
  | true=>exact absurd h (Y3 (iI.1 hk).1)
 unfold nJ
 split
 ·rfl
 ·simp only
  rw[if_neg (fun h=>by rw[ht] at h;exact absurd h.1 (by decide))]
theorem at_one (x:List UInt8) (H:aA):bC 1 (aZ aR [x]) (VI 0) H=some (.cO (aR x) 0):=aF (f:=aR) (t := .op) (H:=H) (size:=1) (k := .i64) (xs:=[x]) (i:=0) rfl rfl
theorem abR (x y:List UInt8) (H:aA):bC 1 (aZ aR [x,y]) (VI 0) H=some (.cO (aR x) 0):=aF (f:=aR) (t := .op) (H:=H) (size:=1) (k := .i64) (xs:=[x,y]) (i:=0) rfl rfl
theorem Z5 (x y:List UInt8) (H:aA):bC 1 (aZ aR [x,y]) (VI 1) H=some (.cO (aR y) 0):=aF (f:=aR) (t := .op) (H:=H) (size:=1) (k := .i64) (xs:=[x,y]) (i:=1) rfl rfl
theorem T6 (x:List UInt8) (H:aA):nS (aZ aR [x]) H=some (VI 1):=dH (f:=aR) (xs:=[x])
theorem ZW (x y:List UInt8) (H:aA):nS (aZ aR [x,y]) H=some (VI 2):=dH (f:=aR) (xs:=[x,y])
set_option maxRecDepth 100000 in
set_option maxHeartbeats 4000000 in
theorem Il (l:List UInt8) (hl:l.length≤1000000000):TC 175 [aR l] (Cg l):=by
 refine TC.walk ⟨true,false⟩ Ib rfl (Nat.le_of_ble_eq_true rfl) rfl (St l) ?_
 by_cases zF:l=[]
 ·subst zF
  have eC:TC 222 [.sc (.string ⟨#[]⟩),.sc (.int .u8 47)] (aZ aR [[]]):=Dy [] 47 (by simp)
  have eD:TC 223 [.sc (.string ⟨#[]⟩)] (VB false):=oJ [] (by simp)
  have e1:Ae (.string ⟨#[]⟩)=some (.int .i64 0):=rfl
  have a1:=at_one []
  have a2:=T6 []
  simp only[bM,bA,e1,eC,eD,a1,a2,Int.reduceLT,Int.reduceLE,aG,jX,Nat.reduceLeDiff,Nat.reduceLT,Nat.reduceSub,VX,Nat.reduceEqDiff,Nat.reduceAdd]
  exact bF (d:=6) fK (aH (v:=VB false) rfl)
 have hp:0<l.length:=List.length_pos_iff.2 zF
 have iU:(0:Int)<(l.length:Int):=by omega
 have e0:=GZ l hp
 unfold Cg
 unfold vW
 have mD:isNeg l=decide (((l.getD 0 0).toNat:Int)=45):=by
  unfold isNeg
  rw[decide_eq_true (show 1≤l.length from hp),Bool.true_and]
  refine decide_eq_decide.2 ⟨fun h=>by rw[h];rfl,fun h=>UInt8.toNat_inj.1 (by rw[show (45:UInt8).toNat=45 from rfl];omega)⟩
 have QX:(if isNeg l=true then l.drop 1 else l).length≤l.length:=by split<;>simp
 have q0:isNeg l=false→¬((l.getD 0 0).toNat:Int)=45:=fun h=>by rw[mD] at h;exact of_decide_eq_false h
 have q9:isNeg l=true→((l.getD 0 0).toNat:Int)=45:=fun h=>by rw[mD] at h;exact of_decide_eq_true h
 have r0:isNeg l=false→(if isNeg l=true then l.drop 1 else l)=l:=fun h=>by rw[h];rfl
 have r9:isNeg l=true→tN (aR l) (some (VI 1)) none=some (aR (if isNeg l=true then l.drop 1 else l)):=fun h=>by rw[h];exact MH l (a:=1) hp
 generalize (if isNeg l=true then l.drop 1 else l)=r at *
 generalize isNeg l=neg at *
 clear mD
 have eC:TC 222 [aR r,.sc (.int .u8 47)] (aZ aR (fV 47 r)):=Dy r 47 (by omega)
 obtain⟨l1,l2⟩:=OO (c:=47) (l:=r)
 cases hs:(kS 47 r).2 with
 |
  none =>
  have hd:=(zM hs).2.1
  rw[QG hs] at eC
  rw[hd]
  have a1:=at_one r
  have a2:=T6 r
  have eD:=oJ r (by omega)
  cases hk:gB r with
  |
   false =>
   rw[hk] at eD
   have Wv:nJ neg r none=none:=if_pos (.inl hk)
   rw[Wv]
   cases neg with
   |
    false =>
    have q1:=q0 rfl
    have QX:=r0 rfl
    subst QX
    simp only[bM,bA,bB,iU,e0,q1,eC,eD,a1,a2,Int.reduceLT,aG,bD,aM,aW,dE,eU,dB,eV,jX,Nat.reduceLeDiff,Nat.reduceLT,Nat.reduceSub,VX,Nat.reduceEqDiff,Nat.reduceAdd]
    exact bF (d:=6) fK (aH (v:=VB false) rfl)
   |
    true =>
    have q1:=q9 rfl
    have e9:=r9 rfl
    simp only[bM,bA,bB,iU,e0,q1,eC,eD,a1,a2,Int.reduceLT,e9,aG,bD,aM,aW,dE,eU,dB,eV,jX,Nat.reduceLeDiff,Nat.reduceLT,Nat.reduceSub,VX,Nat.reduceEqDiff,Nat.reduceAdd]
    exact bF (d:=6) fK (aH (v:=VB false) rfl)
  |
   true =>
   rw[hk] at eD
   have hbt:=vX hk
   have eN:=rI r (iI.1 hk).1 (by omega)
   by_cases hz:neg=true∧bJ r=0
   ·have Wv:nJ neg r none=none:=if_pos (.inr hz)
    rw[Wv]
    obtain⟨rfl,FV⟩:=hz
    have q1:=q9 rfl
    have e9:=r9 rfl
    have Gr:(((aC 1000000000 (bJ r)).length:Nat):Int)=0:=Dc.2 FV
    simp only[bM,bA,bB,iU,e0,q1,eC,eD,a1,a2,eN,e9,cH,Gr,Int.reduceLT,aG,bD,aM,aW,dE,eU,dB,eV,jX,Nat.reduceLeDiff,Nat.reduceLT,Nat.reduceSub,VX,Nat.reduceEqDiff,Nat.reduceAdd]
    exact bF (d:=6) fK (aH (v:=VB false) rfl)
   ·have Dm:neg=true→¬(((aC 1000000000 (bJ r)).length:Nat):Int)=0:=fun h h0=>hz ⟨h,Dc.1 h0⟩
    have Wv:nJ neg r none=some (mkRat (oO neg (bJ r)) 1):=if_neg (by rw[hk];rintro(h | h);exact absurd h (by decide);exact hz h)
    rw[Wv]
    simp only[]
    rw[Ji (by decide) (Nat.gcd_one_right _) hz]
    cases neg with
    |
     false =>
     have q1:=q0 rfl
     have QX:=r0 rfl
     subst QX
     simp only[bM,bA,bB,iU,e0,q1,eC,eD,a1,a2,eN,Int.reduceLT,Int.reduceEq,aG,bD,aM,aW,dE,eU,dB,eV,jX,Nat.reduceLeDiff,Nat.reduceLT,Nat.reduceSub,VX,Nat.reduceEqDiff,Nat.reduceAdd]
     exact bF (d:=6) (pN (aH (v:=VB false) rfl) (aH (bO _)) N6) (aH (v:=VB true) rfl)
    |
     true =>
     have q1:=q9 rfl
     have e9:=r9 rfl
     have Gr:=Dm rfl
     simp only[bM,bA,bB,iU,e0,q1,eC,eD,a1,a2,eN,Int.reduceLT,Int.reduceEq,e9,cH,Gr,aG,bD,aM,aW,dE,eU,dB,eV,jX,Nat.reduceLeDiff,Nat.reduceLT,Nat.reduceSub,VX,Nat.reduceEqDiff,Nat.reduceAdd]
     exact bF (d:=6) (pN (aH (v:=VB true) rfl) (aH (bO _)) N6) (aH (v:=VB true) rfl)
 |
  some t =>
  have ltt:=l2 t hs
  rw[Hx hs] at eC
  generalize (kS 47 r).1=d at *
  by_cases hm:(47:UInt8)∈t
  ·rw[PD hm]
   have hP:=PN hm
   generalize hPP:fV 47 t=P at *
   have a2:∀H,nS (aZ aR (d::P)) H=some (VI ((d::P).length:Int)):=fun H=>dH (f:=aR) (xs:=d::P)
   have hq3:(2:Int)<((d::P).length:Int):=by rw[List.length_cons];omega
   generalize hQQ:d::P=PP at *
   clear hQQ hPP hP
   cases neg with
   |
    false =>
    have q1:=q0 rfl
    have QX:=r0 rfl
    subst QX
    simp only[bM,bA,bB,iU,e0,q1,eC,a2,hq3,aG,bD,aM,aW,dE,eU,dB,eV,jX,Nat.reduceLeDiff,Nat.reduceLT,Nat.reduceSub,VX,Nat.reduceEqDiff,Nat.reduceAdd]
    exact bF (d:=6) fK (aH (v:=VB false) rfl)
   |
    true =>
    have q1:=q9 rfl
    have e9:=r9 rfl
    simp only[bM,bA,bB,iU,e0,q1,eC,a2,hq3,e9,aG,bD,aM,aW,dE,eU,dB,eV,jX,Nat.reduceLeDiff,Nat.reduceLT,Nat.reduceSub,VX,Nat.reduceEqDiff,Nat.reduceAdd]
    exact bF (d:=6) fK (aH (v:=VB false) rfl)
  ·rw[D7 hm] at eC
   have a1:=abR d t
   have a3:=Z5 d t
   have a2:=ZW d t
   have eD:=oJ d (by omega)
   have eF:=oJ t (by omega)
   cases hk:gB d with
   |
    false =>
    rw[hk] at eD
    have Wv:nJ neg d (some t)=none:=if_pos (.inl hk)
    rw[Wv]
    cases neg with
    |
     false =>
     have q1:=q0 rfl
     have QX:=r0 rfl
     subst QX
     simp only[bM,bA,bB,iU,e0,q1,eC,eD,a1,a2,Int.reduceLT,aG,bD,aM,aW,dE,eU,dB,eV,jX,Nat.reduceLeDiff,Nat.reduceLT,Nat.reduceSub,VX,Nat.reduceEqDiff,Nat.reduceAdd]
     exact bF (d:=6) fK (aH (v:=VB false) rfl)
    |
     true =>
     have q1:=q9 rfl
     have e9:=r9 rfl
     simp only[bM,bA,bB,iU,e0,q1,eC,eD,a1,a2,Int.reduceLT,e9,aG,bD,aM,aW,dE,eU,dB,eV,jX,Nat.reduceLeDiff,Nat.reduceLT,Nat.reduceSub,VX,Nat.reduceEqDiff,Nat.reduceAdd]
     exact bF (d:=6) fK (aH (v:=VB false) rfl)
   |
    true =>
    rw[hk] at eD
    have hbt:=vX hk
    have eN:=rI d (iI.1 hk).1 (by omega)
    by_cases hz:neg=true∧bJ d=0
    ·have Wv:nJ neg d (some t)=none:=if_pos (.inr hz)
     rw[Wv]
     obtain⟨rfl,FV⟩:=hz
     have q1:=q9 rfl
     have e9:=r9 rfl
     have Gr:(((aC 1000000000 (bJ d)).length:Nat):Int)=0:=Dc.2 FV
     simp only[bM,bA,bB,iU,e0,q1,eC,eD,a1,a2,eN,e9,cH,Gr,Int.reduceLT,aG,bD,aM,aW,dE,eU,dB,eV,jX,Nat.reduceLeDiff,Nat.reduceLT,Nat.reduceSub,VX,Nat.reduceEqDiff,Nat.reduceAdd]
     exact bF (d:=6) fK (aH (v:=VB false) rfl)
    ·have Dm:neg=true→¬(((aC 1000000000 (bJ d)).length:Nat):Int)=0:=fun h h0=>hz ⟨h,Dc.1 h0⟩
     have Wv:nJ neg d (some t)=if gB t=true∧1<bJ t∧Nat.gcd (bJ d) (bJ t)=1 then some (mkRat (oO neg (bJ d)) (bJ t)) else none:=if_neg (by rw[hk];rintro(h | h);exact absurd h (by decide);exact hz h)
     rw[Wv]
     clear Wv
     cases ht:gB t with
     |
      false =>
      rw[ht] at eF
      rw[if_neg (fun h=>absurd h.1 (by decide))]
      cases neg with
      |
       false =>
       have q1:=q0 rfl
       have QX:=r0 rfl
       subst QX
       simp only[bM,bA,bB,iU,e0,q1,eC,eD,eF,a1,a2,a3,eN,Int.reduceLT,Int.reduceEq,aG,bD,aM,aW,dE,eU,dB,eV,jX,Nat.reduceLeDiff,Nat.reduceLT,Nat.reduceSub,VX,Nat.reduceEqDiff,Nat.reduceAdd]
       exact bF (d:=6) fK (aH (v:=VB false) rfl)
      |
       true =>
       have q1:=q9 rfl
       have e9:=r9 rfl
       have Gr:=Dm rfl
       simp only[bM,bA,bB,iU,e0,q1,eC,eD,eF,a1,a2,a3,eN,Int.reduceLT,Int.reduceEq,e9,cH,Gr,aG,bD,aM,aW,dE,eU,dB,eV,jX,Nat.reduceLeDiff,Nat.reduceLT,Nat.reduceSub,VX,Nat.reduceEqDiff,Nat.reduceAdd]
       exact bF (d:=6) fK (aH (v:=VB false) rfl)
     |
      true =>
      rw[ht] at eF
      have KM:=vX ht
      have eM:=rI t (iI.1 ht).1 (by omega)
      have c2:∀lo H K,_:=fun lo H K=>IT (n:=bJ t) (lo:=lo) (H:=H) (K:=K) (Nat.le_of_lt (pT (by omega)))
      have c3:=DA (bJ d) (bJ t) (pT (by omega)) (pT (by omega))
      by_cases h1:eH (bJ t) 1≤0
      ·have hle:¬1<bJ t:=fun h=>by unfold eH at h1;rw[if_neg (by omega),if_neg (by omega)] at h1;exact absurd h1 (by decide)
       rw[if_neg (fun h=>hle h.2.1)]
       cases neg with
       |
        false =>
        have q1:=q0 rfl
        have QX:=r0 rfl
        subst QX
        simp only[bM,bA,bB,iU,e0,q1,eC,eD,eF,a1,a2,a3,eN,eM,c2,h1,Int.reduceLT,Int.reduceEq,aG,bD,aM,aW,dE,eU,dB,eV,jX,Nat.reduceLeDiff,Nat.reduceLT,Nat.reduceSub,VX,Nat.reduceEqDiff,Nat.reduceAdd]
        exact bF (d:=6) fK (aH (v:=VB false) rfl)
       |
        true =>
        have q1:=q9 rfl
        have e9:=r9 rfl
        have Gr:=Dm rfl
        simp only[bM,bA,bB,iU,e0,q1,eC,eD,eF,a1,a2,a3,eN,eM,c2,h1,Int.reduceLT,Int.reduceEq,e9,cH,Gr,aG,bD,aM,aW,dE,eU,dB,eV,jX,Nat.reduceLeDiff,Nat.reduceLT,Nat.reduceSub,VX,Nat.reduceEqDiff,Nat.reduceAdd]
        exact bF (d:=6) fK (aH (v:=VB false) rfl)
      ·have aV:1<bJ t:=by
        rcases Nat.lt_or_ge 1 (bJ t) with h | h
        ·exact h
        ·exfalso
         apply h1
         unfold eH
         split<;>(try split)<;>first | decide | omega
       have XV:bl (Nat.gcd (bJ d) (bJ t))≤665:=Nat.le_trans (oG (Nat.le_of_dvd (by omega) (Nat.gcd_dvd_right _ _))) KM
       have c4:∀lo H K,_:=fun lo H K=>IT (n:=Nat.gcd (bJ d) (bJ t)) (lo:=lo) (H:=H) (K:=K) (Nat.le_of_lt (pT (by omega)))
       by_cases hg:Nat.gcd (bJ d) (bJ t)=1
       ·have h4:eH (Nat.gcd (bJ d) (bJ t)) 1=0:=by rw[hg];rfl
        rw[if_pos ⟨rfl,aV,hg⟩]
        simp only[]
        rw[Ji (by omega) hg hz]
        cases neg with
        |
         false =>
         have q1:=q0 rfl
         have QX:=r0 rfl
         subst QX
         simp only[bM,bA,bB,iU,e0,q1,eC,eD,eF,a1,a2,a3,eN,eM,c2,c3,c4,h1,h4,Int.reduceLT,Int.reduceEq,aG,bD,aM,aW,dE,eU,dB,eV,jX,Nat.reduceLeDiff,Nat.reduceLT,Nat.reduceSub,VX,Nat.reduceEqDiff,Nat.reduceAdd]
         exact bF (d:=6) (pN (aH (v:=VB false) rfl) (aH (bO _)) (aH (bO _))) (aH (v:=VB true) rfl)
        |
         true =>
         have q1:=q9 rfl
         have e9:=r9 rfl
         have Gr:=Dm rfl
         simp only[bM,bA,bB,iU,e0,q1,eC,eD,eF,a1,a2,a3,eN,eM,c2,c3,c4,h1,h4,Int.reduceLT,Int.reduceEq,e9,cH,Gr,aG,bD,aM,aW,dE,eU,dB,eV,jX,Nat.reduceLeDiff,Nat.reduceLT,Nat.reduceSub,VX,Nat.reduceEqDiff,Nat.reduceAdd]
         exact bF (d:=6) (pN (aH (v:=VB true) rfl) (aH (bO _)) (aH (bO _))) (aH (v:=VB true) rfl)
       ·have h4:¬eH (Nat.gcd (bJ d) (bJ t)) 1=0:=by
         unfold eH
         split<;>(try split)<;>first | decide | omega
        rw[if_neg (fun h=>hg h.2.2)]
        cases neg with
        |
         false =>
         have q1:=q0 rfl
         have QX:=r0 rfl
         subst QX
         simp only[bM,bA,bB,iU,e0,q1,eC,eD,eF,a1,a2,a3,eN,eM,c2,c3,c4,h1,h4,Int.reduceLT,Int.reduceEq,aG,bD,aM,aW,dE,eU,dB,eV,jX,Nat.reduceLeDiff,Nat.reduceLT,Nat.reduceSub,VX,Nat.reduceEqDiff,Nat.reduceAdd]
         exact bF (d:=6) fK (aH (v:=VB false) rfl)
        |
         true =>
         have q1:=q9 rfl
         have e9:=r9 rfl
         have Gr:=Dm rfl
         simp only[bM,bA,bB,iU,e0,q1,eC,eD,eF,a1,a2,a3,eN,eM,c2,c3,c4,h1,h4,Int.reduceLT,Int.reduceEq,e9,cH,Gr,aG,bD,aM,aW,dE,eU,dB,eV,jX,Nat.reduceLeDiff,Nat.reduceLT,Nat.reduceSub,VX,Nat.reduceEqDiff,Nat.reduceAdd]
         exact bF (d:=6) fK (aH (v:=VB false) rfl)
end Go.PM
namespace Go.PM
open Go.Lib
end Go.PM
namespace Go.PM
open Go.Lib
theorem QC {l:List UInt8} {q:Rat} (h:vW l=some q):Cg l = .dY [bU q,VB true]:=by unfold Cg;rw[h]
theorem Pp {l:List UInt8} (h:vW l=none):Cg l = .dY [JV,VB false]:=by unfold Cg;rw[h]
end Go.PM
namespace Go.PM
open Go.Lib
def Qz (o:Option (List Rat)):VV:=match o with
 | some qs => .dY [aZ bU qs,VB true]
 | none => .dY [aZ bU [],VB false]
theorem SU:Qz none = .dY [aZ bU [],VB false]:=rfl
theorem Ry (qs:List Rat):Qz (some qs) = .dY [aZ bU qs,VB true]:=rfl
theorem Gu (q:Rat):(aB (bU q)).length=3:=rfl
theorem D2 (qs:List Rat):aO (aZ bU qs)=true:=iW Gu xG
theorem Vs (q:Rat):yW (bU q)=true:=by simp[yW,bU,bL,gA]
theorem Mv (qs:List Rat):gH (aZ bU qs)=true:=Cr Gu L8 Vs
theorem Vv (o:Option (List Rat)):gH (Qz o)=true:=by
 unfold Qz
 split
 ·exact EC (Mv _) rfl
 ·exact EC (Mv []) rfl
set_option maxHeartbeats 1000000 in
theorem KC (xs:List ByteArray) (hn:xs.length≤1000000000) (hs:∀s∈xs,s.size≤1000000000):TC 115 [eK xs] (Qz (Bo xs)):=by
 refine TC.walk ⟨true,false⟩ JD rfl (Nat.le_of_ble_eq_true rfl) (by simp[aL,dF]) (Vv _) ?_
 unfold Bo
 by_cases RN:(300:Int)<(xs.length:Int)
 ·rw[if_neg (by omega)]
  simp only[Bf,wG,RN,VX,Nat.reduceEqDiff,Nat.reduceAdd]
  exact D0
 rw[if_pos (by omega)]
 have e0:=fun H=>jJ (H:=H) (lr:=false) (z:=[.bool false,.slice none 0 0,.slice none 0 0]) rfl
 simp only[Bf,wG,RN,e0,VX,Nat.reduceEqDiff,Nat.reduceAdd]
 refine JX (fun(s:Nat×List Rat) ρ H=>s.1≤xs.length∧(xs.take s.1).mapM pQ=some s.2∧H=[.row s.1 (s.2.map bU) 3 true]∧ρ 4 = .ref 0 s.1 0 s.1 s.1∧ρ 0=eK xs∧ρ 13=VI xs.length∧ρ 14=VI s.1) (fun s=>xs.length-s.1) (0,[]) ⟨Nat.zero_le _,rfl,rfl,rfl,rfl,rfl,rfl⟩ ?_
 rintro⟨i,out⟩ ρ H ⟨hi,Jf,rfl,g4,g13,g14,g15⟩
 simp only at hi Jf g4 g15
 have gZ:out.length=i:=by rw[xB Jf,List.length_take];omega
 by_cases cC:(i:Int)<(xs.length:Int)
 ·obtain⟨x,hx⟩:∃x,xs[i]? = some x:=⟨_,List.getElem?_eq_getElem (by omega)⟩
  have hxm:=List.mem_of_getElem? hx
  have e1:=fun H=>aF (f:=sV) (t := .op) (H:=H) (size:=1) (k := .i64) hx rfl
  have wi:IntKind.i64.wrap ((i:Int)+1)=((i+1:Nat):Int):=wrapN (i+1) (by omega) (by omega)
  have e2:=Il x.data.toList (by have:=hs x hxm;rw[Array.length_toList];show x.size≤_;omega)
  rw[←XX] at e2
  cases hp:pQ x with
  |
   none =>
   rw[Pp hp] at e2
   rw[mapM_none hp hxm]
   simp only[pF,g4,g13,g14,g15,cC,e1,e2,Hy,Ja,PG,aY,aX,aP,jX,Nat.reduceLeDiff,Nat.reduceLT,Nat.reduceSub,B6,iQ,kQ,rE,xW,zB,bne_iff_ne,ne_eq,not_false_eq_true,not_true_eq_false,VX,Nat.reduceEqDiff,Nat.reduceAdd]
   exact D0
  |
   some q =>
   rw[QC hp] at e2
   have eL:∀H,mV false [.bool false,.slice none 0 0,.slice none 0 0] 1 [(0,bU q)] H=some (.tree [bU q] (.cl 3),H):=fun H=>kH rfl rfl rfl
   have eS:∀H,dD 3 (.tree [bU q] (.cl 3)) H=some [bU q]:=fun H=>iC rfl rfl
   have eP:eJ 0 3 56 (.ref 0 i 0 i i) [bU q] [.row i (out.map bU) 3 true,.row 0 [bU q] 3 true]=some (.ref 0 (i+1) 0 (i+1) (i+1),[.row (i+1) ((out++[q]).map bU) 3 true,.row 0 [bU q] 3 true]):=by
    rw[iE (f:=bU) (xs:=out) (by rw[bG]) gZ.symm (Nat.le_refl _) (by decide) (by decide) (by omega),List.set_cons_zero]
   simp only[pF,g4,g13,g14,g15,cC,e1,e2,eL,eS,eP,wi,cQ,jM,jC,aM,bD,aW,jX,Nat.reduceLeDiff,Nat.reduceLT,Nat.reduceSub,B6,iQ,kQ,rE,xW,zB,bne_iff_ne,ne_eq,not_false_eq_true,not_true_eq_false,VX,Nat.reduceEqDiff,Nat.reduceAdd]
   refine⟨(i+1,out++[q]),by simp only;omega,?_,by simp only;omega,by simp only[kM hx];exact Ls Jf hp,rfl,?_⟩
   ·rw[Az (kX _ (cZ xG)),G1]
   ·simp only[sW,g13,g14,Ai (dF _),F6 (Nat.lt_succ_self 0),VX,Nat.reduceEqDiff,Nat.reduceAdd,List.take_zero,iG,List.all_nil,List.length_nil,sW,Jz,Ai]
 ·have oU:i=xs.length:=by omega
  subst oU
  rw[List.take_length] at Jf
  rw[Jf]
  simp only[pF,g4,g13,g14,g15,cC,VX,Nat.reduceEqDiff,Nat.reduceAdd]
  refine bF (d:=6) ?_ (aH (v:=VB true) rfl)
  have:=P8 (d:=5) (w:=true) (f:=bU) (e:=3) (b:=0) (g:=xs.length) (c:=xs.length) (xs:=out) (H:=[.row xs.length (out.map bU) 3 true]) xG (by rw[bG]) (by omega)
  rw[gZ] at this
  exact this
set_option maxHeartbeats 1000000 in
theorem Mw {lo:Nat} {H:aA} {q:Rat} (h:lo≤H.length):cJ lo 3 (.ptr H.length 0 0 0) (bU q) (H++[cell0])=some (H++[.row 0 [bU q] 3 true]):=by
 rw[jL (g:=0) (e:=3) (j:=0) C8 (by exact Nat.zero_lt_one) h rfl rfl,Jc]
 rfl
theorem XU {H K:aA} {q:Rat}:dG true 3 (.ptr H.length 0 0 0) (H ++ .row 0 [bU q] 3 true::K)=some (bU q):=by
 rw[jN,IH,bG]
 exact jC _
theorem IB {lo:Nat} {H:aA} {v:VV} (qs:List Rat) {B:Nat} (hv:Rd bU 3 qs H v) (eX:lo≤H.length) (hb:∀q∈qs,dT q≤B) (hk:qs.length*(B+1)+1≤1099511627776) (hB:B≤1099511627776) (hn:qs.length≤1000000000) :
  kG 142 [v] lo H (Uq (fun _ _ _ r=>r=bU (tK qs)) H):=by
 refine kG.walk ⟨true,false⟩ Iy (Nat.le_of_ble_eq_true rfl) ?_
 have e1:=Cl
 have e2:=hv.len (H++[cell0,.row 0 [bU 0] 3 true]) (List.prefix_append _ _)
 have s0:cJ lo 3 (.ptr (H.length+1) 0 0 0) (bU 0) (H++[cell0,cell0])=some (H++[cell0,.row 0 [bU 0] 3 true]):=by
  have:=Mw (lo:=lo) (H:=H++[cell0]) (q:=0) (by rw[List.length_append];omega)
  simpa only[List.length_append,List.length_cons,List.length_nil,Nat.zero_add,List.append_assoc,List.cons_append,List.nil_append] using this
 simp only[DM,Bp,e1,e2,s0,List.length_append,List.length_cons,List.length_nil,List.append_assoc,List.cons_append,List.nil_append,qE,VX,Nat.reduceEqDiff,Nat.reduceAdd,Nat.reduceLeDiff,Nat.reduceLT,Nat.reduceSub]
 refine aN (fun(i:Nat) ρ H1=>i≤qs.length∧H <+: H1∧aK H1 H.length 0=some ([rz],3,true)∧aK H1 (H.length+1) 0=some ([bU (tK (qs.take i))],3,true)∧ρ 2 = .ptr H.length 0 0 0∧ρ 3 = .ptr (H.length+1) 0 0 0∧ρ 0=v∧ρ 7=VI qs.length∧ρ 8=VI i) (fun i=>qs.length-i) 0 ⟨Nat.zero_le _,List.prefix_append _ _,IH.trans bG,TN.trans (C0.trans bG),rfl,rfl,rfl,rfl,rfl⟩ ?_
 rintro i ρ H1 ⟨hi,hp,Mj,Om,g2,g3,g0,g7,g8⟩
 have DX:=yA Om
 have s3:dG true 3 (.ptr (H.length+1) 0 0 0) H1=some (bU (tK (qs.take i))):=by
  rw[jN,Om]
  exact jC _
 by_cases cC:(i:Int)<(qs.length:Int)
 ·obtain⟨q,hq⟩:∃q,qs[i]? = some q:=⟨_,List.getElem?_eq_getElem (by omega)⟩
  obtain⟨p,a1,a2⟩:=hv.get H1 hp i q hq
  have a2':=(a2 true).trans (jC _)
  have wi:IntKind.i64.wrap ((i:Int)+1)=((i+1:Nat):Int):=wrapN (i+1) (by omega) (by omega)
  have h1:=Be hb i
  have h2:=hb q (List.mem_of_getElem? hq)
  have h3:(i+1)*(B+1)≤qs.length*(B+1):=Nat.mul_le_mul_right _ (by omega)
  have e3:=DL (tK (qs.take i)) q (by omega) (by omega)
  rw[←LH hq] at e3
  have s4:=jL (lo:=lo) (v:=bU (tK (qs.take (i+1)))) (j:=0) Om (by exact Nat.zero_lt_one) (by omega) rfl rfl
  rw[List.set_cons_zero] at s4
  simp only[sO,g2,g3,g0,g7,g8,cC,a1,a2',e3,s3,s4,wi,qE,VX,Nat.reduceEqDiff,Nat.reduceAdd,Nat.reduceLeDiff,Nat.reduceLT,Nat.reduceSub]
  exact⟨i+1,by omega,by omega,BQ hp (by omega),jD (by omega) Mj,jG Om,by (repeat' apply And.intro)<;>first | rfl | trivial | assumption⟩
 ·have oU:i=qs.length:=by omega
  subst oU
  rw[List.take_length] at s3
  have s4:=jL (lo:=lo) (v:=bU (tK qs)) (j:=0) Mj (by exact Nat.zero_lt_one) eX rfl rfl
  rw[List.set_cons_zero] at s4
  have s5:dG true 3 (.ptr H.length 0 0 0) (H1.set H.length (.row 0 [bU (tK qs)] 3 true))=some (bU (tK qs)):=by
   rw[jN,jG Mj]
   exact jC _
  simp only[sO,g2,g3,g7,g8,cC,s3,s4,s5,qE,VX,Nat.reduceEqDiff,Nat.reduceAdd,Nat.reduceLeDiff,Nat.reduceLT,Nat.reduceSub]
  exact⟨BQ hp (Nat.le_refl _),rfl⟩
theorem To {q:Rat}:q.num<0↔q<0:=by rw[←Int.not_le,Rat.num_nonneg];constructor<;>intro h<;>grind
theorem D6 (qs:List Rat) (hn:qs.length≤1000000000):TC 140 [aZ bU qs] (VB (!(qs.any fun q=>decide (q<0)))):=by
 refine TC.walk ⟨true,false⟩ Eu rfl (Nat.le_of_ble_eq_true rfl) (by simp[aL,D2]) rfl ?_
 simp only[zS,vZ,VX,Nat.reduceEqDiff,Nat.reduceAdd]
 refine aN (fun(i:Nat) ρ H=>i≤qs.length∧H=[]∧(∀j x,j<i→qs[j]? = some x→¬x<0)∧ρ 0=aZ bU qs∧ρ 5=VI qs.length∧ρ 6=VI i) (fun i=>qs.length-i) 0 ⟨Nat.zero_le _,rfl,fun j x h=>by omega,rfl,rfl,rfl⟩ ?_
 rintro i ρ H ⟨hi,rfl,kB,g0,g5,g6⟩
 by_cases cC:(i:Int)<(qs.length:Int)
 ·obtain⟨q,hq⟩:∃q,qs[i]? = some q:=⟨_,List.getElem?_eq_getElem (by omega)⟩
  have e2:=fun H=>aF (f:=bU) (t := .op) (H:=H) (size:=3) (k := .i64) hq rfl
  have wi:IntKind.i64.wrap ((i:Int)+1)=((i+1:Nat):Int):=wrapN (i+1) (by omega) (by omega)
  by_cases mD:q.num<0
  ·have ID:qs.any (fun q=>decide (q<0))=true:=List.any_eq_true.2 ⟨q,List.mem_of_getElem? hq,decide_eq_true (To.1 mD)⟩
   rw[ID]
   simp only[jW,g0,g5,g6,cC,e2,mD,lM,cQ,jM,jC,aM,bD,aW,jX,Nat.reduceLeDiff,Nat.reduceLT,Nat.reduceSub,B6,iQ,kQ,rE,xW,zB,bne_iff_ne,ne_eq,not_false_eq_true,not_true_eq_false,VX,Nat.reduceEqDiff,Nat.reduceAdd]
   exact aI rfl
  ·simp only[jW,g0,g5,g6,cC,e2,mD,wi,lM,cQ,jM,jC,aM,bD,aW,jX,Nat.reduceLeDiff,Nat.reduceLT,Nat.reduceSub,B6,iQ,kQ,rE,xW,zB,bne_iff_ne,ne_eq,not_false_eq_true,not_true_eq_false,VX,Nat.reduceEqDiff,Nat.reduceAdd]
   refine⟨i+1,by omega,by omega,fun j y hj hy => ?_,rfl⟩
   rcases Nat.lt_or_ge j i with KY | KY
   ·exact kB j y KY hy
   ·have:j=i:=by omega
    subst this
    rw[hq] at hy
    cases hy
    exact mt To.2 mD
 ·have oU:i=qs.length:=by omega
  subst oU
  have ID:qs.any (fun q=>decide (q<0))=false:=by
   rw[List.any_eq_false]
   intro x hx
   obtain⟨j,hj⟩:=List.getElem?_of_mem hx
   simpa using kB j x (List.getElem?_eq_some_iff.1 hj).1 hj
  rw[ID]
  simp only[jW,g0,g5,g6,cC,VX,Nat.reduceEqDiff,Nat.reduceAdd]
  exact aI rfl
theorem Rn {a b:Rat}:a=b↔(decide (a.num<0)=decide (b.num<0)∧a.num.natAbs*b.den=b.num.natAbs*a.den):=by
 constructor
 ·rintro rfl
  exact⟨rfl,rfl⟩
 ·rintro⟨h1,h2⟩
  have h3:a.num<0↔b.num<0:=by simpa using h1
  have ha:=a.den_nz
  have hb:=b.den_nz
  have key:a.num*b.den=b.num*a.den→a=b:=fun h=>by
   have:=(Rat.mkRat_eq_iff (n₁:=a.num) (n₂:=b.num) ha hb).2 h
   rwa [Rat.mkRat_self,Rat.mkRat_self] at this
  refine key ?_
  have e1:(a.num.natAbs:Int)*b.den=b.num.natAbs*a.den:=by exact_mod_cast h2
  by_cases hn:a.num<0
  ·have hn2:=h3.1 hn
   have q1:a.num = -(a.num.natAbs:Int):=by omega
   have q2:b.num = -(b.num.natAbs:Int):=by omega
   rw[q1,q2,Int.neg_mul,Int.neg_mul,e1]
  ·have hn2:=mt h3.2 hn
   have q1:a.num=(a.num.natAbs:Int):=by omega
   have q2:b.num=(b.num.natAbs:Int):=by omega
   rw[q1,q2,e1]
set_option maxHeartbeats 1000000 in
theorem Io (a b:Rat) (Yu:dT a≤1099511627776) (Ra:dT b≤1099511627776):TC 197 [bU a,bU b] (VB (decide (a=b))):=by
 refine TC.walk ⟨true,false⟩ Ik rfl (Nat.le_of_ble_eq_true rfl) (by simp only[aL,xG];rfl) rfl ?_
 have b1 := @Au a
 have b2 := @Au b
 have b3 := @zY a
 have b4 := @zY b
 have b5:=qQ a.num.natAbs b.den
 have b6:=qQ b.num.natAbs a.den
 have c1:=kD a.num.natAbs b.den (Nat.le_of_lt (pT (by omega))) (Nat.le_of_lt (pT (by omega)))
 have c2:=kD b.num.natAbs a.den (Nat.le_of_lt (pT (by omega))) (Nat.le_of_lt (pT (by omega)))
 have c3:=tB (a.num.natAbs*b.den) (b.num.natAbs*a.den) (Nat.le_of_lt (pT (by omega))) (Nat.le_of_lt (pT (by omega)))
 by_cases q1:decide (a.num<0)=decide (b.num<0)
 ·have q2:(decide (a.num<0) == decide (b.num<0))=true:=by simpa using q1
  have hz := @vF (a.num.natAbs*b.den) (b.num.natAbs*a.den)
  by_cases q3:eH (a.num.natAbs*b.den) (b.num.natAbs*a.den)=0
  ·rw[decide_eq_true (Rn.2 ⟨q1,hz.1 q3⟩)]
   simp only[tC,pM,c1,c2,c3,q2,q3,tZ,cQ,lM,pD,pE,aM,jX,Nat.reduceLeDiff,Nat.reduceLT,Nat.reduceSub,B6,iQ,kQ,rE,xW,zB,bne_iff_ne,ne_eq,not_false_eq_true,not_true_eq_false,VX,Nat.reduceEqDiff,Nat.reduceAdd]
   exact aI rfl
  ·rw[decide_eq_false (fun h=>q3 (hz.2 (Rn.1 h).2))]
   simp only[tC,pM,c1,c2,c3,q2,q3,tZ,cQ,lM,pD,pE,aM,jX,Nat.reduceLeDiff,Nat.reduceLT,Nat.reduceSub,B6,iQ,kQ,rE,xW,zB,bne_iff_ne,ne_eq,not_false_eq_true,not_true_eq_false,VX,Nat.reduceEqDiff,Nat.reduceAdd]
   exact aI rfl
 ·have q2:(decide (a.num<0) == decide (b.num<0))=false:=by simpa using q1
  rw[decide_eq_false (fun h=>q1 (Rn.1 h).1)]
  simp only[tC,pM,q2,tZ,cQ,lM,pD,pE,aM,jX,Nat.reduceLeDiff,Nat.reduceLT,Nat.reduceSub,B6,iQ,kQ,rE,xW,zB,bne_iff_ne,ne_eq,not_false_eq_true,not_true_eq_false,VX,Nat.reduceEqDiff,Nat.reduceAdd]
  exact aI rfl
theorem Fq (qs:List Rat) (hb:∀q∈qs,dT q≤665) (hl:qs.length≤300):TC 116 [aZ bU qs] (VB (jA qs)):=by
 refine TC.walk ⟨true,false⟩ Fk rfl (Nat.le_of_ble_eq_true rfl) (by simp[aL,D2]) rfl ?_
 have e1:=D6 qs (by omega)
 have e2:=fun(K:aA)=>IB (lo:=0) (H:=K) (v:=aZ bU qs) qs (Rd.tree Gu) (Nat.zero_le _) hb (JE hl) (by omega) (by omega)
 have ZM:=Be hb qs.length
 rw[List.take_length] at ZM
 have e3:=Li
 have hsr:=JE hl
 have e4:=Io (tK qs) 1 (by omega) (by rw[LU];omega)
 unfold jA
 cases ID:qs.any (fun q=>decide (q<0)) with
 |
  true =>
  rw[ID] at e1
  simp only[Bool.not_true,Bool.false_and] at e1 ⊢
  simp only[uA,rP,e1,VX,Nat.reduceEqDiff,Nat.reduceAdd]
  exact aI rfl
 |
  false =>
  rw[ID] at e1
  simp only[Bool.not_false,Bool.true_and] at e1 ⊢
  simp only[uA,rP,e1,VX,Nat.reduceEqDiff,Nat.reduceAdd]
  refine AV rfl (e2 _) fun r L hr => ?_
  subst hr
  simp only[e3,e4,VX,Nat.reduceEqDiff,Nat.reduceAdd]
  exact aI rfl
end Go.PM
namespace Go.PM
open Go.Lib
end Go.PM
namespace Go.PM
end Go.PM
namespace Go.PM
open Go.Lib
end Go.PM
namespace Go.PM
def yG:aD:=(LS [LO 2 (.mv (.const (.slice none 0 0))),LO 3 (.mv LF)] (LS [LM 7 0,LO 8 (.call 200 [(LT 7)]),LM 6 8,LO 9 (LX 6 0),LO 10 (LX 6 1),LM 4 9,LM 5 10] (.seq (LS [LM 11 5,LO 12 (.un .not (LT 11))] (.cond (LT 12) (LS [LO 2 (.mv (.const (.slice none 0 0))),LO 3 (.mv LF)] .ret) .skip)) (LS [LM 13 4,LM 2 13,LO 3 (.mv LG)] .ret))))
def Bz:aT:=⟨14,[(.tmp 2),(.tmp 3)],yG⟩
theorem FK:gE 132=some Bz:=by kernel_rfl
end Go.PM
namespace Go.PM
def lT:aD:=(LS [LO 4 (.mv (.const (.slice none 0 0))),LO 5 (.mv LF)] (LS [LM 11 0,LO 12 (.call 115 [(LT 11)]),LM 10 12,LO 13 (LX 10 0),LO 14 (LX 10 1),LM 6 13,LM 7 14] (.seq (LS [LM 15 7,LO 16 (.un .not (LT 15)),LM 17 16,LZ 17 18 (.mv (LT 6)),LZ 17 19 (.call 116 [(LT 18)]),LZ 17 20 (.un .not (LT 19)),LO 21 (.pick (LT 17) LG (LT 20)),LM 22 21,LZ 22 23 (.mv (LT 1)),LZ 22 24 (.len (LT 23)),LZ 22 25 (.mv (LT 6)),LZ 22 26 (.len (LT 25)),LZ 22 27 (.bin .neq (LT 24) (LT 26)),LO 28 (.pick (LT 22) LG (LT 27))] (.cond (LT 28) (LS [LO 4 (.mv (.const (.slice none 0 0))),LO 5 (.mv LF)] .ret) .skip)) (LS [LM 30 6,LM 31 1,LO 32 (.call 131 [(LT 30),(LT 31)]),LM 29 32,LO 33 (LX 29 0),LO 34 (LX 29 1),LM 8 33,LM 9 34] (.seq (LS [LM 35 9,LO 36 (.un .not (LT 35))] (.cond (LT 36) (LS [LO 4 (.mv (.const (.slice none 0 0))),LO 5 (.mv LF)] .ret) .skip)) (LS [LM 37 8,LO 38 (.call 132 [(LT 37)]),LO 39 (LX 38 0),LO 40 (LX 38 1),LM 4 39,LM 5 40] .ret))))))
def pC:aT:=⟨41,[(.tmp 4),(.tmp 5)],lT⟩
theorem Ih:gE 51=some pC:=by kernel_rfl
def nR:aD:=(.seq (LS [LM 12 7,LM 13 1,LO 14 (.len (LT 13)),LO 15 (.bin .lss (LT 12) (LT 14))] (.cond (LT 15) .skip (.exit 0))) (.seq (.block 1 (.seq (LS [LM 18 1,LM 19 7,LO 20 (.iaddr 1 (LT 18) (LT 19)),LO 21 (LL 20),LO 22 (.call 119 [(LT 21),(LI 0),(LI 11)]),LO 23 (.un .not (LT 22))] (.cond (LT 23) (LS [LO 4 (.mv (.const (.slice none 0 0))),LO 5 (.mv LF)] .ret) .skip)) (.cX [LM 24 6,LM 25 1,LM 26 7,LO 27 (.iaddr 1 (LT 25) (LT 26)),LO 28 (LL 27),LO 29 (.call 203 [(LT 24),(LT 28)]),LM 6 29]))) (.cX [LM 16 7,LO 17 (.bin .add (LT 16) (LI 1)),LM 7 17])))
def oL:aD:=(.seq (LS [LM 37 11,LM 38 1,LO 39 (.len (LT 38)),LO 40 (.bin .lss (LT 37) (LT 39))] (.cond (LT 40) .skip (.exit 4))) (.seq (.block 5 (LS [LM 43 1,LM 44 11,LO 45 (.iaddr 1 (LT 43) (LT 44)),LO 46 (LL 45),LM 47 9,LO 48 (.bin .eql (LT 46) (LT 47))] (.cond (LT 48) (.cX [LO 49 (LK 10),LM 50 0,LM 51 11,LO 52 (.iaddr 3 (LT 50) (LT 51)),LO 53 (LK 52),LQ 54 (.call 94 [(LT 49),(LT 53)]),LN (.store 3 (LT 10) (LT 54))]) .skip))) (.cX [LM 41 11,LO 42 (.bin .add (LT 41) (LI 1)),LM 11 42])))
def sR:aD:=(.seq (LS [LM 31 9,LM 32 6,LO 33 (.bin .leq (LT 31) (LT 32))] (.cond (LT 33) .skip (.exit 2))) (.seq (.block 3 (LS [LO 36 (.call 136 []),LO 10 (.new [(.bool false),(.slice none 0 0),(.slice none 0 0)]),LN (.store 3 (LT 10) (LT 36))] (.seq (LS [LO 11 (.mv (LI 0))] (.block 4 (.loop oL))) (.cX [LM 55 8,LO 56 (LK 10),LO 57 (.lit [(.bool false),(.slice none 0 0),(.slice none 0 0)] 1 [(0,(LT 56))]),LO 58 (.app 3 56 (LT 55) (LT 57)),LM 8 58])))) (.cX [LM 34 9,LO 35 (.bin .add (LT 34) (LI 1)),LM 9 35])))
def Bu:aD:=(LS [LO 4 (.mv (.const (.slice none 0 0))),LO 5 (.mv LF)] (LS [LO 6 (.mv (LI (-1)))] (.seq (LS [LO 7 (.mv (LI 0))] (.block 0 (.loop nR))) (LS [LO 30 (.lit [(.bool false),(.slice none 0 0),(.slice none 0 0)] 0 []),LM 8 30] (.seq (LS [LO 9 (.mv (LI 0))] (.block 2 (.loop sR))) (LS [LM 59 8,LM 4 59,LO 5 (.mv LG)] .ret))))))
def Dz:aT:=⟨60,[(.tmp 4),(.tmp 5)],Bu⟩
theorem IE:gE 131=some Dz:=by kernel_rfl
end Go.PM
namespace Go.PM
open Go.Lib
end Go.PM
namespace Go.PM
open Go.Lib
set_option maxHeartbeats 1000000 in
theorem EY (qs:List Rat) (hn:qs.length≤1000000) (hb:∀q∈qs,dT q≤1099511627776):FC 200 [aZ bU qs] (WX (HL sV 1 (wS qs)) (wS qs).isSome):=by
 refine FC.Qs ⟨true,false⟩ EP (Nat.le_of_ble_eq_true rfl) fun n => ?_
 have e0:∀K,mV false [.string ⟨#[]⟩] 0 [] K=some (.ref K.length 0 0 0 0,K++[.row 0 [] 1 true]):=fun K=>jJ rfl
 simp only[BD,xR,e0,List.length_replicate,qE,VX,Nat.reduceEqDiff,Nat.reduceAdd,Nat.reduceLeDiff,Nat.reduceLT,Nat.reduceSub]
 refine aN (fun(i:Nat) ρ H=>i≤qs.length∧(∀q∈qs.take i,uK q=true)∧H=List.replicate n cI.dead++[cI.row i (((qs.take i).map Im).map sV) 1 true]∧ρ 4 = .ref n i 0 i i∧ρ 0=aZ bU qs∧ρ 10=VI qs.length∧ρ 11=VI i) (fun i=>qs.length-i) 0 ⟨Nat.zero_le _,by simp,rfl,rfl,rfl,rfl,rfl⟩ ?_
 rintro i ρ H ⟨hi,nC,rfl,g4,g0,g10,g11⟩
 have qK:aK (List.replicate n cI.dead++[cI.row i (((qs.take i).map Im).map sV) 1 true]) n i=some (((qs.take i).map Im).map sV,1,true):=by rw[IL,bG]
 by_cases cC:(i:Int)<(qs.length:Int)
 ·obtain⟨q,hq⟩:∃q,qs[i]? = some q:=⟨_,List.getElem?_eq_getElem (by omega)⟩
  have hqm:=List.mem_of_getElem? hq
  have a1:=fun H=>aF (f:=bU) (t := .op) (H:=H) (size:=3) (k := .i64) hq rfl
  have wi:IntKind.i64.wrap ((i:Int)+1)=((i+1:Nat):Int):=wrapN (i+1) (by omega) (by omega)
  have e2:=JP q (hb q hqm)
  unfold OJ at e2
  cases hf:uK q with
  |
   false =>
   rw[if_neg (by simp[hf])] at e2
   rw[P7 hqm hf]
   simp only[lF,g4,g0,g10,g11,cC,a1,e2,jC,qE,VX,Nat.reduceEqDiff,Nat.reduceAdd,Nat.reduceLeDiff,Nat.reduceLT,Nat.reduceSub]
   exact⟨_,EN (by simp),rfl,FG,.tree [] .nil,rfl,rfl⟩
  |
   true =>
   rw[if_pos hf] at e2
   have eL:∀H,mV false [.string ⟨#[]⟩] 1 [(0,aR (Ds q))] H=some (.tree [sV (Im q)] (.cl 1),H):=fun H=>kH rfl rfl rfl
   have eS:∀H,dD 1 (.tree [sV (Im q)] (.cl 1)) H=some [sV (Im q)]:=fun H=>iC rfl rfl
   have eP:eJ n 1 16 (.ref n i 0 i i) [sV (Im q)] (List.replicate n cI.dead++[cI.row i (((qs.take i).map Im).map sV) 1 true])=some (.ref n (i+1) 0 (i+1) (i+1),List.replicate n cI.dead++[cI.row (i+1) (((qs.take (i+1)).map Im).map sV) 1 true]):=by
    rw[iE (f:=sV) (xs:=(qs.take i).map Im) qK (by simp;omega) (Nat.le_refl _) (by decide) (by decide) (by omega),kM hq]
    simp only[List.map_append,RP]
    rfl
   simp only[lF,g4,g0,g10,g11,cC,a1,e2,eL,eS,eP,wi,jC,qE,VX,Nat.reduceEqDiff,Nat.reduceAdd,Nat.reduceLeDiff,Nat.reduceLT,Nat.reduceSub]
   refine⟨i+1,by omega,by omega,fun p hp => ?_,by (repeat' apply And.intro)<;>first | rfl | trivial | assumption⟩
   rw[kM hq] at hp
   rcases List.mem_append.1 hp with h | h
   ·exact nC p h
   ·rw[List.mem_singleton] at h;subst h;exact hf
 ·have oU:i=qs.length:=by omega
  subst oU
  rw[List.take_length] at nC qK
  rw[Lp nC]
  simp only[lF,g4,g10,g11,cC,List.take_length,qE,VX,Nat.reduceEqDiff,Nat.reduceAdd,Nat.reduceLeDiff,Nat.reduceLT,Nat.reduceSub]
  refine⟨_,⟨rfl,fun _ _ _ _ _ h=>h⟩,by simp[fO,sQ,jS],by simp only[dA,List.all_cons,List.all_nil,Bool.and_true];exact Aq (fun _=>rfl) _,.ref n qs.length 0 qs.length qs.length,rfl,⟨n,qs.length,qs.length,Nat.le_refl _,by simp,by simp,by simp,qK⟩⟩
theorem FA (qs:List Rat) (hn:qs.length≤1000000) (hb:∀q∈qs,dT q≤1099511627776):FC 132 [aZ bU qs] (WX (HL sV 1 (wS qs)) (wS qs).isSome):=by
 refine FC.Qs ⟨true,false⟩ FK (Nat.le_of_ble_eq_true rfl) fun n => ?_
 simp only[Bz,yG,qE,VX,Nat.reduceEqDiff,Nat.reduceAdd,Nat.reduceLeDiff,Nat.reduceLT,Nat.reduceSub]
 refine UM (n:=n) (EY qs hn hb) rfl (fz1 (aI (D2 _))) ⟨[],by simp,rfl⟩ HL.cL fun u H2 p2 hO2 hou hu => ?_
 rw[List.length_replicate] at hu
 cases ht:wS qs with
 |
  none =>
  simp only[Option.isSome_none,qE,VX,Nat.reduceEqDiff,Nat.reduceAdd,Nat.reduceLeDiff,Nat.reduceLT,Nat.reduceSub]
  exact⟨_,EN (by have:=p2.length_le;simpa using this),rfl,FG,.tree [] .nil,rfl,rfl⟩
 |
  some ys =>
  rw[ht] at hu
  obtain⟨L,rfl,hL⟩:=hO2
  simp only[Option.isSome_some,qE,VX,Nat.reduceEqDiff,Nat.reduceAdd,Nat.reduceLeDiff,Nat.reduceLT,Nat.reduceSub]
  refine⟨L,⟨rfl,fun _ _ _ _ _ h=>h⟩,by simp[fO,sQ,hou,jS],hL,u,rfl,?_⟩
  rw[aiW] at hu
  exact hu
end Go.PM
namespace Go.PM
end Go.PM
namespace Go.PM
open Go.Lib
def SvS (s:KQ) (lo hi:Nat) (H:aA) (v:VV):Prop:=(∃a b c,v = .agg [a,b,c]∧bQ a=true∧bQ b=true∧bQ c=true∧∀n,n≤lo→fO n a=true∧fO n b=true∧fO n c=true)∧EZ (svV s) lo hi H v
theorem SvS.cL {s:KQ}:∀ {lo hi H H' v},SvS s lo hi H v→eE lo hi H H'→SvS s lo hi H' v:=fun h hk=>⟨h.1,h.2.cL hk⟩
theorem SvS.wide {s:KQ}:∀ {lo hi mU oV:Nat} {H:aA} {v:VV},SvS s lo hi H v→mU≤lo→hi≤oV→SvS s mU oV H v:=fun h hl hh=>by
 obtain⟨⟨a,b,c,h1,h2,h3,h4,h5⟩,h6⟩:=h
 exact⟨⟨a,b,c,h1,h2,h3,h4,fun n hn=>h5 n (by omega)⟩,fun H' hk=>h6 H' (hk.sub hl hh)⟩
theorem SvS.ag {s:KQ} {lo hi:Nat} {H:aA} {v:VV} (h:SvS s lo hi H v) (n:Nat) (hn:n≤lo):∃a b c,v = .agg [a,b,c]∧bQ a=true∧bQ b=true∧bQ c=true∧fO n a=true∧fO n b=true∧fO n c=true:=by
 obtain⟨⟨a,b,c,h1,h2,h3,h4,h5⟩,_⟩:=h
 exact⟨a,b,c,h1,h2,h3,h4,h5 n hn⟩
end Go.PM
namespace Go.PM
open Go.Lib
theorem UE {qs:List Rat} {x:List ByteArray} (h:wS qs=some x):x.length=qs.length:=by
 unfold wS at h
 split at h
 ·cases h
  rw[List.length_map]
 ·cases h
theorem HL.own {α:Type} {f:α→VV} {e lo hi n:Nat} {H:aA} {v:VV} {o:Option (List α)} (h:HL f e o lo hi H v) (hn:n≤lo):fO n v=true:=by
 cases o with
 |
  none =>
  have h:v = .tree [] .nil:=h
  subst h
  rfl
 |
  some ys =>
  obtain⟨b,g,c,h1,h2,rfl,h3⟩:=h
  simp[fO];omega
theorem Ui.own {α:Type} {f:α→VV} {e lo hi n:Nat} {H:aA} {v:VV} {bK:List (List α)} (h:Ui f e bK lo hi H v) (hn:n≤lo):fO n v=true:=by
 rcases h with⟨rfl,_⟩ | ⟨b,g,rs,q1,q2,rfl,_⟩
 ·rfl
 ·simp[fO];omega
end Go.PM
namespace Go.PM
open Go.Lib
end Go.PM
namespace Go.PM
open Go.Lib
end Go.PM
namespace Go.PM
open Go.Lib
end Go.PM
namespace Go.PM
open Go.Lib
theorem SC {ps:List Int} {i:Nat} {k:Int} (hk:ps[i]? = some k) (h0:0≤k):max ((gN ps i:Int)-1) k=(gN ps (i+1):Int)-1:=by
 rw[gN,List.getD_eq_getElem?_getD,hk,Option.getD_some]
 omega
set_option maxHeartbeats 2000000 in
theorem Is {lo:Nat} {H:aA} (w:List Rat) (ps:List Int) (eX:lo≤H.length) (hb:∀q∈w,dT q≤665) (hl:ps.length=w.length) (hn:w.length≤300) :
  kG 131 [aZ bU w,jQ ps] lo H (Uq (fun mU hi H' r=>if (∀k∈ps,0≤k∧k≤11) then ∃v,r = .dY [v,VB true]∧Hz bU 3 (kZ w ps ps.length) mU hi H' v else r = .dY [.tree [] .nil,VB false]) H):=by
 refine kG.walk ⟨true,false⟩ IE (Nat.le_of_ble_eq_true rfl) ?_
 simp only[Dz,Bu,Int.reduceNeg,qE,VX,Nat.reduceEqDiff,Nat.reduceAdd,Nat.reduceLeDiff,Nat.reduceLT,Nat.reduceSub]
 refine aN (fun(i:Nat) ρ H1=>i≤ps.length∧H1=H∧(∀k∈ps.take i,0≤k∧k≤11)∧ρ 0=aZ bU w∧ρ 1=jQ ps∧ρ 6=VI ((gN ps i:Int)-1)∧ρ 7=VI i) (fun i=>ps.length-i) 0 ⟨Nat.zero_le _,rfl,by simp,rfl,rfl,rfl,rfl⟩ ?_
 rintro i ρ H1 ⟨hi,rfl,nE,g0,g1,g6,g7⟩
 by_cases cC:(i:Int)<(ps.length:Int)
 ·obtain⟨k,hk⟩:∃k,ps[i]? = some k:=⟨_,List.getElem?_eq_getElem (by omega)⟩
  have a1:=fun H=>aF (f:=nV) (t := .op) (H:=H) (size:=1) (k := .i64) hk rfl
  have wi:IntKind.i64.wrap ((i:Int)+1)=((i+1:Nat):Int):=wrapN (i+1) (by omega) (by omega)
  have e2:=Nw k 0 11
  by_cases hr:0≤k∧k≤11
  ·rw[decide_eq_true hr] at e2
   have e3:=Le ((gN ps i:Int)-1) k
   rw[SC hk hr.1] at e3
   simp only[nR,g0,g1,g6,g7,cC,a1,e2,e3,wi,qE,VX,Nat.reduceEqDiff,Nat.reduceAdd,Nat.reduceLeDiff,Nat.reduceLT,Nat.reduceSub]
   refine⟨i+1,by omega,by omega,fun z hz => ?_,by (repeat' apply And.intro)<;>first | rfl | trivial | assumption⟩
   rw[kM hk] at hz
   rcases List.mem_append.1 hz with h | h
   ·exact nE z h
   ·rw[List.mem_singleton] at h
    subst h
    exact hr
  ·rw[decide_eq_false hr] at e2
   simp only[nR,g0,g1,g6,g7,cC,a1,e2,qE,VX,Nat.reduceEqDiff,Nat.reduceAdd,Nat.reduceLeDiff,Nat.reduceLT,Nat.reduceSub]
   refine⟨List.prefix_refl _,?_⟩
   show if ∀k∈ps,0≤k∧k≤11 then _ else _
   rw[if_neg (fun h:∀k∈ps,0≤k∧k≤11=>hr (h k (List.mem_of_getElem? hk)))]
 ·have oU:i=ps.length:=by omega
  subst oU
  rw[List.take_length] at nE
  have agQ:=zQ (ps:=ps) (i:=ps.length) (by rw[List.take_length];exact nE) (Nat.le_refl _)
  have e0:∀K,mV false [.bool false,.slice none 0 0,.slice none 0 0] 0 [] K=some (.ref K.length 0 0 0 0,K++[.row 0 [] 3 true]):=fun K=>jJ rfl
  simp only[nR,g0,g1,g6,g7,cC,e0,qE,VX,Nat.reduceEqDiff,Nat.reduceAdd,Nat.reduceLeDiff,Nat.reduceLT,Nat.reduceSub]
  refine aN (fun(p:Nat) ρ H2=>p≤gN ps ps.length∧H1 <+: H2∧aK H2 H1.length p=some ((vec p fun p=>lZ w ps p ps.length).map bU,3,true)∧ρ 0=aZ bU w∧ρ 1=jQ ps∧ρ 6=VI ((gN ps ps.length:Int)-1)∧ρ 8 = .ref H1.length p 0 p p∧ρ 9=VI p) (fun p=>gN ps ps.length-p) 0
   ⟨Nat.zero_le _,List.prefix_append _ _,C8,by (repeat' apply And.intro)<;>first | rfl | trivial | assumption⟩ ?_
  clear g0 g1 g6 g7 cC
  rintro p ρ H2 ⟨hp,zA,qK,g0,g1,g6,g8,g9⟩
  have FU:=yA qK
  by_cases hpm:(p:Int)≤(gN ps ps.length:Int)-1
  ·have wp:IntKind.i64.wrap ((p:Int)+1)=((p+1:Nat):Int):=wrapN (p+1) (by omega) (by omega)
   have e1:=Cl
   have s0:=Mw (lo:=lo) (H:=H2) (q:=0) (by omega)
   simp only[sR,g0,g1,g6,g8,g9,hpm,e1,s0,qE,VX,Nat.reduceEqDiff,Nat.reduceAdd,Nat.reduceLeDiff,Nat.reduceLT,Nat.reduceSub]
   refine aN (fun(i:Nat) ρ H3=>i≤ps.length∧H3=H2++[.row 0 [bU (lZ w ps p i)] 3 true]∧ρ 0=aZ bU w∧ρ 1=jQ ps∧ρ 6=VI ((gN ps ps.length:Int)-1)∧ρ 8 = .ref H1.length p 0 p p∧ρ 9=VI p∧ρ 10 = .ptr H2.length 0 0 0∧ρ 11=VI i) (fun i=>ps.length-i) 0 ⟨Nat.zero_le _,rfl,by (repeat' apply And.intro)<;>first | rfl | trivial | assumption⟩ ?_
   clear g0 g1 g6 g8 g9
   rintro i ρ H3 ⟨hi,rfl,g0,g1,g6,g8,g9,g10,g11⟩
   have l1:=XU (H:=H2) (K:=[]) (q:=lZ w ps p i)
   by_cases cC:(i:Int)<(ps.length:Int)
   ·obtain⟨k,hk⟩:∃k,ps[i]? = some k:=⟨_,List.getElem?_eq_getElem (by omega)⟩
    obtain⟨q,hq⟩:∃q,w[i]? = some q:=⟨_,List.getElem?_eq_getElem (by omega)⟩
    have a1:=fun H=>aF (f:=nV) (t := .op) (H:=H) (size:=1) (k := .i64) hk rfl
    have a2:=fun H=>aF (f:=bU) (t := .op) (H:=H) (size:=3) (k := .i64) hq rfl
    have wi:IntKind.i64.wrap ((i:Int)+1)=((i+1:Nat):Int):=wrapN (i+1) (by omega) (by omega)
    have Ay:lZ w ps p (i+1)=if k=(p:Int) then lZ w ps p i+q else lZ w ps p i:=by
     rw[lZ,List.getD_eq_getElem?_getD,hk,Option.getD_some,List.getD_eq_getElem?_getD,hq,Option.getD_some]
    by_cases hkp:k=(p:Int)
    ·rw[if_pos hkp] at Ay
     have b1:=Af (ps:=ps) (p:=p) hb i
     have b2:=hb q (List.mem_of_getElem? hq)
     have e2:=DL (lZ w ps p i) q (by omega) (by omega)
     rw[←Ay] at e2
     have s1:cJ lo 3 (.ptr H2.length 0 0 0) (bU (lZ w ps p (i+1))) (H2++[.row 0 [bU (lZ w ps p i)] 3 true])=some (H2++[.row 0 [bU (lZ w ps p (i+1))] 3 true]):=by
      rw[jL (g:=0) (e:=3) (j:=0) C8 (by exact Nat.zero_lt_one) (by omega) rfl rfl,Jc]
      rfl
     subst hkp
     simp only[oL,g0,g1,g9,g10,g11,cC,a1,a2,l1,e2,s1,wi,jC,qE,VX,Nat.reduceEqDiff,Nat.reduceAdd,Nat.reduceLeDiff,Nat.reduceLT,Nat.reduceSub]
     exact⟨i+1,by omega,by omega,by (repeat' apply And.intro)<;>first | rfl | trivial | assumption⟩
    ·rw[if_neg hkp] at Ay
     simp only[oL,g0,g1,g9,g10,g11,cC,hkp,a1,wi,qE,VX,Nat.reduceEqDiff,Nat.reduceAdd,Nat.reduceLeDiff,Nat.reduceLT,Nat.reduceSub]
     exact⟨i+1,by omega,by omega,by rw[Ay],by (repeat' apply And.intro)<;>first | rfl | trivial | assumption⟩
   ·have oU:i=ps.length:=by omega
    subst oU
    have eL:∀H,mV false [.bool false,.slice none 0 0,.slice none 0 0] 1 [(0,bU (lZ w ps p ps.length))] H=some (.tree [bU (lZ w ps p ps.length)] (.cl 3),H):=fun H=>kH rfl rfl rfl
    have eS:∀H,dD 3 (.tree [bU (lZ w ps p ps.length)] (.cl 3)) H=some [bU (lZ w ps p ps.length)]:=fun H=>iC rfl rfl
    have eP:=WV (lo:=lo) (bytes:=56) (x:=lZ w ps p ps.length) (tJ (L:=[.row 0 [bU (lZ w ps p ps.length)] 3 true]) qK) (by rw[tA]) eX (by decide) (by decide) (by omega)
    rw[←QL (f:=fun p=>lZ w ps p ps.length)] at eP
    simp only[oL,g0,g1,g6,g8,g9,g10,g11,cC,l1,eL,eS,eP,wp,qE,VX,Nat.reduceEqDiff,Nat.reduceAdd,Nat.reduceLeDiff,Nat.reduceLT,Nat.reduceSub]
    exact⟨p+1,by omega,by omega,BQ (Qp zA) (Nat.le_refl _),jG (tJ qK),by (repeat' apply And.intro)<;>first | rfl | trivial | assumption⟩
  ·have hpe:p=gN ps ps.length:=by omega
   simp only[sR,g6,g8,g9,hpm,qE,VX,Nat.reduceEqDiff,Nat.reduceAdd,Nat.reduceLeDiff,Nat.reduceLT,Nat.reduceSub]
   refine⟨zA,?_⟩
   show if ∀k∈ps,0≤k∧k≤11 then _ else _
   rw[if_pos nE]
   subst hpe
   exact⟨_,rfl,H1.length,_,_,Nat.le_refl _,FU,by rw[kZ,tA],by rw[kZ,tA];exact Nat.le_refl _,qK⟩
set_option maxHeartbeats 1000000 in
theorem Iu (ws:List ByteArray) (ps:List Int) (On:ws.length≤1000000000∧∀s∈ws,s.size≤1000000000) (hp:ps.length≤1000000000):FC 51 [eK ws,jQ ps] (WX (HL sV 1 (rY ws ps)) (rY ws ps).isSome):=by
 refine FC.Qs ⟨true,false⟩ Ih (Nat.le_of_ble_eq_true rfl) fun n => ?_
 have e1:=KC ws On.1 On.2
 cases hr:Bo ws with
 |
  none =>
  rw[hr,SU] at e1
  simp only[pC,lT,e1,qE,VX,Nat.reduceEqDiff,Nat.reduceAdd,Nat.reduceLeDiff,Nat.reduceLT,Nat.reduceSub]
  exact Ea (by simp) (by unfold rY;rw[Hi hr])
 |
  some w =>
  rw[hr,Ry] at e1
  obtain⟨hb,hwl,_⟩:=El hr
  have e2:=Fq w hb hwl
  cases hww:jA w with
  |
   false =>
   rw[hww] at e2
   simp only[pC,lT,e1,e2,qE,VX,Nat.reduceEqDiff,Nat.reduceAdd,Nat.reduceLeDiff,Nat.reduceLT,Nat.reduceSub]
   exact Ea (by simp) (by unfold rY;rw[B4 hr,if_neg (by simp[hww])])
  |
   true =>
   rw[hww] at e2
   have hw:oW ws=some w:=by rw[B4 hr,if_pos hww]
   by_cases hl:(ps.length:Int)=(w.length:Int)
   case neg =>
    simp only[pC,lT,e1,e2,hl,ne_eq,not_false_eq_true,decide_true,qE,VX,Nat.reduceEqDiff,Nat.reduceAdd,Nat.reduceLeDiff,Nat.reduceLT,Nat.reduceSub]
    exact Ea (by simp) (by unfold rY;rw[hw];exact if_neg (fun h=>hl (by omega)))
   simp only[pC,lT,e1,e2,hl,ne_eq,not_true_eq_false,decide_false,qE,VX,Nat.reduceEqDiff,Nat.reduceAdd,Nat.reduceLeDiff,Nat.reduceLT,Nat.reduceSub]
   refine AV rfl (Is w ps (by simp) hb (by omega) hwl) fun r L hx => ?_
   have hln:n≤(List.replicate n cI.dead++L).length:=by simp
   by_cases nE:∀k∈ps,0≤k∧k≤11
   ·rw[if_pos nE] at hx
    obtain⟨v,rfl,b,g,c,k1,k2,rfl,k3,k4⟩:=hx
    have BI:rY ws ps=wS (kZ w ps ps.length):=by unfold rY;rw[hw];exact if_pos ⟨by omega,nE⟩
    rw[BI]
    have agQ:=zQ (ps:=ps) (i:=ps.length) (by rw[List.take_length];exact nE) (Nat.le_refl _)
    have hlen:(kZ w ps ps.length).length=gN ps ps.length:=by rw[kZ,tA]
    have Ue:=IJ (d:=6) xG k4 k3
    simp only[qE,VX,Nat.reduceEqDiff,Nat.reduceAdd,Nat.reduceLeDiff,Nat.reduceLT,Nat.reduceSub]
    refine S3 (FA (kZ w ps ps.length) (by omega) (fun q hq => ?_)) rfl (fz1 Ue) hln fun v H2 hx => ?_
    ·obtain⟨p,_,rfl⟩:=T4.1 hq
     have:=Af (ps:=ps) (p:=p) hb ps.length
     omega
    ·simp only[qE,VX,Nat.reduceEqDiff,Nat.reduceAdd,Nat.reduceLeDiff,Nat.reduceLT,Nat.reduceSub]
     exact hx
   ·rw[if_neg nE] at hx
    subst hx
    simp only[qE,VX,Nat.reduceEqDiff,Nat.reduceAdd,Nat.reduceLeDiff,Nat.reduceLT,Nat.reduceSub]
    exact Ea hln (by unfold rY;rw[hw];exact if_neg (fun h=>nE h.2))
end Go.PM
namespace Go.PM
def iA:aD:=(LS [LO 4 (.mv LF)] (LS [LM 17 1,LO 18 (.len (LT 17)),LO 19 (.bin .sub (LI 1000000) (LT 18)),LM 5 19] (LS [LM 20 0,LM 21 5,LO 22 (.call 41 [(LT 20),(LT 21)]),LM 5 22] (.seq (LS [LM 23 5,LO 24 (.bin .lss (LT 23) (LI 0))] (.cond (LT 24) (LS [LO 4 (.mv LG)] .ret) .skip)) (LS [LM 26 0,LO 27 (.call 43 [(LT 26),LF]),LM 28 1,LO 29 (.call 52 [(LT 28),LF]),LO 30 (.call 51 [(LT 27),(LT 29)]),LM 25 30,LO 31 (LX 25 0),LO 32 (LX 25 1),LM 6 31,LM 7 32] (LS [LM 33 0,LO 34 (.call 43 [(LT 33),LF]),LM 8 34] (LS [LM 35 1,LO 36 (.call 52 [(LT 35),LF]),LM 9 36] (LS [LM 38 8,LM 39 9,LO 40 (.call 53 [(LT 38),(LT 39)]),LM 37 40,LO 41 (LX 37 0),LO 42 (LX 37 1),LM 10 41,LM 11 42] (.seq (LS [LM 43 10,LM 44 6,LO 45 (.call 54 [(LT 43),(LT 44)]),LO 46 (.un .not (LT 45)),LM 47 46,LZ 47 48 (.mv (LT 11)),LZ 47 49 (.mv (LT 7)),LZ 47 50 (.eqb true (LT 48) (LT 49)),LO 51 (.pick (LT 47) LG (LT 50))] (.cond (LT 51) (LS [LO 4 (.mv LF)] .ret) .skip)) (.seq (LS [LM 52 8,LM 53 0,LO 54 (.call 43 [(LT 53),LF]),LO 55 (.call 45 [(LT 52),(LT 54)]),LO 56 (.un .not (LT 55))] (.cond (LT 56) (LS [LO 4 (.mv LF)] .ret) .skip)) (.seq (LS [LM 57 9,LM 58 1,LO 59 (.call 52 [(LT 58),LF]),LO 60 (.call 55 [(LT 57),(LT 59)]),LO 61 (.un .not (LT 60))] (.cond (LT 61) (LS [LO 4 (.mv LF)] .ret) .skip)) (LS [LO 12 (.mv (LI 101))] (LS [LM 62 8,LM 63 12,LO 64 (.call 50 [(LT 62),(LT 63)]),LM 12 64] (LS [LM 65 9,LM 66 12,LO 67 (.call 56 [(LT 65),(LT 66)]),LM 12 67] (.seq (LS [LM 68 12,LO 69 (.bin .lss (LT 68) (LI 0)),LM 70 69,LZ 70 71 (.mv (LT 10)),LZ 70 72 (.mv (LT 6)),LZ 70 73 (.call 54 [(LT 71),(LT 72)]),LZ 70 74 (.un .not (LT 73)),LO 75 (.pick (LT 70) LG (LT 74)),LM 76 75,LZ 76 77 (.mv (LT 11)),LZ 76 78 (.mv (LT 7)),LZ 76 79 (.eqb true (LT 77) (LT 78)),LO 80 (.pick (LT 76) LG (LT 79))] (.cond (LT 80) (LS [LO 4 (.mv LF)] .ret) .skip)) (LS [LO 13 (.mv (LI 101))] (LS [LM 81 10,LM 82 13,LO 83 (.call 50 [(LT 81),(LT 82)]),LM 13 83] (LS [LO 14 (.mv (LI 101))] (LS [LM 84 10,LM 85 14,LO 86 (.call 57 [(LT 84),(LT 85)]),LM 14 86] (.seq (LS [LM 87 14,LO 88 (.bin .lss (LT 87) (LI 0))] (.cond (LT 88) (LS [LO 4 (.mv LF)] .ret) .skip)) (.seq (LS [LM 89 14,LM 90 13,LO 91 (.bin .neq (LT 89) (LT 90))] (.cond (LT 91) (LS [LO 4 (.mv LF)] .ret) .skip)) (LS [LM 93 0,LO 94 (.call 43 [(LT 93),LG]),LM 95 1,LO 96 (.call 52 [(LT 95),LG]),LO 97 (.call 53 [(LT 94),(LT 96)]),LM 92 97,LO 98 (LX 92 0),LO 99 (LX 92 1),LM 15 98,LM 16 99] (.seq (LS [LM 100 15,LM 101 6,LO 102 (.call 54 [(LT 100),(LT 101)]),LO 103 (.un .not (LT 102)),LM 104 103,LZ 104 105 (.mv (LT 16)),LZ 104 106 (.mv (LT 7)),LZ 104 107 (.eqb true (LT 105) (LT 106)),LO 108 (.pick (LT 104) LG (LT 107))] (.cond (LT 108) (LS [LO 4 (.mv LF)] .ret) .skip)) (LS [LO 14 (.mv (LI 101))] (LS [LM 109 10,LM 110 14,LO 111 (.call 57 [(LT 109),(LT 110)]),LM 14 111] (.seq (LS [LM 112 14,LO 113 (.bin .lss (LT 112) (LI 0))] (.cond (LT 113) (LS [LO 4 (.mv LF)] .ret) .skip)) (.seq (LS [LM 114 14,LM 115 13,LO 116 (.bin .neq (LT 114) (LT 115))] (.cond (LT 116) (LS [LO 4 (.mv LF)] .ret) .skip)) (LS [LO 4 (.mv LG)] .ret))))))))))))))))))))))))))))
def jB:aT:=⟨117,[(.tmp 4)],iA⟩
theorem Ba:gE 10=some jB:=by kernel_rfl
end Go.PM
namespace Go.PM
structure TQ (s:KQ):Prop where
 b:s.b.length≤100
 g:s.g.length≤100
 r:∀x∈s.g,x.length≤100
 e:s.e.length≤100
theorem A7 {β:Type}:∀ {xs:List (List β)} {n:Nat},(∀x∈xs,x.length≤n)→Es xs≤xs.length*n
 | [],n,_=>by simp[Es]
 |
  x::xs,n,h=>by
  have h1:=h x List.mem_cons_self
  have h2:=A7 (xs:=xs) (n:=n) fun y hy=>h y (List.mem_cons_of_mem _ hy)
  have e:Es (x::xs)=x.length+Es xs:=by simp[Es]
  rw[e,List.length_cons,Nat.add_mul,Nat.one_mul]
  omega
theorem TQ.n {s:KQ} (h:TQ s):svN s≤10200:=by
 have h1:=A7 h.r
 have h2:s.g.length*100≤100*100:=Nat.mul_le_mul_right _ h.g
 have h3:=h.b
 have h4:=h.e
 unfold svN
 omega
end Go.PM
namespace Go.PM
structure T1 (s:List (List ByteArray)):Prop where
 g:s.length≤100
 r:∀x∈s,x.length≤100
theorem T1.n {s:List (List ByteArray)} (h:T1 s):Es s≤10000:=by
 have h1:=A7 h.r
 have h2:s.length*100≤100*100:=Nat.mul_le_mul_right _ h.g
 omega
theorem Yf {lo:Nat} {s:List ByteArray} {H:aA} {v w:VV} {K:VV→aA→Prop} (hs:s.length≤1000) (hv:PM.fz depth H v=some (eK s)) (hw:PM.fz depth H w=some (eK s)):cB 54 [v,w] lo H K=K (VB true) H:=by
 have h:=zR s s (by omega)
 rw[decide_eq_true rfl] at h
 exact TC.flat h rfl (GM (dF _) (dF _)) (WA hv hw) rfl _ _
theorem T9 {lo:Nat} {s:List ByteArray} {H:aA} {v:VV} {K:VV→aA→Prop} (hs:s.length≤1000) (hv:PM.fz depth H v=some (eK (nK 101 s.length))):cB 57 [v,VI 101] lo H K=K (VI (101+s.length)) H:=by
 have h:=D8 101 s.length (by omega) (by omega)
 exact TC.flat h rfl (GM (dF _) rfl) (WA hv (aI rfl)) rfl _ _
end Go.PM
namespace Go.PM
theorem QR (ws:List ByteArray) (ps:List Int):((rY ws ps).getD []).length≤12:=by
 unfold rY
 split
 ·rename_i w hw
  split
  ·rename_i h
   cases ht:wS (kZ w ps ps.length) with
   | none=>exact Nat.zero_le _
   |
    some y =>
    have h1:=UE ht
    have h2:(kZ w ps ps.length).length=gN ps ps.length:=by rw[kZ,tA]
    have h3:=zQ (ps:=ps) (i:=ps.length) (by rw[List.take_length];exact h.2) (Nat.le_refl _)
    rw[Option.getD_some]
    omega
  ·exact Nat.zero_le _
 ·exact Nat.zero_le _
theorem Eb (xs:List ByteArray) (left:Int) (hx:xs.length≤140737488355328) (hl:left<0 ∧ -1000000000000000≤left):TC 41 [eK xs,VI left] (VI (-1)):=by
 refine TC.walk ⟨true,false⟩ Aa rfl (Nat.le_of_ble_eq_true rfl) (GM (dF _) rfl) rfl ?_
 have w:IntKind.i64.wrap (left-(xs.length:Int))=left-(xs.length:Int):=wrap64 (by omega) (by omega)
 have h:left-(xs.length:Int)<0:=by omega
 simp only[rC,oK,w,h,VX,Nat.reduceEqDiff,Nat.reduceAdd]
 exact aI rfl
set_option maxHeartbeats 4000000 in
theorem AU (s0:List ByteArray) (Q2:List Int) (Wo:okS s0) (Xx:s0.length≤140737488355328) (hn1:Q2.length≤140737488355328):TC 10 [eK s0,jQ Q2] (.sc (.bool true)):=by
 refine TC.walk ⟨true,false⟩ Ba rfl (Nat.le_of_ble_eq_true rfl) (GM (dF _) (C1 _)) rfl ?_
 have w1:IntKind.i64.wrap (1000000-(Q2.length:Int))=1000000-(Q2.length:Int):=wrap64 (by omega) (by omega)
 by_cases azX:1000000-(Q2.length:Int)<0
 ·have RB:=Eb s0 (1000000-(Q2.length:Int)) Xx (by omega)
  simp only[jB,iA,w1,RB,Int.reduceNeg,Int.reduceLT,qE,VX,Nat.reduceEqDiff,Nat.reduceAdd,Nat.reduceLeDiff,Nat.reduceLT,Nat.reduceSub]
  exact aI rfl
 have RB:=Gc s0 (1000000-(Q2.length:Int)) Wo (by omega)
 by_cases akG:WW s0 (1000000-(Q2.length:Int))<0
 ·rw[aeV akG (by omega)] at RB
  simp only[jB,iA,w1,RB,Int.reduceNeg,Int.reduceLT,qE,VX,Nat.reduceEqDiff,Nat.reduceAdd,Nat.reduceLeDiff,Nat.reduceLT,Nat.reduceSub]
  exact aI rfl
 obtain⟨aAu,Wy,ZL⟩:=ahI (xs:=s0) (l:=1000000-(Q2.length:Int)) (by omega)
 have On:s0.length≤1000000000∧∀s∈s0,s.size≤1000000000:=⟨by omega,fun s h=>by have:=ZL s h;omega⟩
 have t0':=fun b=>F2 s0 b (by omega)
 have t1':=fun b=>Ig Q2 b (by omega)
 have cs:=Iu s0 Q2 On (by omega)
 have ci:=HX s0 Q2 On (by omega)
 have Xz:=QR s0 Q2
 generalize BI:rY s0 Q2=o at *
 simp only[jB,iA,w1,RB,akG,qE,VX,Nat.reduceEqDiff,Nat.reduceAdd,Nat.reduceLeDiff,Nat.reduceLT,Nat.reduceSub]
 refine Nq (t0' false) rfl Gs (fun _=>rfl) fun r1 H1 p1 s1' => ?_
 simp only[qE,VX,Nat.reduceEqDiff,Nat.reduceAdd,Nat.reduceLeDiff,Nat.reduceLT,Nat.reduceSub]
 refine Nq (t1' false) rfl KL (fun _=>rfl) fun r2 H2 p2 s2' => ?_
 simp only[qE,VX,Nat.reduceEqDiff,Nat.reduceAdd,Nat.reduceLeDiff,Nat.reduceLT,Nat.reduceSub]
 refine Ks cs rfl (WA (s1'.pre p2).now s2'.now) HL.cL fun v3 H3 p3 v3' => ?_
 simp only[qE,VX,Nat.reduceEqDiff,Nat.reduceAdd,Nat.reduceLeDiff,Nat.reduceLT,Nat.reduceSub]
 refine Nb (t0' false) rfl Gs (fun _=>rfl) fun b4 H4 p4 lo4 r4 => ?_
 simp only[qE,VX,Nat.reduceEqDiff,Nat.reduceAdd,Nat.reduceLeDiff,Nat.reduceLT,Nat.reduceSub]
 refine Nb (t1' false) rfl KL (fun _=>rfl) fun b5 H5 p5 lo5 r5 => ?_
 simp only[qE,VX,Nat.reduceEqDiff,Nat.reduceAdd,Nat.reduceLeDiff,Nat.reduceLT,Nat.reduceSub]
 refine Ks ci rfl (WA (F5 (fun _=>rfl) (fS p5 r4)) (F5 (fun _=>rfl) r5)) HL.cL fun v6 H6 p6 v6' => ?_
 have hW:=v3'.lg
 have hG:=v6'.lg
 generalize hv0:o.getD []=val at *
 generalize ho0:o.isSome=ok at *
 clear v3' v6'
 have le3:=p3.length_le
 have le4:=p4.length_le
 have le5:=p5.length_le
 have le6:=p6.length_le
 have bl4:=yA r4
 have bl5:=yA r5
 have kb:Lm true (Value.bool ok) (Value.bool ok)=some (.bool false):=Y4 ok
 have W6:=hW.cL (eE.pre ((p4.trans p5).trans p6))
 simp only[Yf (by omega) (hG.fz (d:=6) fun _=>rfl) (W6.fz (d:=6) fun _=>rfl),kb,qE,VX,Nat.reduceEqDiff,Nat.reduceAdd,Nat.reduceLeDiff,Nat.reduceLT,Nat.reduceSub]
 refine Nb (t0' false) rfl Gs (fun _=>rfl) fun b7 H7 p7 lo7 r7 => ?_
 simp only[qE,VX,Nat.reduceEqDiff,Nat.reduceAdd,Nat.reduceLeDiff,Nat.reduceLT,Nat.reduceSub]
 refine B2 s0 (by omega) (fS ((p5.trans p6).trans p7) r4) r7 ?_
 simp only[qE,VX,Nat.reduceEqDiff,Nat.reduceAdd,Nat.reduceLeDiff,Nat.reduceLT,Nat.reduceSub]
 refine Nb (t1' false) rfl KL (fun _=>rfl) fun b8 H8 p8 lo8 r8 => ?_
 simp only[qE,VX,Nat.reduceEqDiff,Nat.reduceAdd,Nat.reduceLeDiff,Nat.reduceLT,Nat.reduceSub]
 refine Dn Q2 (by omega) (fS ((p6.trans p7).trans p8) r5) r8 ?_
 simp only[qE,VX,Nat.reduceEqDiff,Nat.reduceAdd,Nat.reduceLeDiff,Nat.reduceLT,Nat.reduceSub]
 have W8:=W6.cL (eE.pre (p7.trans p8))
 have G8:=hG.cL (eE.pre (p7.trans p8))
 refine UW (fS (((p5.trans p6).trans p7).trans p8) r4) (Nat.zero_le _) (by omega) (by omega) fun x0 => ?_
 simp only[qE,VX,Nat.reduceEqDiff,Nat.reduceAdd,Nat.reduceLeDiff,Nat.reduceLT,Nat.reduceSub]
 refine Vz (jD (by omega) (fS ((p6.trans p7).trans p8) r5)) (Nat.zero_le _) (by omega) (by omega) fun x1 => ?_
 have W9:=(W8.cL (eE.set (x:=x0) (b:=b4) (by omega))).cL (eE.set (x:=x1) (b:=b5) (by omega))
 have G9:=(G8.cL (eE.set (x:=x0) (b:=b4) (by omega))).cL (eE.set (x:=x1) (b:=b5) (by omega))
 have k9:¬(101+(s0.length:Int)+(Q2.length:Int))<0:=by omega
 simp only[k9,Yf (by omega) (G9.fz (d:=6) fun _=>rfl) (W9.fz (d:=6) fun _=>rfl),kb,qE,VX,Nat.reduceEqDiff,Nat.reduceAdd,Nat.reduceLeDiff,Nat.reduceLT,Nat.reduceSub]
 refine ZS G9 (Nat.zero_le _) (by omega) (by omega) fun M1 ml mG mk => ?_
 have k0:¬(101+(val.length:Int))<0:=by omega
 have mW:=W9.cL (H':=M1) fun b g x h1 h2 h3=>mk b g x (by omega) h3
 simp only[T9 (s:=val) (by omega) (mG.fz (d:=6) fun _=>rfl),k0,ne_eq,not_true_eq_false,decide_false,qE,VX,Nat.reduceEqDiff,Nat.reduceAdd,Nat.reduceLeDiff,Nat.reduceLT,Nat.reduceSub]
 generalize M1=H9 at *
 refine Nq (t0' true) rfl Gs (fun _=>rfl) fun r10 H10 p10 aqI => ?_
 simp only[qE,VX,Nat.reduceEqDiff,Nat.reduceAdd,Nat.reduceLeDiff,Nat.reduceLT,Nat.reduceSub]
 refine Nq (t1' true) rfl KL (fun _=>rfl) fun r11 H11 p11 aqK => ?_
 simp only[qE,VX,Nat.reduceEqDiff,Nat.reduceAdd,Nat.reduceLeDiff,Nat.reduceLT,Nat.reduceSub]
 refine Ks ci rfl (WA (aqI.pre p11).now aqK.now) HL.cL fun v12 H12 p12 asY => ?_
 have X1:=asY.lg
 try rw[hv0] at X1
 try rw[ho0]
 have nW:=mW.cL (eE.pre ((p10.trans p11).trans p12))
 have nG:=mG.cL (eE.pre ((p10.trans p11).trans p12))
 simp only[Yf (by omega) (X1.fz (d:=6) fun _=>rfl) (nW.fz (d:=6) fun _=>rfl),kb,T9 (s:=val) (by omega) (nG.fz (d:=6) fun _=>rfl),k0,ne_eq,not_true_eq_false,decide_false,qE,VX,Nat.reduceEqDiff,Nat.reduceAdd,Nat.reduceLeDiff,Nat.reduceLT,Nat.reduceSub]
 exact aI rfl
end Go.PM
namespace Go.PM
open Go.Proofs
theorem Dx {P:Program} {w:World} {name:String} {d:DataW Unit}:∀ {l:List (String×DataW Unit)} {ps:List MemPlace},DataW.LaidVars P w l ps→(name,d)∈l →
  ∃g t cs fuel p,P.globalNamed name=some g∧(P.globals[g]?).map (·.type)=some t∧w.var? P name=some cs∧DataW.trod (fun _=>()) P w 0 (fun _=>true) false fuel t cs.toList=some (d,p)
 | [],_,_,hm=>by cases hm
 |
  (n,e)::r,ps,h,hm=>by
  obtain⟨g,t,cs,fuel,p,q,h1,h2,h3,h4,h5,_⟩:=h
  rcases List.mem_cons.1 hm with he | hm
  ·cases he
   exact⟨g,t,cs,fuel,p,h1,h2,h3,h4⟩
  ·exact Dx h5 hm
theorem I8 {W:World} {l:List (String×DataW Unit)} (hl:laidMetH Tryz.prog l W) (hp:(l.all fun x=>x.2.handleName?.isNone)=true) (hm:("internal/strconv.uint64pow10",Lib.tabData .u64 Lib.pow10Tab)∈l)
  {t e:TypeId} {n:Nat} (hty:(Tryz.prog.globals[1]?).map (·.type)=some t) (ht:Tryz.prog.underlying t=some (.array n e)) (he:Tryz.prog.underlying e=some (.int .u64)) (hce:Tryz.prog.cellsOf e=1) (hct:Tryz.prog.cellsOf t=n):Nh W:=by
 rw[MakeChecks.laidMetH_plain _ _ _ hp] at hl
 obtain⟨ps,h1,_⟩:=hl
 obtain⟨g',t',cs,fuel,p,Xn,ht',Xs,hd⟩:=Dx h1 hm
 have hg:Tryz.prog.globalNamed "internal/strconv.uint64pow10"=some 1:=by kernel_rfl
 obtain rfl:=Option.some.inj (hg.symm.trans Xn)
 obtain rfl:=Option.some.inj (hty.symm.trans ht')
 have IN:=Lib.cells_of_tab ht he hce hct hd
 intro x hx
 have Vp:x=(1,(Lib.pow10Tab.map fun z=>Value.int .u64 z).toArray):=by simpa[aaL] using hx
 subst Vp
 unfold World.var? at Xs
 rw[hg,Option.bind_some] at Xs
 split at Xs
 ·rename_i zG e' fz' hh
  cases Xs
  refine⟨e',fz',?_⟩
  rw[←IN]
  simpa using hh
 ·cases Xs
end Go.PM