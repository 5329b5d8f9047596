/- Texts of a claim, in one: part 11. -/
import Derived.KernelRfl
import Derived.Test.YtodamlihdkalfaaGreatDoorKVj
set_option linter.unusedSimpArgs false
set_option linter.unusedVariables false
namespace Go.PM
open Go.Lib
def fX (c:UInt8):List UInt8→List (List UInt8)
 | []=>[[]]
 |
  x::r=>if x=c then []::fX c r else match fX c r with
  | []=>[[x]]
  | a::t=>(x::a)::t
theorem H8 {c:UInt8} {r:List UInt8}:∀ {a:List UInt8},c∉a→fX c (a++c::r)=a::fX c r:=by
 intro a
 induction a with
 | nil=>intro _;rw[List.nil_append,fX,if_pos rfl]
 |
  cons x a ih =>
  intro h
  rw[List.mem_cons,not_or] at h
  rw[List.cons_append,fX,if_neg (fun he=>h.1 he.symm),ih h.2]
theorem Dd {c:UInt8}:∀ {a:List UInt8},c∉a→fX c a=[a]:=by
 intro a
 induction a with
 | nil=>intro _;rfl
 |
  cons x a ih =>
  intro h
  rw[List.mem_cons,not_or] at h
  rw[fX,if_neg (fun he=>h.1 he.symm),ih h.2]
theorem PY {c:UInt8} (l:List UInt8):fX c l≠[]:=by
 cases l with
 | nil=>simp[fX]
 |
  cons x r =>
  rw[fX]
  split
  ·simp
  ·split<;>simp
theorem Oi {c:UInt8} {l:List UInt8} (h:(kH c l).2=none):fX c l=[l]:=Dd (xU h).2.2
theorem GN {c:UInt8} {l r:List UInt8} (h:(kH c l).2=some r):fX c l=(kH c l).1::fX c r:=by
 obtain⟨_,h2,h3⟩:=Fm h
 have:=H8 (r:=r) h3
 rw[←h2] at this
 exact this
theorem NT {c:UInt8} {l:List UInt8} (h:c∈l):2≤(fX c l).length:=by
 cases hc:(kH c l).2 with
 | none=>exact absurd h (xU hc).2.2
 |
  some r =>
  rw[GN hc,List.length_cons]
  have:=List.length_pos_iff.2 (PY (c:=c) r)
  omega
theorem UW {l:List UInt8} {i:Nat} (h:i<l.length):(l.take (i+1)).all gK=((l.take i).all gK&&gK (l.getD i 0)):=by
 rw[List.take_add_one,List.all_append]
 have:l[i]? = some (l.getD i 0):=by rw[List.getElem?_eq_getElem h,List.getD_eq_getElem?_getD,List.getElem?_eq_getElem h];rfl
 rw[this]
 simp
set_option maxHeartbeats 1000000 in
theorem mZ (l:List UInt8) (hl:l.length≤1000000000000):TC 223 [aO l] (VB (gD l)):=by
 refine TC.walk ⟨true,false⟩ FB rfl (Nat.le_of_ble_eq_true rfl) rfl rfl ?_
 simp only[A3,yL,VX,Nat.reduceEqDiff,Nat.reduceAdd]
 refine aR (fun(i:Nat) ρ H=>i≤l.length∧H=[]∧(l.take i).all gK=true∧ρ 0=aO l∧ρ 3=VI i) (fun i=>l.length-i) 0 ⟨Nat.zero_le _,rfl,rfl,rfl,rfl⟩ ?_
 rintro i ρ H ⟨hi,rfl,hd,g0,g3⟩
 by_cases dK:(i:Int)<(l.length:Int)
 ·have Qk:i<l.length:=by omega
  have e1:=A8 l Qk
  have wi:IntKind.i64.wrap ((i:Int)+1)=((i+1:Nat):Int):=wrapN (i+1) (by omega) (by omega)
  have ht:=UW Qk
  rw[hd,Bool.true_and] at ht
  have P6:gK (l.getD i 0)=(decide (48≤(l.getD i 0).toNat)&&decide ((l.getD i 0).toNat≤57)):=rfl
  have mT:gK (l.getD i 0)=false→gD l=false:=by
   intro h
   rw[h] at ht
   have:l.all gK=false:=by rw[←List.take_append_drop (i+1) l,List.all_append,ht,Bool.false_and]
   unfold gD
   rw[this]
   rfl
  generalize (l.getD i 0).toNat=c at *
  by_cases q1:(c:Int)<48
  ·rw[mT (by rw[P6,decide_eq_false (by omega)];rfl)]
   simp only[dI,g0,g3,bC,dK,e1,q1,VX,Nat.reduceEqDiff,Nat.reduceAdd]
   exact aI rfl
  ·by_cases q2:(57:Int)<(c:Int)
   ·rw[mT (by rw[P6,decide_eq_false (show ¬c≤57 by omega),Bool.and_false])]
    simp only[dI,g0,g3,bC,dK,e1,q1,q2,VX,Nat.reduceEqDiff,Nat.reduceAdd]
    exact aI rfl
   ·rw[P6,decide_eq_true (by omega),decide_eq_true (by omega),Bool.and_self] at ht
    simp only[dI,g0,g3,bC,dK,e1,q1,q2,wi,VX,Nat.reduceEqDiff,Nat.reduceAdd]
    exact⟨i+1,by omega,by omega,ht,rfl⟩
 ·have qG:i=l.length:=by omega
  subst qG
  rw[List.take_length] at hd
  by_cases h1:(1:Int)≤(l.length:Int)
  ·by_cases h2:(l.length:Int)≤200
   ·by_cases h3:(l.length:Int)=1
    ·rw[iI.2 ⟨hd,by omega,by omega,.inl (by omega)⟩]
     simp only[dI,g0,g3,bC,dK,ge_iff_le,h1,h2,h3,Int.reduceLE,Int.reduceLT,VX,Nat.reduceEqDiff,Nat.reduceAdd]
     exact aI rfl
    ·have e1:=F4 l (by omega)
     by_cases h4:(((l.getD 0 0).toNat:Int)=48)
     ·have hk:gD l=false:=by
       cases h:gD l with
       | false=>rfl
       |
        true =>
        rcases(iI.1 h).2.2.2 with h5 | h5
        ·omega
        ·exact absurd (UInt8.toNat_inj.1 (by rw[show (48:UInt8).toNat=48 from rfl];omega)) h5
      rw[hk]
      simp only[dI,g0,g3,bC,dK,ge_iff_le,h1,h2,h3,h4,e1,VX,Nat.reduceEqDiff,Nat.reduceAdd]
      exact aI rfl
     ·have h5:l.getD 0 0≠48:=fun h=>h4 (by rw[h];rfl)
      rw[iI.2 ⟨hd,by omega,by omega,.inr h5⟩]
      simp only[dI,g0,g3,bC,dK,ge_iff_le,h1,h2,h3,h4,e1,VX,Nat.reduceEqDiff,Nat.reduceAdd]
      exact aI rfl
   ·have hk:gD l=false:=by
     cases h:gD l with
     | false=>rfl
     | true=>have:=(iI.1 h).2.2.1;omega
    rw[hk]
    simp only[dI,g0,g3,bC,dK,ge_iff_le,h1,h2,VX,Nat.reduceEqDiff,Nat.reduceAdd]
    exact aI rfl
  ·have hk:gD l=false:=by
    cases h:gD l with
    | false=>rfl
    | true=>have:=(iI.1 h).2.1;omega
   rw[hk]
   simp only[dI,g0,g3,bC,dK,ge_iff_le,h1,VX,Nat.reduceEqDiff,Nat.reduceAdd]
   exact aI rfl
set_option maxHeartbeats 1000000 in
theorem CP (l:List UInt8) (c:UInt8) (hl:l.length≤1000000000000):TC 222 [aO l,.sc (.int .u8 (c.toNat:Int))] (bK aO (fX c l)):=by
 refine TC.walk ⟨true,false⟩ J3 rfl (Nat.le_of_ble_eq_true rfl) rfl (BP (size:=1) (fun _=>rfl) (fun _=>rfl) fun _=>rfl) ?_
 have e3:∀lr,jM lr [.string ⟨#[]⟩] 0 [] []=some (.ref 0 0 0 0 0,[.row 0 (([]:List (List UInt8)).map aO) 1 true]):=fun lr=>iN (H:=[]) (lr:=lr) (z:=[.string ⟨#[]⟩]) rfl
 have e4:∀(x:List UInt8) (H:aA),jM false [.string ⟨#[]⟩] 1 [(0,aO x)] H=some (.tree [aO x] (.cl 1),H):=fun x H=>eW (z:=[.string ⟨#[]⟩]) rfl rfl rfl
 have e5:∀(x:List UInt8) (H:aA),cM 1 (.tree [aO x] (.cl 1)) H=some [aO x]:=fun x H=>eG rfl rfl
 simp only[GY,C2,e3,VX,Nat.reduceEqDiff,Nat.reduceAdd]
 refine aR (fun(s:List (List UInt8)×Nat×Nat) ρ H=>H=[.row s.1.length (s.1.map aO) 1 true]∧s.2.1≤s.2.2∧s.2.2≤l.length+1∧s.1.length≤s.2.1 ∧
  ((s.2.2≤l.length∧fX c l=s.1++fX c (l.drop s.2.1)∧c∉(l.drop s.2.1).take (s.2.2-s.2.1))∨(s.2.2=l.length+1∧fX c l=s.1)) ∧
  ρ 0=aO l∧ρ 1 = .sc (.int .u8 (c.toNat:Int))∧ρ 5 = .ref 0 s.1.length 0 s.1.length s.1.length∧ρ 6=VI s.2.1∧ρ 7=VI s.2.2) (fun s=>l.length+1-s.2.2) ([],0,0) ⟨rfl,Nat.zero_le _,Nat.zero_le _,Nat.zero_le _,.inl ⟨Nat.zero_le _,rfl,by simp⟩,rfl,rfl,rfl,rfl,rfl⟩ ?_
 rintro⟨out,fr,i⟩ ρ H ⟨rfl,hfi,hi,iW,J0,g0,g1,g5,g6,g7⟩
 simp only at hfi hi iW J0 g5 g6 g7
 by_cases dK:(i:Int)≤(l.length:Int)
 ·have Qk:i≤l.length:=by omega
  obtain⟨hp,hc⟩:fX c l=out++fX c (l.drop fr)∧c∉(l.drop fr).take (i-fr):=by
   rcases J0 with⟨_,h1,h2⟩ | ⟨h,_⟩
   ·exact⟨h1,h2⟩
   ·omega
  have wi:IntKind.i64.wrap ((i:Int)+1)=((i+1:Nat):Int):=wrapN (i+1) (by omega) (by omega)
  have e2:=Xl l hfi Qk
  have eP:=iF (f:=aO) (xs:=out) (x:=(l.drop fr).take (i-fr)) (lo:=0) (b:=0) (g:=out.length) (n:=out.length) (e:=1) (bytes:=16) (H:=[.row out.length (out.map aO) 1 true]) aT rfl (Nat.zero_le _) (by decide) (by decide) (by omega)
  have F0:([.row out.length (out.map aO) 1 true]:aA).set 0 (.row (out.length+1) ((out++[(l.drop fr).take (i-fr)]).map aO) 1 true)=[.row (out.length+1) ((out++[(l.drop fr).take (i-fr)]).map aO) 1 true]:=rfl
  rw[F0] at eP
  by_cases q1:i=l.length
  ·subst q1
   have Wn:fX c l=out++[(l.drop fr).take (l.length-fr)]:=by
    rw[hp]
    have:(l.drop fr).take (l.length-fr)=l.drop fr:=List.take_of_length_le (by rw[List.length_drop];omega)
    rw[this] at hc ⊢
    rw[Dd hc]
   simp only[lW,g0,g1,g5,g6,g7,bC,dK,eq_self,e2,e4,e5,eP,wi,VX,Nat.reduceEqDiff,Nat.reduceAdd]
   refine⟨(out++[(l.drop fr).take (l.length-fr)],l.length+1,l.length+1),by simp only;omega,?_,by simp only;omega,by simp only;omega,?_,.inr ⟨rfl,Wn⟩,?_⟩
   ·simp
   ·simp only[List.length_append,List.length_cons,List.length_nil];omega
   ·simp
  ·have Zn:i<l.length:=by omega
   have q1':¬(i:Int)=(l.length:Int):=by omega
   have e1:=A8 l Zn
   have hgd:l.drop i=l.getD i 0::l.drop (i+1):=by rw[List.drop_eq_getElem_cons Zn,List.getD_eq_getElem?_getD,List.getElem?_eq_getElem Zn];rfl
   by_cases q2:l.getD i 0=c
   ·have q2':((l.getD i 0).toNat:Int)=(c.toNat:Int):=by rw[q2]
    have Wn:fX c l=(out++[(l.drop fr).take (i-fr)])++fX c (l.drop (i+1)):=by
     have Qg:l.drop fr=(l.drop fr).take (i-fr)++c::l.drop (i+1):=by
      have h1:(l.drop fr).drop (i-fr)=l.drop i:=by rw[List.drop_drop];congr 1;omega
      conv=>lhs;rw[←List.take_append_drop (i-fr) (l.drop fr),h1,hgd,q2]
     rw[hp]
     conv=>lhs;rw[Qg]
     rw[H8 hc,List.append_assoc]
     rfl
    simp only[lW,g0,g1,g5,g6,g7,bC,dK,q1',e1,q2',eq_self,e2,e4,e5,eP,wi,VX,Nat.reduceEqDiff,Nat.reduceAdd]
    refine⟨(out++[(l.drop fr).take (i-fr)],i+1,i+1),by simp only;omega,?_,by simp only;omega,by simp only;omega,?_,.inl ⟨by simp only;omega,Wn,by simp⟩,?_⟩
    ·simp
    ·simp only[List.length_append,List.length_cons,List.length_nil];omega
    ·simp
   ·have q2':¬((l.getD i 0).toNat:Int)=(c.toNat:Int):=fun h=>q2 (UInt8.toNat_inj.1 (by omega))
    simp only[lW,g0,g1,g5,g6,g7,bC,dK,q1',e1,q2',wi,VX,Nat.reduceEqDiff,Nat.reduceAdd]
    refine⟨(out,fr,i+1),by simp only;omega,rfl,by simp only;omega,by simp only;omega,iW,.inl ⟨by simp only;omega,hp,?_⟩,rfl,rfl,rfl⟩
    simp only
    rw[show i+1-fr=(i-fr)+1 by omega,List.take_add_one,List.mem_append,not_or]
    refine⟨hc,?_⟩
    have:(l.drop fr)[i-fr]? = some (l.getD i 0):=by
     rw[List.getElem?_drop,show fr+(i-fr)=i by omega,List.getD_eq_getElem?_getD,List.getElem?_eq_getElem Zn]
     rfl
    rw[this]
    simp
    exact fun h=>q2 h.symm
 ·have Wn:fX c l=out:=by
   rcases J0 with⟨h,_⟩ | ⟨_,h⟩
   ·omega
   ·exact h
  rw[Wn]
  simp only[lW,g0,g5,g7,bC,dK,VX,Nat.reduceEqDiff,Nat.reduceAdd]
  exact Jo (es:=out.map aO) aT (by simp) (Nat.le_refl _) (eX fun _=>rfl)
theorem Wu {l:List UInt8} (h:l.all gK=true) {i:Nat} (hi:i<l.length):48≤(l.getD i 0).toNat∧(l.getD i 0).toNat≤57:=by
 have:=List.all_eq_true.1 h (l.getD i 0) (by rw[List.getD_eq_getElem?_getD,List.getElem?_eq_getElem hi];exact List.getElem_mem hi)
 simpa[gK] using this
theorem HK {l:List UInt8} (hd:l.all gK=true) (hl:l.length≤1000000000000) {fr tq:Nat} (hft:fr≤tq) (h9:tq-fr≤9) (htl:tq≤l.length) {H:aA} {lo:Nat} {ρ:dJ} {Q:VQ} (h0:ρ 0=aO l) (h4:ρ 4=VI tq) (h6:ρ 6=VI 0) (h7:ρ 7=VI fr)
  (hQ:∀aU,(∀t,t<6→aU t=ρ t)→aU 6=VI (bL ((l.drop fr).take (tq-fr)))→Q .normal aU H):VW ⟨true,false⟩ lo (.loop kT) (xI 2 Q) ρ H:=by
 refine aR (fun(i:Nat) aU H'=>fr≤i∧i≤tq∧H'=H∧(∀t,t<6→aU t=ρ t)∧aU 6=VI (bL ((l.drop fr).take (i-fr)))∧aU 7=VI i) (fun i=>tq-i) fr ⟨Nat.le_refl _,hft,rfl,fun _ _=>rfl,by rw[h6,Nat.sub_self];rfl,h7⟩ ?_
 rintro i aU H' ⟨hfi,hi,rfl,hk,g6,g7⟩
 have g0:=(hk 0 (by decide)).trans h0
 have g4:=(hk 4 (by decide)).trans h4
 by_cases dK:(i:Int)<(tq:Int)
 ·have Qk:i<l.length:=by omega
  have e1:=A8 l Qk
  obtain⟨c1,c2⟩:=Wu hd Qk
  have wi:IntKind.i64.wrap ((i:Int)+1)=((i+1:Nat):Int):=wrapN (i+1) (by omega) (by omega)
  have hcd:((l.drop fr).take (i-fr)).all gK=true:=by
   rw[List.all_eq_true] at hd ⊢
   exact fun x hx=>hd x (List.mem_of_mem_drop (List.mem_of_mem_take hx))
  have aV:=D4 hcd
  rw[List.length_take,List.length_drop,Nat.min_eq_left (by omega)] at aV
  have hp9:10^(i-fr)≤10^8:=Nat.pow_le_pow_right (by decide) (by omega)
  have e8:(10:Nat)^8=100000000:=by decide
  have pO:bL ((l.drop fr).take (i+1-fr))=bL ((l.drop fr).take (i-fr))*10+dv (l.getD i 0):=by
   have:(l.drop fr)[i-fr]? = some (l.getD i 0):=by
    rw[List.getElem?_drop,show fr+(i-fr)=i by omega,List.getD_eq_getElem?_getD,List.getElem?_eq_getElem Qk]
    rfl
   rw[show i+1-fr=(i-fr)+1 by omega,List.take_add_one,this]
   exact UK _ _
  have hdv:dv (l.getD i 0)=(l.getD i 0).toNat-48:=rfl
  rw[hdv] at pO
  generalize (l.getD i 0).toNat=c at *
  generalize bL ((l.drop fr).take (i-fr))=D at *
  have w1:IntKind.i64.wrap (10*(D:Int))=((10*D:Nat):Int):=wrapN _ (by omega) (by omega)
  have w2:IntKind.u8.wrap ((c:Int)-48)=((c-48:Nat):Int):=by
   simp[IntKind.wrap,IntKind.bits,IntKind.signed]
   omega
  have w3:IntKind.i64.wrap ((c-48:Nat):Int)=((c-48:Nat):Int):=wrapN _ rfl (by omega)
  have w4:IntKind.i64.wrap (((10*D:Nat):Int)+((c-48:Nat):Int))=((D*10+(c-48):Nat):Int):=wrapN _ (by omega) (by omega)
  simp only[kT,g0,g4,g6,g7,dK,e1,w1,w2,w3,w4,wi,VX,Nat.reduceEqDiff,Nat.reduceAdd]
  refine⟨i+1,by omega,by omega,by omega,fun t ht => ?_,by rw[pO],rfl⟩
  try simp only[rP]
  repeat rw[if_neg (by omega)]
  exact hk t ht
 ·have qG:i=tq:=by omega
  subst qG
  simp only[kT,g4,g7,dK,VX,Nat.reduceEqDiff,Nat.reduceAdd]
  refine hQ _ (fun t ht => ?_) ?_
  ·try simp only[rP]
   repeat rw[if_neg (by omega)]
   exact hk t ht
  ·simp only[g6,VX,Nat.reduceEqDiff,Nat.reduceAdd]
set_option maxHeartbeats 1000000 in
theorem pP (l:List UInt8) (hd:l.all gK=true) (hl:l.length≤1000000000):TC 224 [aO l] (cJ (bL l)):=by
 refine TC.walk ⟨true,false⟩ Er rfl (Nat.le_of_ble_eq_true rfl) rfl (pY _) ?_
 have e3:∀lr,jM lr [.int .i64 0] 0 [] []=some (.ref 0 0 0 0 0,[.row 0 (([]:List Nat).map tV) 1 true]):=fun lr=>iN (H:=[]) (lr:=lr) (z:=[.int .i64 0]) rfl
 have e4:∀(x:Nat) (H:aA),jM false [.int .i64 0] 1 [(0,tV x)] H=some (.tree [tV x] (.cl 1),H):=fun x H=>eW (z:=[.int .i64 0]) rfl rfl rfl
 have e5:∀(x:Nat) (H:aA),cM 1 (.tree [tV x] (.cl 1)) H=some [tV x]:=fun x H=>eG rfl rfl
 simp only[AN,xB,e3,bC,VX,Nat.reduceEqDiff,Nat.reduceAdd]
 refine aR (fun(s:List Nat×Int) ρ H=>H=[.row s.1.length (s.1.map tV) 1 true]∧s.2≤l.length ∧ -9≤s.2∧s.1.length+s.2.toNat≤l.length∧(∀d∈s.1,d<1000000000)∧bL l=val 1000000000 s.1+1000000000^s.1.length*bL (l.take s.2.toNat) ∧
  ρ 0=aO l∧ρ 3 = .ref 0 s.1.length 0 s.1.length s.1.length∧ρ 4=VI s.2) (fun s=>s.2.toNat) ([],(l.length:Int)) ⟨rfl,Int.le_refl _,by simp only;omega,by simp,by simp,?_,rfl,rfl,rfl⟩ ?_
 ·simp only[Int.toNat_natCast,List.take_length,List.length_nil,Nat.pow_zero,Nat.one_mul,val,Nat.zero_add]
 rintro⟨out,z⟩ ρ H ⟨rfl,hz,hz9,iW,hds,hv,g0,g3,g4⟩
 simp only at hz hz9 iW hds hv g3 g4
 by_cases iU:0<z
 ·obtain⟨tq,rfl⟩:∃tq:Nat,z=tq:=⟨z.toNat,by omega⟩
  rw[Int.toNat_natCast] at iW hv
  have hto:0<tq:=by omega
  have key:∀fr:Nat,fr≤tq→tq-fr≤9→bL (l.take tq)=bL (l.take fr)*10^(tq-fr)+bL ((l.drop fr).take (tq-fr))∧bL ((l.drop fr).take (tq-fr))<1000000000:=by
   intro fr h1 h2
   have hcd:((l.drop fr).take (tq-fr)).all gK=true:=by
    rw[List.all_eq_true] at hd ⊢
    exact fun x hx=>hd x (List.mem_of_mem_drop (List.mem_of_mem_take hx))
   have hlen:((l.drop fr).take (tq-fr)).length=tq-fr:=by rw[List.length_take,List.length_drop];omega
   constructor
   ·have:=List.take_add (l:=l) (i:=fr) (j:=tq-fr)
    rw[show fr+(tq-fr)=tq by omega] at this
    rw[this,HV,hlen]
   ·have:=D4 hcd
    rw[hlen] at this
    exact Nat.lt_of_lt_of_le this (Nat.le_trans (Nat.pow_le_pow_right (by decide) h2) (by decide))
  have eP:=fun X=>iF (f:=tV) (xs:=out) (x:=X) (lo:=0) (b:=0) (g:=out.length) (n:=out.length) (e:=1) (bytes:=8) (H:=[.row out.length (out.map tV) 1 true]) aT rfl (Nat.zero_le _) (by decide) (by decide) (by omega)
  have F0:∀X,([.row out.length (out.map tV) 1 true]:aA).set 0 (.row (out.length+1) ((out++[X]).map tV) 1 true)=[.row (out.length+1) ((out++[X]).map tV) 1 true]:=fun _=>rfl
  simp only[F0] at eP
  by_cases h9:(9:Int)<(tq:Int)
  ·obtain⟨k1,k2⟩:=key (tq-9) (by omega) (by omega)
   have wz:IntKind.i64.wrap ((tq:Int)-9)=((tq-9:Nat):Int):=wrapN _ (by omega) (by omega)
   rw[show tq-(tq-9)=9 by omega] at k1 k2
   rw[show (10:Nat)^9=1000000000 by decide] at k1
   simp only[kM,g0,g3,g4,iU,h9,wz,VX,Nat.reduceEqDiff,Nat.reduceAdd]
   refine HK (l:=l) hd (by omega) (fr:=tq-9) (tq:=tq) (by omega) (by omega) (by omega) ?_ ?_ ?_ ?_ fun tM q q6 => ?_
   all_goals first | (simp only[g0,g4,VX,Nat.reduceEqDiff,Nat.reduceAdd];done) | skip
   rw[show tq-(tq-9)=9 by omega] at q6
   have u3:tM 3 = .ref 0 out.length 0 out.length out.length:=by rw[q 3 (by decide)];simp only[g3,VX,Nat.reduceEqDiff,Nat.reduceAdd]
   have u0:tM 0=aO l:=by rw[q 0 (by decide)];simp only[g0,VX,Nat.reduceEqDiff,Nat.reduceAdd]
   have u4:tM 4=VI tq:=by rw[q 4 (by decide)];simp only[g4,VX,Nat.reduceEqDiff,Nat.reduceAdd]
   generalize bL ((l.drop (tq-9)).take 9)=X at *
   have e4:=e4 X
   have e5:=e5 X
   have eP:=eP X
   simp only[u0,u3,u4,q6,e4,e5,eP,wz,VX,Nat.reduceEqDiff,Nat.reduceAdd]
   refine⟨(out++[X],((tq-9:Nat):Int)),by simp only;omega,?_,by simp only;omega,by simp only;omega,?_,?_,?_,?_⟩
   ·simp
   ·simp only[List.length_append,List.length_cons,List.length_nil];omega
   ·intro d hdm
    rcases List.mem_append.1 hdm with h | h
    ·exact hds d h
    ·rw[List.mem_singleton] at h;omega
   ·simp only[Int.toNat_natCast]
    rw[hv,k1,rS,List.length_append,List.length_singleton,Nat.pow_succ]
    grind
   ·simp
  ·obtain⟨k1,k2⟩:=key 0 (by omega) (by omega)
   rw[List.take_zero,JD,Nat.zero_mul,Nat.zero_add,Nat.sub_zero] at k1
   rw[Nat.sub_zero] at k2
   have wz:IntKind.i64.wrap ((tq:Int)-9)=(tq:Int)-9:=wrap64 (by omega) (by omega)
   simp only[kM,g0,g3,g4,iU,h9,VX,Nat.reduceEqDiff,Nat.reduceAdd]
   refine HK (l:=l) hd (by omega) (fr:=0) (tq:=tq) (by omega) (by omega) (by omega) ?_ ?_ ?_ ?_ fun tM q q6 => ?_
   all_goals first | (simp only[g0,g4,VX,Nat.reduceEqDiff,Nat.reduceAdd];done) | (simp only[VX,Nat.reduceEqDiff,Nat.reduceAdd];rfl) | skip
   rw[Nat.sub_zero] at q6
   have u3:tM 3 = .ref 0 out.length 0 out.length out.length:=by rw[q 3 (by decide)];simp only[g3,VX,Nat.reduceEqDiff,Nat.reduceAdd]
   have u0:tM 0=aO l:=by rw[q 0 (by decide)];simp only[g0,VX,Nat.reduceEqDiff,Nat.reduceAdd]
   have u4:tM 4=VI tq:=by rw[q 4 (by decide)];simp only[g4,VX,Nat.reduceEqDiff,Nat.reduceAdd]
   generalize bL ((l.drop 0).take tq)=X at *
   have e4:=e4 X
   have e5:=e5 X
   have eP:=eP X
   simp only[u0,u3,u4,q6,e4,e5,eP,wz,VX,Nat.reduceEqDiff,Nat.reduceAdd]
   refine⟨(out++[X],(tq:Int)-9),by simp only;omega,?_,by simp only;omega,by simp only;omega,?_,?_,?_,?_⟩
   ·simp
   ·simp only[List.length_append,List.length_cons,List.length_nil];omega
   ·intro d hdm
    rcases List.mem_append.1 hdm with h | h
    ·exact hds d h
    ·rw[List.mem_singleton] at h;omega
   ·simp only
    rw[show ((tq:Int)-9).toNat=0 by omega,List.take_zero,JD,Nat.mul_zero,Nat.add_zero,hv,k1,rS]
   ·simp
 ·have h0:z.toNat=0:=by omega
  rw[h0,List.take_zero,JD,Nat.mul_zero,Nat.add_zero] at hv
  rw[hv]
  have ct:=TC.ZZ (f:=tV) (xs:=out) (size:=1) (e:=1) (w:=true) (H:=[.row out.length (out.map tV) 1 true]) (b:=0) (gn:=out.length) (n:=out.length) (c:=out.length) (pV out hds (by show out.length≤70368744177664;omega)) aT rfl (Nat.le_refl _) DL (fun _=>rfl) rfl rfl
  simp only[kM,g0,g3,g4,iU,ct,VX,Nat.reduceEqDiff,Nat.reduceAdd]
  exact aI (cS _)
end Go.PM
namespace Go.PM
open Go.Lib
def BL (l:List UInt8):VV:=match vV l with
 | some q => .dQ [bS q,VB true]
 | none => .dQ [Ew,VB false]
theorem qZ (q:Rat):aN (bS q)=true:=by simp[bS,aN,aP,cS,jR]
theorem Kj (q:Rat):fY (bS q)=true:=by simp[bS,fY,oJ,pY,jR]
theorem Qm (l:List UInt8):fY (BL l)=true:=by
 unfold BL
 split<;>simp[fY,oJ,Kj,HP,jR]
theorem I2 {neg:Bool} {t b:Nat} (hb:b≠0) (hg:Nat.gcd t b=1) (hn:¬(neg=true∧t=0)):bS (mkRat (F7 neg t) b) = .agg [VB neg,cJ t,cJ b]:=by
 obtain⟨e1,e2⟩:=Gd (neg:=neg) hb hg
 refine Sb ?_ (by rw[e1,BX]) e2
 rw[e1]
 cases neg with
 | false=>unfold F7;simp
 |
  true =>
  have:t≠0:=fun h=>hn ⟨rfl,h⟩
  unfold F7
  simp
  omega
theorem BV {n:Nat}:(((aC 1000000000 n).length:Nat):Int)=0↔n=0:=by
 rw[←kD (b:=1000000000) (n:=n) (by decide),←List.length_eq_zero_iff]
 omega
theorem Pt {neg:Bool} {d t:List UInt8} (h:(47:UInt8)∈t):lY neg d (some t)=none:=by
 have ht:gD t=false:=by
  cases hk:gD t with
  | false=>rfl
  | true=>exact absurd h (Xm (iI.1 hk).1)
 unfold lY
 split
 ·rfl
 ·simp only
  rw[if_neg (fun h=>by rw[ht] at h;exact absurd h.1 (by decide))]
theorem at_one (x:List UInt8) (H:aA):bI 1 (bK aO [x]) (VI 0) H=some (.cY (aO x) 0):=aK (f:=aO) (t := .op) (H:=H) (size:=1) (k := .i64) (xs:=[x]) (i:=0) rfl rfl
theorem Y6 (x y:List UInt8) (H:aA):bI 1 (bK aO [x,y]) (VI 0) H=some (.cY (aO x) 0):=aK (f:=aO) (t := .op) (H:=H) (size:=1) (k := .i64) (xs:=[x,y]) (i:=0) rfl rfl
theorem ZE (x y:List UInt8) (H:aA):bI 1 (bK aO [x,y]) (VI 1) H=some (.cY (aO y) 0):=aK (f:=aO) (t := .op) (H:=H) (size:=1) (k := .i64) (xs:=[x,y]) (i:=1) rfl rfl
theorem S0 (x:List UInt8) (H:aA):nP (bK aO [x]) H=some (VI 1):=fI (f:=aO) (xs:=[x])
theorem YY (x y:List UInt8) (H:aA):nP (bK aO [x,y]) H=some (VI 2):=fI (f:=aO) (xs:=[x,y])
set_option maxRecDepth 100000 in
set_option maxHeartbeats 4000000 in
theorem Ht (l:List UInt8) (hl:l.length≤1000000000):TC 175 [aO l] (BL l):=by
 refine TC.walk ⟨true,false⟩ Hb rfl (Nat.le_of_ble_eq_true rfl) rfl (Qm l) ?_
 by_cases wX:l=[]
 ·subst wX
  have eC:TC 222 [.sc (.string ⟨#[]⟩),.sc (.int .u8 47)] (bK aO [[]]):=CP [] 47 (by simp)
  have eD:TC 223 [.sc (.string ⟨#[]⟩)] (VB false):=mZ [] (by simp)
  have e1:wK (.string ⟨#[]⟩)=some (.int .i64 0):=rfl
  have a1:=at_one []
  have a2:=S0 []
  simp only[bN,aZ,e1,eC,eD,a1,a2,Int.reduceLT,Int.reduceLE,aL,qF,Nat.reduceLeDiff,Nat.reduceLT,Nat.reduceSub,VX,Nat.reduceEqDiff,Nat.reduceAdd]
  exact bJ (d:=6) fH (aH (v:=VB false) rfl)
 have hp:0<l.length:=List.length_pos_iff.2 wX
 have iU:(0:Int)<(l.length:Int):=by omega
 have e0:=F4 l hp
 unfold BL
 unfold vV
 have sW:isNeg l=decide (((l.getD 0 0).toNat:Int)=45):=by
  unfold isNeg
  rw[decide_eq_true (show 1≤l.length from hp),Bool.true_and]
  refine decide_eq_decide.2 ⟨fun h=>by rw[h];rfl,fun h=>UInt8.toNat_inj.1 (by rw[show (45:UInt8).toNat=45 from rfl];omega)⟩
 have PL:(if isNeg l=true then l.drop 1 else l).length≤l.length:=by split<;>simp
 have q0:isNeg l=false→¬((l.getD 0 0).toNat:Int)=45:=fun h=>by rw[sW] at h;exact of_decide_eq_false h
 have q9:isNeg l=true→((l.getD 0 0).toNat:Int)=45:=fun h=>by rw[sW] at h;exact of_decide_eq_true h
 have r0:isNeg l=false→(if isNeg l=true then l.drop 1 else l)=l:=fun h=>by rw[h];rfl
 have r9:isNeg l=true→rO (aO l) (some (VI 1)) none=some (aO (if isNeg l=true then l.drop 1 else l)):=fun h=>by rw[h];exact Kw l (a:=1) hp
 generalize (if isNeg l=true then l.drop 1 else l)=r at *
 generalize isNeg l=neg at *
 clear sW
 have eC:TC 222 [aO r,.sc (.int .u8 47)] (bK aO (fX 47 r)):=CP r 47 (by omega)
 obtain⟨l1,l2⟩:=Nq (c:=47) (l:=r)
 cases hs:(kH 47 r).2 with
 |
  none =>
  have hd:=(xU hs).2.1
  rw[Oi hs] at eC
  rw[hd]
  have a1:=at_one r
  have a2:=S0 r
  have eD:=mZ r (by omega)
  cases hk:gD r with
  |
   false =>
   rw[hk] at eD
   have Vh:lY neg r none=none:=if_pos (.inl hk)
   rw[Vh]
   cases neg with
   |
    false =>
    have q1:=q0 rfl
    have PL:=r0 rfl
    subst PL
    simp only[bN,aZ,bC,iU,e0,q1,eC,eD,a1,a2,Int.reduceLT,aL,cG,bF,bR,fU,fA,dM,eY,qF,Nat.reduceLeDiff,Nat.reduceLT,Nat.reduceSub,VX,Nat.reduceEqDiff,Nat.reduceAdd]
    exact bJ (d:=6) fH (aH (v:=VB false) rfl)
   |
    true =>
    have q1:=q9 rfl
    have e9:=r9 rfl
    simp only[bN,aZ,bC,iU,e0,q1,eC,eD,a1,a2,Int.reduceLT,e9,aL,cG,bF,bR,fU,fA,dM,eY,qF,Nat.reduceLeDiff,Nat.reduceLT,Nat.reduceSub,VX,Nat.reduceEqDiff,Nat.reduceAdd]
    exact bJ (d:=6) fH (aH (v:=VB false) rfl)
  |
   true =>
   rw[hk] at eD
   have hbt:=vW hk
   have eN:=pP r (iI.1 hk).1 (by omega)
   by_cases hz:neg=true∧bL r=0
   ·have Vh:lY neg r none=none:=if_pos (.inr hz)
    rw[Vh]
    obtain⟨rfl,FO⟩:=hz
    have q1:=q9 rfl
    have e9:=r9 rfl
    have Fv:(((aC 1000000000 (bL r)).length:Nat):Int)=0:=BV.2 FO
    simp only[bN,aZ,bC,iU,e0,q1,eC,eD,a1,a2,eN,e9,eQ,Fv,Int.reduceLT,aL,cG,bF,bR,fU,fA,dM,eY,qF,Nat.reduceLeDiff,Nat.reduceLT,Nat.reduceSub,VX,Nat.reduceEqDiff,Nat.reduceAdd]
    exact bJ (d:=6) fH (aH (v:=VB false) rfl)
   ·have DF:neg=true→¬(((aC 1000000000 (bL r)).length:Nat):Int)=0:=fun h h0=>hz ⟨h,BV.1 h0⟩
    have Vh:lY neg r none=some (mkRat (F7 neg (bL r)) 1):=if_neg (by rw[hk];rintro(h | h);exact absurd h (by decide);exact hz h)
    rw[Vh]
    simp only[]
    rw[I2 (by decide) (Nat.gcd_one_right _) hz]
    cases neg with
    |
     false =>
     have q1:=q0 rfl
     have PL:=r0 rfl
     subst PL
     simp only[bN,aZ,bC,iU,e0,q1,eC,eD,a1,a2,eN,Int.reduceLT,Int.reduceEq,aL,cG,bF,bR,fU,fA,dM,eY,qF,Nat.reduceLeDiff,Nat.reduceLT,Nat.reduceSub,VX,Nat.reduceEqDiff,Nat.reduceAdd]
     exact bJ (d:=6) (qC (aH (v:=VB false) rfl) (aH (cS _)) MI) (aH (v:=VB true) rfl)
    |
     true =>
     have q1:=q9 rfl
     have e9:=r9 rfl
     have Fv:=DF rfl
     simp only[bN,aZ,bC,iU,e0,q1,eC,eD,a1,a2,eN,Int.reduceLT,Int.reduceEq,e9,eQ,Fv,aL,cG,bF,bR,fU,fA,dM,eY,qF,Nat.reduceLeDiff,Nat.reduceLT,Nat.reduceSub,VX,Nat.reduceEqDiff,Nat.reduceAdd]
     exact bJ (d:=6) (qC (aH (v:=VB true) rfl) (aH (cS _)) MI) (aH (v:=VB true) rfl)
 |
  some t =>
  have ltt:=l2 t hs
  rw[GN hs] at eC
  generalize (kH 47 r).1=d at *
  by_cases hm:(47:UInt8)∈t
  ·rw[Pt hm]
   have hP:=NT hm
   generalize hPP:fX 47 t=P at *
   have a2:∀H,nP (bK aO (d::P)) H=some (VI ((d::P).length:Int)):=fun H=>fI (f:=aO) (xs:=d::P)
   have hq3:(2:Int)<((d::P).length:Int):=by rw[List.length_cons];omega
   generalize hQQ:d::P=PP at *
   clear hQQ hPP hP
   cases neg with
   |
    false =>
    have q1:=q0 rfl
    have PL:=r0 rfl
    subst PL
    simp only[bN,aZ,bC,iU,e0,q1,eC,a2,hq3,aL,cG,bF,bR,fU,fA,dM,eY,qF,Nat.reduceLeDiff,Nat.reduceLT,Nat.reduceSub,VX,Nat.reduceEqDiff,Nat.reduceAdd]
    exact bJ (d:=6) fH (aH (v:=VB false) rfl)
   |
    true =>
    have q1:=q9 rfl
    have e9:=r9 rfl
    simp only[bN,aZ,bC,iU,e0,q1,eC,a2,hq3,e9,aL,cG,bF,bR,fU,fA,dM,eY,qF,Nat.reduceLeDiff,Nat.reduceLT,Nat.reduceSub,VX,Nat.reduceEqDiff,Nat.reduceAdd]
    exact bJ (d:=6) fH (aH (v:=VB false) rfl)
  ·rw[Dd hm] at eC
   have a1:=Y6 d t
   have a3:=ZE d t
   have a2:=YY d t
   have eD:=mZ d (by omega)
   have eF:=mZ t (by omega)
   cases hk:gD d with
   |
    false =>
    rw[hk] at eD
    have Vh:lY neg d (some t)=none:=if_pos (.inl hk)
    rw[Vh]
    cases neg with
    |
     false =>
     have q1:=q0 rfl
     have PL:=r0 rfl
     subst PL
     simp only[bN,aZ,bC,iU,e0,q1,eC,eD,a1,a2,Int.reduceLT,aL,cG,bF,bR,fU,fA,dM,eY,qF,Nat.reduceLeDiff,Nat.reduceLT,Nat.reduceSub,VX,Nat.reduceEqDiff,Nat.reduceAdd]
     exact bJ (d:=6) fH (aH (v:=VB false) rfl)
    |
     true =>
     have q1:=q9 rfl
     have e9:=r9 rfl
     simp only[bN,aZ,bC,iU,e0,q1,eC,eD,a1,a2,Int.reduceLT,e9,aL,cG,bF,bR,fU,fA,dM,eY,qF,Nat.reduceLeDiff,Nat.reduceLT,Nat.reduceSub,VX,Nat.reduceEqDiff,Nat.reduceAdd]
     exact bJ (d:=6) fH (aH (v:=VB false) rfl)
   |
    true =>
    rw[hk] at eD
    have hbt:=vW hk
    have eN:=pP d (iI.1 hk).1 (by omega)
    by_cases hz:neg=true∧bL d=0
    ·have Vh:lY neg d (some t)=none:=if_pos (.inr hz)
     rw[Vh]
     obtain⟨rfl,FO⟩:=hz
     have q1:=q9 rfl
     have e9:=r9 rfl
     have Fv:(((aC 1000000000 (bL d)).length:Nat):Int)=0:=BV.2 FO
     simp only[bN,aZ,bC,iU,e0,q1,eC,eD,a1,a2,eN,e9,eQ,Fv,Int.reduceLT,aL,cG,bF,bR,fU,fA,dM,eY,qF,Nat.reduceLeDiff,Nat.reduceLT,Nat.reduceSub,VX,Nat.reduceEqDiff,Nat.reduceAdd]
     exact bJ (d:=6) fH (aH (v:=VB false) rfl)
    ·have DF:neg=true→¬(((aC 1000000000 (bL d)).length:Nat):Int)=0:=fun h h0=>hz ⟨h,BV.1 h0⟩
     have Vh:lY neg d (some t)=if gD t=true∧1<bL t∧Nat.gcd (bL d) (bL t)=1 then some (mkRat (F7 neg (bL d)) (bL t)) else none:=if_neg (by rw[hk];rintro(h | h);exact absurd h (by decide);exact hz h)
     rw[Vh]
     clear Vh
     cases ht:gD t with
     |
      false =>
      rw[ht] at eF
      rw[if_neg (fun h=>absurd h.1 (by decide))]
      cases neg with
      |
       false =>
       have q1:=q0 rfl
       have PL:=r0 rfl
       subst PL
       simp only[bN,aZ,bC,iU,e0,q1,eC,eD,eF,a1,a2,a3,eN,Int.reduceLT,Int.reduceEq,aL,cG,bF,bR,fU,fA,dM,eY,qF,Nat.reduceLeDiff,Nat.reduceLT,Nat.reduceSub,VX,Nat.reduceEqDiff,Nat.reduceAdd]
       exact bJ (d:=6) fH (aH (v:=VB false) rfl)
      |
       true =>
       have q1:=q9 rfl
       have e9:=r9 rfl
       have Fv:=DF rfl
       simp only[bN,aZ,bC,iU,e0,q1,eC,eD,eF,a1,a2,a3,eN,Int.reduceLT,Int.reduceEq,e9,eQ,Fv,aL,cG,bF,bR,fU,fA,dM,eY,qF,Nat.reduceLeDiff,Nat.reduceLT,Nat.reduceSub,VX,Nat.reduceEqDiff,Nat.reduceAdd]
       exact bJ (d:=6) fH (aH (v:=VB false) rfl)
     |
      true =>
      rw[ht] at eF
      have Iy:=vW ht
      have eM:=pP t (iI.1 ht).1 (by omega)
      have c2:∀lo H K,_:=fun lo H K=>Mc (n:=bL t) (lo:=lo) (H:=H) (K:=K) (Nat.le_of_lt (UG (by omega)))
      have c3:=Kg (bL d) (bL t) (UG (by omega)) (UG (by omega))
      by_cases h1:kZ (bL t) 1≤0
      ·have hle:¬1<bL t:=fun h=>by unfold kZ at h1;rw[if_neg (by omega),if_neg (by omega)] at h1;exact absurd h1 (by decide)
       rw[if_neg (fun h=>hle h.2.1)]
       cases neg with
       |
        false =>
        have q1:=q0 rfl
        have PL:=r0 rfl
        subst PL
        simp only[bN,aZ,bC,iU,e0,q1,eC,eD,eF,a1,a2,a3,eN,eM,c2,h1,Int.reduceLT,Int.reduceEq,aL,cG,bF,bR,fU,fA,dM,eY,qF,Nat.reduceLeDiff,Nat.reduceLT,Nat.reduceSub,VX,Nat.reduceEqDiff,Nat.reduceAdd]
        exact bJ (d:=6) fH (aH (v:=VB false) rfl)
       |
        true =>
        have q1:=q9 rfl
        have e9:=r9 rfl
        have Fv:=DF rfl
        simp only[bN,aZ,bC,iU,e0,q1,eC,eD,eF,a1,a2,a3,eN,eM,c2,h1,Int.reduceLT,Int.reduceEq,e9,eQ,Fv,aL,cG,bF,bR,fU,fA,dM,eY,qF,Nat.reduceLeDiff,Nat.reduceLT,Nat.reduceSub,VX,Nat.reduceEqDiff,Nat.reduceAdd]
        exact bJ (d:=6) fH (aH (v:=VB false) rfl)
      ·have aV:1<bL t:=by
        rcases Nat.lt_or_ge 1 (bL t) with h | h
        ·exact h
        ·exfalso
         apply h1
         unfold kZ
         split<;>(try split)<;>first | decide | omega
       have hgl:bl (Nat.gcd (bL d) (bL t))≤665:=Nat.le_trans (BW (Nat.le_of_dvd (by omega) (Nat.gcd_dvd_right _ _))) Iy
       have c4:∀lo H K,_:=fun lo H K=>Mc (n:=Nat.gcd (bL d) (bL t)) (lo:=lo) (H:=H) (K:=K) (Nat.le_of_lt (UG (by omega)))
       by_cases hg:Nat.gcd (bL d) (bL t)=1
       ·have h4:kZ (Nat.gcd (bL d) (bL t)) 1=0:=by rw[hg];rfl
        rw[if_pos ⟨rfl,aV,hg⟩]
        simp only[]
        rw[I2 (by omega) hg hz]
        cases neg with
        |
         false =>
         have q1:=q0 rfl
         have PL:=r0 rfl
         subst PL
         simp only[bN,aZ,bC,iU,e0,q1,eC,eD,eF,a1,a2,a3,eN,eM,c2,c3,c4,h1,h4,Int.reduceLT,Int.reduceEq,aL,cG,bF,bR,fU,fA,dM,eY,qF,Nat.reduceLeDiff,Nat.reduceLT,Nat.reduceSub,VX,Nat.reduceEqDiff,Nat.reduceAdd]
         exact bJ (d:=6) (qC (aH (v:=VB false) rfl) (aH (cS _)) (aH (cS _))) (aH (v:=VB true) rfl)
        |
         true =>
         have q1:=q9 rfl
         have e9:=r9 rfl
         have Fv:=DF rfl
         simp only[bN,aZ,bC,iU,e0,q1,eC,eD,eF,a1,a2,a3,eN,eM,c2,c3,c4,h1,h4,Int.reduceLT,Int.reduceEq,e9,eQ,Fv,aL,cG,bF,bR,fU,fA,dM,eY,qF,Nat.reduceLeDiff,Nat.reduceLT,Nat.reduceSub,VX,Nat.reduceEqDiff,Nat.reduceAdd]
         exact bJ (d:=6) (qC (aH (v:=VB true) rfl) (aH (cS _)) (aH (cS _))) (aH (v:=VB true) rfl)
       ·have h4:¬kZ (Nat.gcd (bL d) (bL t)) 1=0:=by
         unfold kZ
         split<;>(try split)<;>first | decide | omega
        rw[if_neg (fun h=>hg h.2.2)]
        cases neg with
        |
         false =>
         have q1:=q0 rfl
         have PL:=r0 rfl
         subst PL
         simp only[bN,aZ,bC,iU,e0,q1,eC,eD,eF,a1,a2,a3,eN,eM,c2,c3,c4,h1,h4,Int.reduceLT,Int.reduceEq,aL,cG,bF,bR,fU,fA,dM,eY,qF,Nat.reduceLeDiff,Nat.reduceLT,Nat.reduceSub,VX,Nat.reduceEqDiff,Nat.reduceAdd]
         exact bJ (d:=6) fH (aH (v:=VB false) rfl)
        |
         true =>
         have q1:=q9 rfl
         have e9:=r9 rfl
         have Fv:=DF rfl
         simp only[bN,aZ,bC,iU,e0,q1,eC,eD,eF,a1,a2,a3,eN,eM,c2,c3,c4,h1,h4,Int.reduceLT,Int.reduceEq,e9,eQ,Fv,aL,cG,bF,bR,fU,fA,dM,eY,qF,Nat.reduceLeDiff,Nat.reduceLT,Nat.reduceSub,VX,Nat.reduceEqDiff,Nat.reduceAdd]
         exact bJ (d:=6) fH (aH (v:=VB false) rfl)
end Go.PM
namespace Go.PM
open Go.Lib
end Go.PM
namespace Go.PM
open Go.Lib
theorem OK {l:List UInt8} {q:Rat} (h:vV l=some q):BL l = .dQ [bS q,VB true]:=by unfold BL;rw[h]
theorem Nb {l:List UInt8} (h:vV l=none):BL l = .dQ [Ew,VB false]:=by unfold BL;rw[h]
end Go.PM
namespace Go.PM
open Go.Lib
def OC (o:Option (List Rat)):VV:=match o with
 | some qs => .dQ [bK bS qs,VB true]
 | none => .dQ [bK bS [],VB false]
theorem QM:OC none = .dQ [bK bS [],VB false]:=rfl
theorem Qy (qs:List Rat):OC (some qs) = .dQ [bK bS qs,VB true]:=rfl
theorem La (q:Rat):(aB (bS q)).length=3:=rfl
theorem oR (qs:List Rat):aN (bK bS qs)=true:=lG La qZ
theorem UI (q:Rat):xG (bS q)=true:=by simp[xG,bS,cJ,iY]
theorem Fc (qs:List Rat):fY (bK bS qs)=true:=BP La Kj UI
theorem Ui (o:Option (List Rat)):fY (OC o)=true:=by
 unfold OC
 split
 ·exact A2 (Fc _) rfl
 ·exact A2 (Fc []) rfl
set_option maxHeartbeats 1000000 in
theorem Jt (xs:List ByteArray) (hn:xs.length≤1000000000) (hs:∀s∈xs,s.size≤1000000000):TC 115 [jX xs] (OC (uC xs)):=by
 refine TC.walk ⟨true,false⟩ JE rfl (Nat.le_of_ble_eq_true rfl) (by simp[aP,kS]) (Ui _) ?_
 unfold uC
 by_cases RB:(300:Int)<(xs.length:Int)
 ·rw[if_neg (by omega)]
  simp only[Ae,vQ,RB,VX,Nat.reduceEqDiff,Nat.reduceAdd]
  exact MK
 rw[if_pos (by omega)]
 have e0:=fun H=>iN (H:=H) (lr:=false) (z:=[.bool false,.slice none 0 0,.slice none 0 0]) rfl
 simp only[Ae,vQ,RB,e0,VX,Nat.reduceEqDiff,Nat.reduceAdd]
 refine I8 (fun(s:Nat×List Rat) ρ H=>s.1≤xs.length∧(xs.take s.1).mapM pQ=some s.2∧H=[.row s.1 (s.2.map bS) 3 true]∧ρ 4 = .ref 0 s.1 0 s.1 s.1∧ρ 0=jX xs∧ρ 13=VI xs.length∧ρ 14=VI s.1) (fun s=>xs.length-s.1) (0,[]) ⟨Nat.zero_le _,rfl,rfl,rfl,rfl,rfl,rfl⟩ ?_
 rintro⟨i,out⟩ ρ H ⟨hi,Ii,rfl,g4,g13,g14,g15⟩
 simp only at hi Ii g4 g15
 have iW:out.length=i:=by rw[mB Ii,List.length_take];omega
 by_cases dK:(i:Int)<(xs.length:Int)
 ·obtain⟨x,hx⟩:∃x,xs[i]? = some x:=⟨_,List.getElem?_eq_getElem (by omega)⟩
  have hxm:=List.mem_of_getElem? hx
  have e1:=fun H=>aK (f:=sV) (t := .op) (H:=H) (size:=1) (k := .i64) hx rfl
  have wi:IntKind.i64.wrap ((i:Int)+1)=((i+1:Nat):Int):=wrapN (i+1) (by omega) (by omega)
  have e2:=Ht x.data.toList (by have:=hs x hxm;rw[Array.length_toList];show x.size≤_;omega)
  rw[←Yo] at e2
  cases hp:pQ x with
  |
   none =>
   rw[Nb hp] at e2
   rw[mapM_none hp hxm]
   simp only[oD,g4,g13,g14,g15,dK,e1,e2,Bd,Dt,IW,cW,cV,cI,qF,Nat.reduceLeDiff,Nat.reduceLT,Nat.reduceSub,Ec,mF,oW,sF,yJ,Al,bne_iff_ne,ne_eq,not_false_eq_true,not_true_eq_false,VX,Nat.reduceEqDiff,Nat.reduceAdd]
   exact MK
  |
   some q =>
   rw[OK hp] at e2
   have eL:∀H,jM false [.bool false,.slice none 0 0,.slice none 0 0] 1 [(0,bS q)] H=some (.tree [bS q] (.cl 3),H):=fun H=>eW rfl rfl rfl
   have eS:∀H,cM 3 (.tree [bS q] (.cl 3)) H=some [bS q]:=fun H=>eG rfl rfl
   have eP:eH 0 3 56 (.ref 0 i 0 i i) [bS q] [.row i (out.map bS) 3 true,.row 0 [bS q] 3 true]=some (.ref 0 (i+1) 0 (i+1) (i+1),[.row (i+1) ((out++[q]).map bS) 3 true,.row 0 [bS q] 3 true]):=by
    rw[iF (f:=bS) (xs:=out) (by rw[aT]) iW.symm (Nat.le_refl _) (by decide) (by decide) (by omega),List.set_cons_zero]
   simp only[oD,g4,g13,g14,g15,dK,e1,e2,eL,eS,eP,wi,fS,vR,nX,bF,cG,bR,qF,Nat.reduceLeDiff,Nat.reduceLT,Nat.reduceSub,Ec,mF,oW,sF,yJ,Al,bne_iff_ne,ne_eq,not_false_eq_true,not_true_eq_false,VX,Nat.reduceEqDiff,Nat.reduceAdd]
   refine⟨(i+1,out++[q]),by simp only;omega,?_,by simp only;omega,by simp only[nD hx];exact Co Ii hp,rfl,?_⟩
   ·rw[zB (kL _ (eX qZ)),Fx]
   ·simp only[qX,g13,g14,yP (kS _),FT (Nat.lt_succ_self 0),VX,Nat.reduceEqDiff,Nat.reduceAdd,List.take_zero,iG,List.all_nil,List.length_nil,qX,Jb,yP]
 ·have qG:i=xs.length:=by omega
  subst qG
  rw[List.take_length] at Ii
  rw[Ii]
  simp only[oD,g4,g13,g14,g15,dK,VX,Nat.reduceEqDiff,Nat.reduceAdd]
  refine bJ (d:=6) ?_ (aH (v:=VB true) rfl)
  have:=NK (d:=5) (w:=true) (f:=bS) (e:=3) (b:=0) (g:=xs.length) (c:=xs.length) (xs:=out) (H:=[.row xs.length (out.map bS) 3 true]) qZ (by rw[aT]) (by omega)
  rw[iW] at this
  exact this
theorem Sy {q:Rat}:q.num<0↔q<0:=by rw[←Int.not_le,Rat.num_nonneg];constructor<;>intro h<;>grind
end Go.PM
namespace Go.PM
open Go.Lib
end Go.PM
namespace Go.PM
end Go.PM
namespace Go.PM
open Go.Lib
end Go.PM
namespace Go.PM
def qP:aE:=(.seq (LS [LM 14 6,LM 15 0,LO 16 (.bin .lss (LT 14) (LT 15))] (.cond (LT 16) .skip (.exit 2))) (.seq (.block 3 (.eO [LM 19 5,LO 20 (.call 136 []),LO 21 (.lit [(.bool false),(.slice none 0 0),(.slice none 0 0)] 1 [(0,(LT 20))]),LO 22 (.app 3 56 (LT 19) (LT 21)),LM 5 22])) (.eO [LM 17 6,LO 18 (.bin .add (LT 17) (LI 1)),LM 6 18])))
def rH:aE:=(.seq (LS [LM 8 4,LM 9 0,LO 10 (.bin .lss (LT 8) (LT 9))] (.cond (LT 10) .skip (.exit 0))) (.seq (.block 1 (LS [LO 13 (.lit [(.bool false),(.slice none 0 0),(.slice none 0 0)] 0 []),LM 5 13] (.seq (LS [LO 6 (.mv (LI 0))] (.block 2 (.loop qP))) (.eO [LM 23 3,LM 24 5,LO 25 (.lit [(.slice none 0 0)] 1 [(0,(LT 24))]),LO 26 (.app 1 24 (LT 23) (LT 25)),LM 3 26])))) (.eO [LM 11 4,LO 12 (.bin .add (LT 11) (LI 1)),LM 4 12])))
def Aq:aE:=(LS [LO 2 (.mv (.const (.slice none 0 0)))] (LS [LO 7 (.lit [(.slice none 0 0)] 0 []),LM 3 7] (.seq (LS [LO 4 (.mv (LI 0))] (.block 0 (.loop rH))) (LS [LM 27 3,LM 2 27] .ret))))
def CT:aS:=⟨28,[(.tmp 2)],Aq⟩
theorem Hu:iB 123=some CT:=by kernel_rfl
def jZ:aE:=(.seq (LS [LM 4 3,LM 5 0,LO 6 (.len (LT 5)),LO 7 (.bin .lss (LT 4) (LT 6))] (.cond (LT 7) .skip (.exit 0))) (.seq (.block 1 (LS [LM 10 0,LM 11 3,LO 12 (.iaddr 3 (LT 10) (LT 11)),LO 13 (LK 12),LO 14 (.call 141 [(LT 13)]),LM 15 14,LZ 15 16 (.mv (LT 0)),LZ 15 17 (.mv (LT 3)),LZ 15 18 (.iaddr 3 (LT 16) (LT 17)),LZ 15 19 (LK 18),LZ 15 20 (.call 232 [(LT 19)]),LO 21 (.pick (LT 15) LG (LT 20))] (.cond (LT 21) (LS [LO 2 (.mv LF)] .ret) .skip))) (.eO [LM 8 3,LO 9 (.bin .add (LT 8) (LI 1)),LM 3 9])))
def Ay:aE:=(LS [LO 2 (.mv LF)] (.seq (LS [LO 3 (.mv (LI 0))] (.block 0 (.loop jZ))) (LS [LO 2 (.mv LG)] .ret)))
def CX:aS:=⟨22,[(.tmp 2)],Ay⟩
theorem Hi:iB 199=some CX:=by kernel_rfl
end Go.PM
namespace Go.PM
end Go.PM
namespace Go.PM
open Go.Lib
theorem adV {b g j o e:Nat} {H:aA} {es:List VV} {w:Bool} {x x':VV} (h:aF H b g=some (es,e,w)) (hx:es[j]? = some x) (hf:PM.fz 7 H x=some x'):PM.fz depth H (.ptr b g j o)=some (x'.cY o):=by
 show PM.fz (7+1) H _=_
 unfold PM.fz
 have:aN (.ptr b g j o)=false:=rfl
 simp[this,h,hx,hf]
end Go.PM
namespace Go.PM
open Go.Lib
set_option maxHeartbeats 1000000 in
theorem pH (qs:List Rat) (hn:qs.length≤1000000) (hb:∀q∈qs,fK q≤1099511627776):FC 200 [bK bS qs] (M4 (J2 sV 1 (nQ qs)) (nQ qs).isSome):=by
 refine FC.D6 ⟨true,false⟩ EV (Nat.le_of_ble_eq_true rfl) fun n => ?_
 have e0:∀K,jM false [.string ⟨#[]⟩] 0 [] K=some (.ref K.length 0 0 0 0,K++[.row 0 [] 1 true]):=fun K=>iN rfl
 simp only[AI,wG,e0,List.length_replicate,gY,VX,Nat.reduceEqDiff,Nat.reduceAdd,Nat.reduceLeDiff,Nat.reduceLT,Nat.reduceSub]
 refine aR (fun(i:Nat) ρ H=>i≤qs.length∧(∀q∈qs.take i,sS q=true)∧H=List.replicate n bU.dead++[bU.row i (((qs.take i).map G6).map sV) 1 true]∧ρ 4 = .ref n i 0 i i∧ρ 0=bK bS qs∧ρ 10=VI qs.length∧ρ 11=VI i) (fun i=>qs.length-i) 0 ⟨Nat.zero_le _,by simp,rfl,rfl,rfl,rfl,rfl⟩ ?_
 rintro i ρ H ⟨hi,qK,rfl,g4,g0,g10,g11⟩
 have lX:aF (List.replicate n bU.dead++[bU.row i (((qs.take i).map G6).map sV) 1 true]) n i=some (((qs.take i).map G6).map sV,1,true):=by rw[tC,aT]
 by_cases dK:(i:Int)<(qs.length:Int)
 ·obtain⟨q,hq⟩:∃q,qs[i]? = some q:=⟨_,List.getElem?_eq_getElem (by omega)⟩
  have hqm:=List.mem_of_getElem? hq
  have a1:=fun H=>aK (f:=bS) (t := .op) (H:=H) (size:=3) (k := .i64) hq rfl
  have wi:IntKind.i64.wrap ((i:Int)+1)=((i+1:Nat):Int):=wrapN (i+1) (by omega) (by omega)
  have e2:=HL q (hb q hqm)
  unfold Pn at e2
  cases hf:sS q with
  |
   false =>
   rw[if_neg (by simp[hf])] at e2
   rw[Nd hqm hf]
   simp only[kR,g4,g0,g10,g11,dK,a1,e2,nX,gY,VX,Nat.reduceEqDiff,Nat.reduceAdd,Nat.reduceLeDiff,Nat.reduceLT,Nat.reduceSub]
   exact⟨_,uA (by simp),rfl,uN,.tree [] .nil,rfl,rfl⟩
  |
   true =>
   rw[if_pos hf] at e2
   have eL:∀H,jM false [.string ⟨#[]⟩] 1 [(0,aO (CE q))] H=some (.tree [sV (G6 q)] (.cl 1),H):=fun H=>eW rfl rfl rfl
   have eS:∀H,cM 1 (.tree [sV (G6 q)] (.cl 1)) H=some [sV (G6 q)]:=fun H=>eG rfl rfl
   have eP:eH n 1 16 (.ref n i 0 i i) [sV (G6 q)] (List.replicate n bU.dead++[bU.row i (((qs.take i).map G6).map sV) 1 true])=some (.ref n (i+1) 0 (i+1) (i+1),List.replicate n bU.dead++[bU.row (i+1) (((qs.take (i+1)).map G6).map sV) 1 true]):=by
    rw[iF (f:=sV) (xs:=(qs.take i).map G6) lX (by simp;omega) (Nat.le_refl _) (by decide) (by decide) (by omega),nD hq]
    simp only[List.map_append,A7]
    rfl
   simp only[kR,g4,g0,g10,g11,dK,a1,e2,eL,eS,eP,wi,nX,gY,VX,Nat.reduceEqDiff,Nat.reduceAdd,Nat.reduceLeDiff,Nat.reduceLT,Nat.reduceSub]
   refine⟨i+1,by omega,by omega,fun p hp => ?_,by (repeat' apply And.intro)<;>first | rfl | trivial | assumption⟩
   rw[nD hq] at hp
   rcases List.mem_append.1 hp with h | h
   ·exact qK p h
   ·rw[List.mem_singleton] at h;subst h;exact hf
 ·have qG:i=qs.length:=by omega
  subst qG
  rw[List.take_length] at qK lX
  rw[KW qK]
  simp only[kR,g4,g10,g11,dK,List.take_length,gY,VX,Nat.reduceEqDiff,Nat.reduceAdd,Nat.reduceLeDiff,Nat.reduceLT,Nat.reduceSub]
  refine⟨_,⟨rfl,fun _ _ _ _ _ h=>h⟩,by simp[dD,kY,jR],by simp only[dL,List.all_cons,List.all_nil,Bool.and_true];exact Nx (fun _=>rfl) _,.ref n qs.length 0 qs.length qs.length,rfl,⟨n,qs.length,qs.length,Nat.le_refl _,by simp,by simp,by simp,lX⟩⟩
end Go.PM
namespace Go.PM
section
variable {α:Type}
def vec (n:Nat) (f:Nat→α):List α:=(List.range n).map f
def YB (n m:Nat) (F:Nat→Nat→α):List (List α):=vec n fun a=>vec m (F a)
theorem zQ (n:Nat) (f:Nat→α):(vec n f).length=n:=by simp[vec]
theorem MJ (n m:Nat) (F:Nat→Nat→α):(YB n m F).length=n:=zQ ..
theorem Hz {n i:Nat} {f:Nat→α} (h:i<n):(vec n f)[i]? = some (f i):=by simp[vec,h]
theorem IF {n i:Nat} {f:Nat→α} (h:n≤i):(vec n f)[i]? = none:=by rw[List.getElem?_eq_none];rw[zQ];exact h
theorem yB {n:Nat} {f g:Nat→α} (h:∀i,i<n→f i=g i):vec n f=vec n g:=List.map_congr_left fun i hi=>h i (List.mem_range.1 hi)
theorem Fj {n m:Nat} {F G:Nat→Nat→α} (h:∀a b,a<n→b<m→F a b=G a b):YB n m F=YB n m G:=yB fun a ha=>yB fun b hb=>h a b ha hb
theorem Sx {n m i:Nat} {F:Nat→Nat→α} (h:i<n):(YB n m F)[i]? = some (vec m (F i)):=Hz h
theorem S6 {n j:Nat} {f:Nat→α} {y:α}:(vec n f).set j y=vec n fun b=>if b=j then y else f b:=by
 apply List.ext_getElem?
 intro b
 rw[List.getElem?_set,zQ]
 by_cases hb:b<n
 ·rw[Hz hb,Hz hb]
  by_cases hj:j=b
  ·subst hj;simp[hb]
  ·simp[hj,Ne.symm hj]
 ·rw[IF (by omega),IF (by omega)]
  split
  ·rw[if_neg (by omega)]
  ·rfl
theorem YS {n m i:Nat} {F:Nat→Nat→α} {g:Nat→α}:(YB n m F).set i (vec m g)=YB n m fun a b=>if a=i then g b else F a b:=by
 rw[YB,S6]
 refine yB fun a _ => ?_
 split
 ·rename_i h
  exact yB fun b _=>(if_pos h).symm
 ·rename_i h
  exact yB fun b _=>(if_neg h).symm
theorem KQ {n:Nat} {x:α}:List.replicate n x=vec n fun _=>x:=by
 apply List.ext_getElem?
 intro i
 by_cases h:i<n
 ·rw[Hz h,List.getElem?_replicate,if_pos h]
 ·rw[IF (by omega),List.getElem?_replicate,if_neg h]
theorem KX {n m:Nat} {x:α}:List.replicate n (List.replicate m x)=YB n m fun _ _=>x:=by rw[KQ,KQ];rfl
theorem S5 {n:Nat} {f:Nat→α} {x:α}:x∈vec n f↔∃i,i<n∧f i=x:=by simp[vec]
theorem St {n m:Nat} {F:Nat→Nat→α} {r:List α} (h:r∈YB n m F):∃i,i<n∧r=vec m (F i):=by
 obtain⟨i,hi,rfl⟩:=S5.1 h
 exact⟨i,hi,rfl⟩
end
end Go.PM
namespace Go.PM
open Go.Lib
def JJ (qs:List Rat) (i:Nat):List (List Rat):=YB qs.length qs.length fun a b=>if a<i∧b=a+1 then qs.getD a 0 else 0
theorem Nz {qs:List Rat} {i:Nat}:(JJ qs i).set i ((vec qs.length fun b=>if i<i∧b=i+1 then qs.getD i 0 else 0).set (i+1) (qs.getD i 0))=JJ qs (i+1):=by
 rw[S6,JJ,YS]
 refine Fj fun a b ha hb => ?_
 by_cases h1:a=i
 ·subst h1
  rw[if_pos rfl]
  by_cases h2:b=a+1
  ·rw[if_pos h2,if_pos ⟨by omega,h2⟩]
  ·rw[if_neg h2,if_neg (fun h=>h2 h.2),if_neg (fun h=>h2 h.2)]
 ·rw[if_neg h1]
  by_cases h2:a<i∧b=a+1
  ·rw[if_pos h2,if_pos ⟨by omega,h2.2⟩]
  ·rw[if_neg h2,if_neg (fun h=>h2 ⟨by omega,h.2⟩)]
def Ix (n:Nat):List Rat:=(List.replicate n (0:Rat)).set 0 1
def Hs (qs:List Rat):List Rat:=(List.replicate qs.length (0:Rat)).set (qs.length-1) (qs.getD (qs.length-1) 0)
def kE (rs:List ByteArray):Option B0:=match F1 rs with
 | some qs=>if 1≤qs.length∧qs.length≤6 then gX (Ix qs.length) (JJ qs (qs.length-1)) (Hs qs) else none
 | none=>none
theorem Fk {qs:List Rat} {B:Nat} (h:∀q∈qs,fK q≤B) (hB:1≤B) (i:Nat):fK (qs.getD i 0)≤B:=by
 rw[List.getD_eq_getElem?_getD]
 cases hi:qs[i]? with
 | none=>rw[Option.getD_none,Dl];exact hB
 | some q=>exact h q (List.mem_of_getElem? hi)
theorem DR {qs:List Rat} {B i:Nat} {y:Rat} (h:∀q∈qs,fK q≤B) (hy:fK y≤B):∀q∈qs.set i y,fK q≤B:=fun q hq=>by
 rcases List.mem_or_eq_of_mem_set hq with h1 | rfl
 ·exact h q h1
 ·exact hy
theorem zW {n B:Nat} (hB:1≤B):∀q∈List.replicate n (0:Rat),fK q≤B:=fun q hq=>by
 rw[List.eq_of_mem_replicate hq,Dl]
 exact hB
theorem Ou {qs:List Rat} {B i:Nat} (h:∀q∈qs,fK q≤B) (hB:1≤B):∀r∈JJ qs i,r.length=qs.length∧∀q∈r,fK q≤B:=fun r hr=>by
 obtain⟨a,ha,rfl⟩:=St hr
 refine⟨zQ ..,fun q hq => ?_⟩
 obtain⟨b,hb,rfl⟩:=S5.1 hq
 split
 ·exact Fk h hB a
 ·rw[Dl];exact hB
theorem DO.own {n lo hi:Nat} {s:B0} {H:aA} {v:VV} (h:DO s lo hi H v) (hn:n≤lo):∃a b c,v = .agg [a,b,c]∧bA a=true∧bA b=true∧bA c=true∧dD n a=true∧dD n b=true∧dD n c=true:=by
 obtain⟨a,b,c,m1,m2,rfl,l1,l2,l3,ha,hb,hc⟩:=h
 refine⟨a,b,c,rfl,ha.cell,hb.cell,hc.cell,?_,?_,?_⟩
 ·rcases ha with⟨rfl,_⟩ | ⟨b,g,c,h1,h2,rfl,h3⟩
  ·rfl
  ·simp[dD];omega
 ·rcases hb with⟨rfl,_⟩ | ⟨b,g,c,rs,h1,h2,rfl,h3⟩
  ·rfl
  ·simp[dD];omega
 ·rcases hc with⟨rfl,_⟩ | ⟨b,g,c,h1,h2,rfl,h3⟩
  ·rfl
  ·simp[dD];omega
theorem Z3 {H:aA} {b1 g1 c1 b2 g2 c2 b3 g3 c3 lo hi:Nat} {xs zs:List Rat} {rs:List (wA Rat)} {w1 w3:Bool} (h1:aF H b1 g1=some (xs.map bD,3,w1)) (T4:xs.length≤c1) (h2:MG bD 3 lo hi b2 g2 H rs) (PQ:rs.length≤c2) (h3:aF H b3 g3=some (zs.map bD,3,w3)) (Zy:zs.length≤c3) :
  PM.fz depth H (.agg [.ref b1 g1 0 xs.length c1,.ref b2 g2 0 rs.length c2,.ref b3 g3 0 zs.length c3])=some (MZ bD xs (rs.map (·.xs)) zs):=by
 refine HG (d:=6) ?_
 rw[List.mapM_cons,B9 (d:=5) lI h1 T4]
 rw[List.mapM_cons,h2.fz (d:=4) PQ lI]
 rw[List.mapM_cons,B9 (d:=5) lI h3 Zy]
 rfl
theorem SK {n t:Nat} {H2 L:aA} {P:Nat→Nat→aA→VV→Prop} {ok:Bool} {v:VV} (xD:∀ {lo hi H H' v},P lo hi H v→cP lo hi H H'→P lo hi H' v) (O0:∀ {lo hi iZ nF:Nat} {H:aA} {v:VV},P lo hi H v→iZ≤lo→hi≤nF→P iZ nF H v)
  (E9:∃a b c,v = .agg [a,b,c]∧bA a=true∧bA b=true∧bA c=true∧dD n a=true∧dD n b=true∧dD n c=true) (hr:aF H2 t 0=some ([.agg [.tree [] .nil,.tree [] .nil,.tree [] .nil]],3,true)) (hnt:n≤t) (hv:P H2.length (H2++L).length (H2++L) v) (hL:dL n L=true) :
  ∃H3,bY n 3 (.ptr t 0 0 0) v (H2++L)=some H3∧cO true 3 (.ptr t 0 0 0) H3=some v∧∃L',Ar H3 (List.replicate n .dead++L')∧dD n (.dQ [v,.sc (.bool ok)])=true∧dL n L'=true∧M4 P ok n (.dQ [v,.sc (.bool ok)]) L':=by
 obtain⟨a,b,c,rfl,h1,h2,h3,h4,h5,h6⟩:=E9
 have ht:=jJ hr
 refine⟨(H2++L).set t (.row 0 [.agg [a,b,c]] 3 true),?_,?_,?_⟩
 ·rw[dC (fW hr) (by exact Nat.zero_lt_one) hnt rfl (by simp[aB,h1,h2,h3])]
  rfl
 ·rw[cH,dA (fW hr)]
  rfl
 ·refine acP (k:=H2.length) (lo:=H2.length) (hi:=(H2++L).length) (by omega) (by rw[List.length_set,List.length_append];omega) ((Et.start.aoA hL).set (by omega)) (by simp[dD,kY,h4,h5,h6]) xD O0 (xD hv (cP.set (by omega))) (Nat.le_refl _) (by rw[List.length_set];exact Nat.le_refl _)
set_option maxHeartbeats 4000000 in
theorem DZ (xs:List ByteArray) (hn:xs.length≤1000000000) (hs:∀s∈xs,s.size≤1000000000):FC 49 [jX xs] (M4 (DO ((kE xs).getD nH)) (kE xs).isSome):=by
 refine FC.D6 ⟨true,false⟩ D2 (Nat.le_of_ble_eq_true rfl) fun n => ?_
 have e1:=FV xs hn hs
 have BG:aF (List.replicate n bU.dead++[bU.row 0 [.agg [.tree [] .nil,.tree [] .nil,.tree [] .nil]] 3 true]) n 0=some ([.agg [.tree [] .nil,.tree [] .nil,.tree [] .nil]],3,true):=by rw[tC,aT]
 have f1:bY n 3 (.ptr n 0 0 0) (.agg [.tree [] .nil,.tree [] .nil,.tree [] .nil]) (List.replicate n bU.dead++[bU.row 0 [.agg [.tree [] .nil,.tree [] .nil,.tree [] .nil]] 3 true])=some (List.replicate n bU.dead++[bU.row 0 [.agg [.tree [] .nil,.tree [] .nil,.tree [] .nil]] 3 true]):=by
  rw[dC BG (by exact Nat.zero_lt_one) (Nat.le_refl _) rfl rfl,A7]
  rfl
 have f2:cO true 3 (.ptr n 0 0 0) (List.replicate n bU.dead++[bU.row 0 [.agg [.tree [] .nil,.tree [] .nil,.tree [] .nil]] 3 true])=some (.agg [.tree [] .nil,.tree [] .nil,.tree [] .nil]):=by
  rw[cH,BG]
  rfl
 have bad:kE xs=none→∃L,Ar (List.replicate n bU.dead++[bU.row 0 [.agg [.tree [] .nil,.tree [] .nil,.tree [] .nil]] 3 true]) (List.replicate n .dead++L)∧dD n (.dQ [.agg [.tree [] .nil,.tree [] .nil,.tree [] .nil],.sc (.bool false)])=true∧dL n L=true∧M4 (DO ((kE xs).getD nH)) (kE xs).isSome n (.dQ [.agg [.tree [] .nil,.tree [] .nil,.tree [] .nil],.sc (.bool false)]) L:=fun M6=>by
  rw[M6]
  exact⟨_,uA (by simp),rfl,uN,_,rfl,Pw (Nat.le_add_right _ _)⟩
 cases h:F1 xs with
 |
  none =>
  rw[h,QT] at e1
  have bad:=bad (by unfold kE;rw[h])
  simp only[lC,jL,e1,f1,f2,AP,List.length_replicate,gY,VX,Nat.reduceEqDiff,Nat.reduceAdd,Nat.reduceLeDiff,Nat.reduceLT,Nat.reduceSub]
  exact bad
 |
  some qs =>
  rw[h,Q6] at e1
  obtain⟨hl,hq⟩:=Fu h
  by_cases h1:(qs.length:Int)<1
  ·have bad:=bad (by unfold kE;rw[h];exact if_neg (by omega))
   simp only[lC,jL,e1,f1,f2,h1,AP,List.length_replicate,gY,VX,Nat.reduceEqDiff,Nat.reduceAdd,Nat.reduceLeDiff,Nat.reduceLT,Nat.reduceSub]
   exact bad
  by_cases h6:(6:Int)<(qs.length:Int)
  ·have bad:=bad (by unfold kE;rw[h];exact if_neg (by omega))
   simp only[lC,jL,e1,f1,f2,h1,h6,AP,List.length_replicate,gY,VX,Nat.reduceEqDiff,Nat.reduceAdd,Nat.reduceLeDiff,Nat.reduceLT,Nat.reduceSub]
   exact bad
  clear bad f1 f2
  have Cu:kE xs=gX (Ix qs.length) (JJ qs (qs.length-1)) (Hs qs):=by unfold kE;rw[h];exact if_pos (by omega)
  rw[Cu]
  simp only[lC,jL,e1,h1,h6,AP,List.length_replicate,gY,VX,Nat.reduceEqDiff,Nat.reduceAdd,Nat.reduceLeDiff,Nat.reduceLT,Nat.reduceSub]
  generalize PU:List.replicate n bU.dead++[bU.row 0 [.agg [.tree [] .nil,.tree [] .nil,.tree [] .nil]] 3 true]=H0 at *
  have wX:H0.length=n+1:=by rw[←PU];simp
  refine eB rfl ((Bc (H:=H0) qs.length (by omega) (by omega)).mono ?_)
  rintro r1 H1 ⟨rfl,rfl⟩
  simp only[gY,VX,Nat.reduceEqDiff,Nat.reduceAdd,Nat.reduceLeDiff,Nat.reduceLT,Nat.reduceSub]
  refine zN rfl (Mi (H:=H0++[.row 0 ((List.replicate qs.length (0:Rat)).map bD) 3 true]) qs.length (by omega) (by rw[List.length_append];omega)) fun r2 L2 hz => ?_
  obtain⟨b,g,c,rs,rfl,hc,hM,Ha⟩:=hz
  rw[List.length_replicate] at hc
  have yS:rs.length=qs.length:=by have:=congrArg List.length Ha;simpa using this
  simp only[gY,VX,Nat.reduceEqDiff,Nat.reduceAdd,Nat.reduceLeDiff,Nat.reduceLT,Nat.reduceSub]
  have hrB:aF (H0++[bU.row 0 ((List.replicate qs.length (0:Rat)).map bD) 3 true]++L2) H0.length 0=some ((List.replicate qs.length (0:Rat)).map bD,3,true):=by rw[List.append_assoc,B7];rfl
  have Nl:aF (H0++[bU.row 0 ((List.replicate qs.length (0:Rat)).map bD) 3 true]++L2) n 0=some ([.agg [.tree [] .nil,.tree [] .nil,.tree [] .nil]],3,true):=by rw[List.append_assoc];exact fW BG
  have Eo:n+2≤(H0++[bU.row 0 ((List.replicate qs.length (0:Rat)).map bD) 3 true]++L2).length:=by simp;omega
  have hlz:(H0++[bU.row 0 ((List.replicate qs.length (0:Rat)).map bD) 3 true]).length=n+2:=by simp;omega
  rw[hlz] at hM
  generalize H0++[.row 0 ((List.replicate qs.length (0:Rat)).map bD) 3 true]++L2=H2 at *
  refine eB rfl ((Bc (H:=H2) qs.length (by omega) (by omega)).mono ?_)
  rintro r3 H3 ⟨rfl,rfl⟩
  rw[List.length_replicate]
  have hM3:=hM.pre (H':=H2++[.row 0 ((List.replicate qs.length (0:Rat)).map bD) 3 true]) (List.prefix_append _ _)
  have agY:=fW (L:=[.row 0 ((List.replicate qs.length (0:Rat)).map bD) 3 true]) hrB
  have OO:=fW (L:=[.row 0 ((List.replicate qs.length (0:Rat)).map bD) 3 true]) Nl
  have hrE:aF (H2++[bU.row 0 ((List.replicate qs.length (0:Rat)).map bD) 3 true]) H2.length 0=some ((List.replicate qs.length (0:Rat)).map bD,3,true):=dY
  have hl3:(H2++[bU.row 0 ((List.replicate qs.length (0:Rat)).map bD) 3 true]).length=H2.length+1:=by simp
  have hlM:=hM.bhi
  generalize H2++[.row 0 ((List.replicate qs.length (0:Rat)).map bD) 3 true]=H3 at *
  have s1:bY n 3 (.ptr H3.length 0 0 0) (.agg [.ref H0.length 0 0 qs.length qs.length,.ref b g 0 qs.length c,.ref H2.length 0 0 qs.length qs.length]) (H3++[bU.row 0 [.agg [.tree [] .nil,.tree [] .nil,.tree [] .nil]] 3 true])=some (H3++[bU.row 0 [.agg [.ref H0.length 0 0 qs.length qs.length,.ref b g 0 qs.length c,.ref H2.length 0 0 qs.length qs.length]] 3 true]):=by
   rw[dC (e:=3) (g:=0) (j:=0) dY (by exact Nat.zero_lt_one) (by omega) rfl rfl,xZ]
   rfl
  simp only[s1,gY,VX,Nat.reduceEqDiff,Nat.reduceAdd,Nat.reduceLeDiff,Nat.reduceLT,Nat.reduceSub]
  have YN:=List.prefix_append H3 [.row 0 [.agg [.ref H0.length 0 0 qs.length qs.length,.ref b g 0 qs.length c,.ref H2.length 0 0 qs.length qs.length]] 3 true]
  have hM4:=hM3.pre YN
  have JX:=bT YN agY
  have Xf:=bT YN OO
  have Xg:=bT YN hrE
  have JO:aF (H3++[bU.row 0 [.agg [.ref H0.length 0 0 qs.length qs.length,.ref b g 0 qs.length c,.ref H2.length 0 0 qs.length qs.length]] 3 true]) H3.length 0=some ([.agg [.ref H0.length 0 0 qs.length qs.length,.ref b g 0 qs.length c,.ref H2.length 0 0 qs.length qs.length]],3,true):=dY
  generalize H3++[.row 0 [.agg [.ref H0.length 0 0 qs.length qs.length,.ref b g 0 qs.length c,.ref H2.length 0 0 qs.length qs.length]] 3 true]=H4 at *
  obtain⟨m,hm⟩:∃m,qs.length=m+1:=⟨qs.length-1,by omega⟩
  have w1:IntKind.i64.wrap ((qs.length:Int)-1)=((m:Nat):Int):=wrapN m (by omega) (by omega)
  obtain⟨ql,hql⟩:∃q,qs[m]? = some q:=⟨_,List.getElem?_eq_getElem (by omega)⟩
  have a1:=fun H=>aK (f:=bD) (t := .op) (H:=H) (size:=3) (k := .i64) hql rfl
  have e2:TC 97 [VI 1] (bD 1):=Af 1 (by decide) (by decide)
  have d7:∀k,k<3→∀x,[VV.ref H0.length 0 0 qs.length qs.length,.ref b g 0 qs.length c,.ref H2.length 0 0 qs.length qs.length][k]? = some x→cO false 1 (.ptr H3.length 0 0 k) H4=some x:=fun k _ x hx=>by
   rw[cH,JO]
   exact hx
  have d70:=d7 0 (by decide) _ rfl
  have d72:=d7 2 (by decide) _ rfl
  have a2:bI 3 (.ref H0.length 0 0 qs.length qs.length) (VI 0) H4=some (.ptr H0.length 0 0 0):=by
   have:=aQ (o:=0) (n:=qs.length) (c:=qs.length) (i:=0) (k := .i64) JX (by omega)
   simpa using this
  have s2:=dO (lo:=n) (f:=bD) (x:=1) (j:=0) JX (by simp;omega) (by omega) rfl rfl
  have Mq:=aM (x := .row 0 (((List.replicate qs.length (0:Rat)).set 0 1).map bD) 3 true) (b':=H0.length) (by omega) Xg
  have a3:bI 3 (.ref H2.length 0 0 qs.length qs.length) (VI m) (H4.set H0.length (.row 0 (((List.replicate qs.length (0:Rat)).set 0 1).map bD) 3 true))=some (.ptr H2.length 0 m 0):=by
   have:=aQ (o:=0) (n:=qs.length) (c:=qs.length) (i:=m) (k := .i64) Mq (by omega)
   rwa [Nat.zero_add] at this
  have s3:=dO (lo:=n) (f:=bD) (x:=ql) (j:=m) Mq (by simp;omega) (by omega) rfl rfl
  have afK:=jJ JO
  have k1:yJ H4 (.ptr H3.length 0 0 2) (.ptr H0.length 0 0 0)=true:=by
   have:H3.length≠H0.length:=by omega
   simp[yJ,Al,JO,JX,this]
  simp only[w1,a1,a2,a3,e2,s2,s3,k1,d70,d72,JO,vX,jI,sF,Ec,List.all_cons,List.all_nil,Bool.and_true,gY,VX,Nat.reduceEqDiff,Nat.reduceAdd,Nat.reduceLeDiff,Nat.reduceLT,Nat.reduceSub]
  have hM5:=(hM4.bM (cP.set (x := .row 0 (((List.replicate qs.length (0:Rat)).set 0 1).map bD) 3 true) (b:=H0.length) (.inl (by omega)))).bM (cP.set (x := .row 0 (((List.replicate qs.length (0:Rat)).set m ql).map bD) 3 true) (b:=H2.length) (.inr (Nat.le_refl _)))
  have Yl:=aM (x := .row 0 (((List.replicate qs.length (0:Rat)).set m ql).map bD) 3 true) (b':=H2.length) (by omega) (dA (g:=0) (e:=3) (w:=true) (es:=((List.replicate qs.length (0:Rat)).set 0 1).map bD) JX)
  have Wz:=dA (g:=0) (e:=3) (w:=true) (es:=((List.replicate qs.length (0:Rat)).set m ql).map bD) Mq
  have P5:=aM (x := .row 0 (((List.replicate qs.length (0:Rat)).set m ql).map bD) 3 true) (b':=H2.length) (by omega) (aM (x := .row 0 (((List.replicate qs.length (0:Rat)).set 0 1).map bD) 3 true) (b':=H0.length) (by omega) JO)
  have Qh:=aM (x := .row 0 (((List.replicate qs.length (0:Rat)).set m ql).map bD) 3 true) (b':=H2.length) (by omega) (aM (x := .row 0 (((List.replicate qs.length (0:Rat)).set 0 1).map bD) 3 true) (b':=H0.length) (by omega) Xf)
  generalize (H4.set H0.length (.row 0 (((List.replicate qs.length (0:Rat)).set 0 1).map bD) 3 true)).set H2.length (.row 0 (((List.replicate qs.length (0:Rat)).set m ql).map bD) 3 true)=H5 at *
  have acV:JJ qs 0=List.replicate qs.length (List.replicate qs.length 0):=by
   rw[KX,JJ]
   exact Fj fun a b _ _=>if_neg (fun h=>by omega)
  refine aR (fun(i:Nat) ρ H=>i≤m∧n≤H.length∧(∃rs,rs.length=qs.length∧rs.map (·.xs)=JJ qs i∧MG bD 3 (n+2) H2.length b g H rs)∧aF H n 0=some ([.agg [.tree [] .nil,.tree [] .nil,.tree [] .nil]],3,true)∧aF H H0.length 0=some (((List.replicate qs.length (0:Rat)).set 0 1).map bD,3,true)∧aF H H2.length 0=some (((List.replicate qs.length (0:Rat)).set m ql).map bD,3,true) ∧
    aF H H3.length 0=some ([.agg [.ref H0.length 0 0 qs.length qs.length,.ref b g 0 qs.length c,.ref H2.length 0 0 qs.length qs.length]],3,true)∧ρ 2 = .ptr n 0 0 0∧ρ 4=bK bD qs∧ρ 7 = .ptr H3.length 0 0 0∧ρ 49=VI m∧ρ 50=VI i) (fun i=>m-i) 0
   ⟨Nat.zero_le _,by have:=jJ Qh;omega,⟨rs,yS,by rw[Ha,acV],hM5⟩,Qh,Yl,Wz,P5,rfl,rfl,rfl,rfl,rfl⟩ ?_
  clear hM hM3 hM4 hM5 hrB agY JX Yl hrE Xg Mq Wz Nl OO Xf Qh JO P5 BG s1 s2 s3 a2 a3 d7 d70 d72 Ha rs yS k1 afK
  rintro i ρ H ⟨hi,Vk,⟨rs,yS,Ha,hM⟩,BG,hrB,hrE,JO,g2,g4,g7,g49,g50⟩
  have d71:cO false 1 (.ptr H3.length 0 0 1) H=some (.ref b g 0 qs.length c):=by
   rw[cH,JO]
   rfl
  by_cases dK:(i:Int)<(m:Int)
  ·obtain⟨q,OR⟩:∃q,qs[i]? = some q:=⟨_,List.getElem?_eq_getElem (by omega)⟩
   have a4:=fun H=>aK (f:=bD) (t := .op) (H:=H) (size:=3) (k := .i64) OR rfl
   have wi:IntKind.i64.wrap ((i:Int)+1)=((i+1:Nat):Int):=wrapN (i+1) (by omega) (by omega)
   obtain⟨r,Es⟩:∃r,rs[i]? = some r:=⟨_,List.getElem?_eq_getElem (by omega)⟩
   have DM:r.xs=vec qs.length fun b=>if i<i∧b=i+1 then qs.getD i 0 else 0:=by
    have h1:(rs.map (·.xs))[i]? = some r.xs:=by rw[List.getElem?_map,Es];rfl
    rw[Ha,JJ,Sx (by omega)] at h1
    exact(Option.some.inj h1).symm
   have hxl:r.xs.length=qs.length:=by rw[DM,zQ]
   have m1:=hM.addr (n:=qs.length) (c:=c) (i:=i) (by omega)
   have m2:=hM.cell Es
   have m3:=hM.at (n:=r.xs.length) (c:=r.c) (j:=i+1) Es (by omega)
   have m4:=hM.put (j:=i+1) (y:=q) (iZ:=n) Es (by omega) (by omega) rfl rfl
   have m5:=hM.set (ys:=r.xs.set (i+1) q) Es (by simp)
   have VH:=hM.lt Es
   simp only[oP,g4,g7,g49,g50,dK,a4,d71,m1,m2,m3,m4,wi,JO,vX,jI,gY,VX,Nat.reduceEqDiff,Nat.reduceAdd,Nat.reduceLeDiff,Nat.reduceLT,Nat.reduceSub]
   refine⟨i+1,by omega,by omega,by rw[List.length_set];exact Vk,⟨_,by rw[List.length_set];exact yS,?_,m5⟩,aM (by omega) BG,aM (by omega) hrB,aM (by omega) hrE,aM (by omega) JO,by (repeat' apply And.intro)<;>first | rfl | trivial | assumption⟩
   rw[List.map_set,Ha]
   have hqd:qs.getD i 0=q:=by rw[List.getD_eq_getElem?_getD,OR];rfl
   have:=Nz (qs:=qs) (i:=i)
   rw[←DM,hqd] at this
   exact this
  ·have qG:i=m:=by omega
   subst qG
   have l7:cO true 3 (.ptr H3.length 0 0 0) H=some (.agg [.ref H0.length 0 0 qs.length qs.length,.ref b g 0 qs.length c,.ref H2.length 0 0 qs.length qs.length]):=by
    rw[cH,JO]
    rfl
   simp only[oP,g2,g7,g49,g50,dK,l7,gY,VX,Nat.reduceEqDiff,Nat.reduceAdd,Nat.reduceLeDiff,Nat.reduceLT,Nat.reduceSub]
   have hf:=Z3 (c1:=qs.length) (c2:=c) (c3:=qs.length) hrB (by simp) hM (by omega) hrE (by simp)
   rw[List.length_set,List.length_set,List.length_replicate,yS,Ha] at hf
   have afC:qs.getD (qs.length-1) 0=ql:=by rw[List.getD_eq_getElem?_getD,hm,Nat.add_sub_cancel,hql];rfl
   have hE:Hs qs=(List.replicate qs.length (0:Rat)).set i ql:=by unfold Hs;rw[afC,hm,Nat.add_sub_cancel]
   have hB1:∀q∈qs,fK q≤665:=fun q h=>(hq q h).1
   have hto:=Df (Ix qs.length) (JJ qs i) (Hs qs) ⟨by rw[Ix,List.length_set,List.length_replicate];omega,fun q h=>by have:=DR (B:=665) (zW (by decide)) (by rw[Lp];decide) q h;omega⟩
    ⟨by rw[JJ,MJ];omega,fun r hr=>by
     obtain⟨h1,h2⟩:=Ou hB1 (by decide) r hr
     exact⟨by omega,fun q h=>by have:=h2 q h;omega⟩⟩ ⟨by rw[Hs,List.length_set,List.length_replicate];omega,fun q h=>by have:=DR (B:=665) (zW (by decide)) (Fk hB1 (by decide) _) q h;omega⟩
   have him:i=qs.length-1:=by omega
   rw[hE] at hto ⊢
   rw[←him]
   refine hto.WC rfl (Mm hf) ?_
   rintro r L ⟨v,rfl,hv⟩ hr hL
   have hv:=hv.bM cP.move
   rw[←List.length_append] at hv
   obtain⟨H6,t1,t2,t3⟩:=SK (P:=DO ((gX (Ix qs.length) (JJ qs i) ((List.replicate qs.length (0:Rat)).set i ql)).getD nH)) (n:=n) (ok:=(gX (Ix qs.length) (JJ qs i) ((List.replicate qs.length (0:Rat)).set i ql)).isSome) DO.bM DO.wide (hv.own (by omega)) BG (Nat.le_refl _) hv (Aa Vk hL)
   simp only[g2,t1,t2,gY,VX,Nat.reduceEqDiff,Nat.reduceAdd,Nat.reduceLeDiff,Nat.reduceLT,Nat.reduceSub]
   exact t3
theorem Ps {x:ByteArray} {e:Nat} {H:aA}:PM.fz depth H (.tree [sV x] (.cl e))=some (jX [x]):=Wm (eX (f:=sV) (xs:=[x]) fun _=>rfl)
theorem I4 {n:Nat} {F:Nat} {args gQ:List VV} {P:Nat→Nat→aA→VV→Prop} {ok:Bool} {H:aA} {K:VV→aA→Prop} (xD:∀ {lo hi H H' v},P lo hi H v→cP lo hi H H'→P lo hi H' v) (O0:∀ {lo hi iZ nF:Nat} {H:aA} {v:VV},P lo hi H v→iZ≤lo→hi≤nF→P iZ nF H v)
  (E9:∀ {lo hi H v},P lo hi H v→∀n,n≤lo→∃a b c,v = .agg [a,b,c]∧bA a=true∧bA b=true∧bA c=true∧dD n a=true∧dD n b=true∧dD n c=true) {t:Nat}
  (h:FC F gQ (M4 P ok)) (vB:BJ.contains F=true) (hf:args.mapM (PM.fz depth H)=some gQ) (hr:aF H t 0=some ([.agg [.tree [] .nil,.tree [] .nil,.tree [] .nil]],3,true)) (hnt:n≤t)
  (hk:∀v H2 H3,bY n 3 (.ptr t 0 0 0) v H2=some H3→cO true 3 (.ptr t 0 0 0) H3=some v→(∃L',Ar H3 (List.replicate n .dead++L')∧dD n (.dQ [v,.sc (.bool ok)])=true∧dL n L'=true∧M4 P ok n (.dQ [v,.sc (.bool ok)]) L')→K (.dQ [v,.sc (.bool ok)]) H2) :
  cZ F args n H K:=by
 refine h.WC vB hf ?_
 rintro r L ⟨v,rfl,hv⟩ DN hL
 have hv:=xD hv cP.move
 rw[←List.length_append] at hv
 have ht:=jJ hr
 obtain⟨H3,t1,t2,t3⟩:=SK (P:=P) (n:=n) (ok:=ok) xD O0 (E9 hv n (by omega)) hr hnt hv (Aa (by omega) hL)
 exact hk v _ H3 t1 t2 t3
abbrev RU:bU := .row 0 [.agg [.tree [] .nil,.tree [] .nil,.tree [] .nil]] 3 true
theorem Ch {n:Nat}:aF (List.replicate n bU.dead++[RU]) n 0=some ([.agg [.tree [] .nil,.tree [] .nil,.tree [] .nil]],3,true):=by rw[tC,aT]
theorem Ey (x:ByteArray) (hx:x.size≤1000000000):FC 21 [sV x] (M4 (DO ((kE [x]).getD nH)) (kE [x]).isSome):=by
 refine FC.D6 ⟨true,false⟩ Ei (Nat.le_of_ble_eq_true rfl) fun n => ?_
 have eL:∀H,jM false [.string ⟨#[]⟩] 1 [(0,sV x)] H=some (.tree [sV x] (.cl 1),H):=fun H=>eW rfl rfl rfl
 simp only[Aw,wP,eL,AP,List.length_replicate,gY,VX,Nat.reduceEqDiff,Nat.reduceAdd,Nat.reduceLeDiff,Nat.reduceLT,Nat.reduceSub]
 refine I4 (P:=DO ((kE [x]).getD nH)) DO.bM DO.wide (fun h n hn=>h.own hn) (DZ [x] (by simp) (fun s hs=>by rw[List.mem_singleton] at hs;subst hs;exact hx)) rfl (Mm Ps) Ch (Nat.le_refl _) fun v H2 H3 s1 s2 s3 => ?_
 simp only[s1,s2,gY,VX,Nat.reduceEqDiff,Nat.reduceAdd,Nat.reduceLeDiff,Nat.reduceLT,Nat.reduceSub]
 exact s3
end Go.PM
namespace Go.PM
def wQ:aE:=(LS [LO 2 (.new [(.slice none 0 0),(.slice none 0 0),(.slice none 0 0)]),LO 3 (.mv LF)] (LS [LM 4 0,LO 5 (.lit [(.string ⟨#[]⟩)] 1 [(0,(LT 4))]),LO 6 (.call 48 [(LT 5)]),LO 7 (LX 6 0),LO 8 (LX 6 1),LN (.store 3 (LT 2) (LT 7)),LM 3 8] .ret))
def Ap:aS:=⟨9,[(.cell 2 true 3),(.tmp 3)],wQ⟩
theorem EL:iB 20=some Ap:=by kernel_rfl
def oM:aE:=(.seq (LS [LM 40 8,LO 41 (.bin .add (LT 40) (LI 1)),LM 42 6,LO 43 (.bin .lss (LT 41) (LT 42))] (.cond (LT 43) .skip (.exit 0))) (.seq (.block 1 (.eO [LO 46 (LA 1 7),LO 47 (LL 46),LM 48 8,LO 49 (.iaddr 1 (LT 47) (LT 48)),LO 50 (LL 49),LM 51 8,LO 52 (.bin .add (LT 51) (LI 1)),LM 53 4,LM 54 8,LO 55 (.iaddr 3 (LT 53) (LT 54)),LO 56 (LK 55),LO 57 (.iaddr 3 (LT 50) (LT 52)),LN (.store 3 (LT 57) (LT 56))])) (.eO [LM 44 8,LO 45 (.bin .add (LT 44) (LI 1)),LM 8 45])))
def pT:aE:=(LS [LO 2 (.new [(.slice none 0 0),(.slice none 0 0),(.slice none 0 0)]),LO 3 (.mv LF)] (LS [LM 10 0,LO 11 (.call 121 [(LT 10)]),LM 9 11,LO 12 (LX 9 0),LO 13 (LX 9 1),LM 4 12,LM 5 13] (.seq (LS [LM 14 5,LO 15 (.un .not (LT 14))] (.cond (LT 15) (LS [LO 16 (.build [(.slice none 0 0),(.slice none 0 0),(.slice none 0 0)] [(0,1),(1,1),(2,1)] []),LN (.store 3 (LT 2) (LT 16)),LO 3 (.mv LF)] .ret) .skip)) (LS [LM 17 4,LO 18 (.len (LT 17)),LM 6 18] (LS [LM 19 6,LO 20 (.call 122 [(LT 19)]),LM 21 6,LO 22 (.call 123 [(LT 21)]),LM 23 6,LO 24 (.call 122 [(LT 23)]),LO 25 (.build [(.slice none 0 0),(.slice none 0 0),(.slice none 0 0)] [(0,1),(1,1),(2,1)] [(0,(LT 20)),(1,(LT 22)),(2,(LT 24))]),LO 7 (.new [(.slice none 0 0),(.slice none 0 0),(.slice none 0 0)]),LN (.store 3 (LT 7) (LT 25))] (LS [LO 26 (LA 0 7),LO 27 (LL 26),LQ 28 (.call 124 []),LO 29 (.iaddr 3 (LT 27) (LI 0)),LN (.store 3 (LT 29) (LT 28))] (LS [LO 30 (LA 2 7),LO 31 (LL 30),LM 32 6,LO 33 (.bin .sub (LT 32) (LI 1)),LM 34 4,LM 35 6,LO 36 (.bin .sub (LT 35) (LI 1)),LO 37 (.iaddr 3 (LT 34) (LT 36)),LO 38 (LK 37),LO 39 (.iaddr 3 (LT 31) (LT 33)),LN (.store 3 (LT 39) (LT 38))] (.seq (LS [LO 8 (.mv (LI 0))] (.block 0 (.loop oM))) (LS [LO 58 (.call 125 [(LT 7)]),LO 59 (LX 58 0),LO 60 (LX 58 1),LN (.store 3 (LT 2) (LT 59)),LM 3 60] .ret)))))))))
def sG:aS:=⟨61,[(.cell 2 true 3),(.tmp 3)],pT⟩
theorem E8:iB 48=some sG:=by kernel_rfl
def lB:aE:=(LS [LO 2 (.mv (.const (.slice none 0 0))),LO 3 (.mv LF)] (LS [LM 7 0,LO 8 (.call 115 [(LT 7)]),LM 6 8,LO 9 (LX 6 0),LO 10 (LX 6 1),LM 4 9,LM 5 10] (LS [LM 11 4,LM 12 5,LM 13 12,LY 13 14 (.mv (LT 4)),LY 13 15 (.len (LT 14)),LY 13 16 (.bin .geq (LT 15) (LI 1)),LO 17 (.pick (LT 13) (LT 16) LF),LM 18 17,LY 18 19 (.mv (LT 4)),LY 18 20 (.len (LT 19)),LY 18 21 (.bin .leq (LT 20) (LI 6)),LO 22 (.pick (LT 18) (LT 21) LF),LM 23 22,LY 23 24 (.mv (LT 4)),LY 23 25 (.call 199 [(LT 24)]),LO 26 (.pick (LT 23) (LT 25) LF),LM 2 11,LM 3 26] .ret)))
def nR:aS:=⟨27,[(.tmp 2),(.tmp 3)],lB⟩
theorem Hh:iB 121=some nR:=by kernel_rfl
def uU:aE:=(.seq (LS [LM 6 4,LM 7 0,LO 8 (.bin .lss (LT 6) (LT 7))] (.cond (LT 8) .skip (.exit 0))) (.seq (.block 1 (.eO [LM 11 3,LO 12 (.call 136 []),LO 13 (.lit [(.bool false),(.slice none 0 0),(.slice none 0 0)] 1 [(0,(LT 12))]),LO 14 (.app 3 56 (LT 11) (LT 13)),LM 3 14])) (.eO [LM 9 4,LO 10 (.bin .add (LT 9) (LI 1)),LM 4 10])))
def CV:aE:=(LS [LO 2 (.mv (.const (.slice none 0 0)))] (LS [LO 5 (.lit [(.bool false),(.slice none 0 0),(.slice none 0 0)] 0 []),LM 3 5] (.seq (LS [LO 4 (.mv (LI 0))] (.block 0 (.loop uU))) (LS [LM 15 3,LM 2 15] .ret))))
def Gm:aS:=⟨16,[(.tmp 2)],CV⟩
theorem JR:iB 122=some Gm:=by kernel_rfl
def rX:aE:=(.seq (LS [LM 43 9,LM 44 0,LO 45 (.chk (LT 44)),LO 46 (LA 1 45),LO 47 (LL 46),LO 48 (.len (LT 47)),LO 49 (.bin .lss (LT 43) (LT 48))] (.cond (LT 49) .skip (.exit 0))) (.seq (.block 1 (LS [LM 53 0,LO 54 (.chk (LT 53)),LO 55 (LA 1 54),LO 56 (LL 55),LM 57 9,LO 58 (.iaddr 1 (LT 56) (LT 57)),LO 59 (LL 58),LO 60 (.call 200 [(LT 59)]),LM 52 60,LO 61 (LX 52 0),LO 62 (LX 52 1),LM 10 61,LM 11 62] (.seq (LS [LM 63 11,LO 64 (.un .not (LT 63))] (.cond (LT 64) (LS [LO 65 (.build [(.slice none 0 0),(.slice none 0 0),(.slice none 0 0)] [(0,1),(1,1),(2,1)] []),LN (.store 3 (LT 2) (LT 65)),LO 3 (.mv LF)] .ret) .skip)) (.eO [LO 66 (LA 1 8),LO 67 (LL 66),LM 68 10,LO 69 (.lit [(.slice none 0 0)] 1 [(0,(LT 68))]),LO 70 (.app 1 24 (LT 67) (LT 69)),LO 71 (LA 1 8),LN (.store 1 (LT 71) (LT 70))])))) (.eO [LM 50 9,LO 51 (.bin .add (LT 50) (LI 1)),LM 9 51])))
def BA:aE:=(LS [LO 2 (.new [(.slice none 0 0),(.slice none 0 0),(.slice none 0 0)]),LO 3 (.mv LF)] (LS [LM 13 0,LO 14 (.chk (LT 13)),LO 15 (LA 0 14),LO 16 (LL 15),LO 17 (.call 200 [(LT 16)]),LM 12 17,LO 18 (LX 12 0),LO 19 (LX 12 1),LM 4 18,LM 5 19] (LS [LM 21 0,LO 22 (.chk (LT 21)),LO 23 (LA 2 22),LO 24 (LL 23),LO 25 (.call 200 [(LT 24)]),LM 20 25,LO 26 (LX 20 0),LO 27 (LX 20 1),LM 6 26,LM 7 27] (.seq (LS [LM 28 5,LO 29 (.un .not (LT 28)),LM 30 29,LZ 30 31 (.mv (LT 7)),LZ 30 32 (.un .not (LT 31)),LO 33 (.pick (LT 30) LG (LT 32)),LM 34 33,LZ 34 35 (.mv (LT 4)),LZ 34 36 (.len (LT 35)),LZ 34 37 (.bin .gtr (LT 36) (LI 6)),LO 38 (.pick (LT 34) LG (LT 37))] (.cond (LT 38) (LS [LO 39 (.build [(.slice none 0 0),(.slice none 0 0),(.slice none 0 0)] [(0,1),(1,1),(2,1)] []),LN (.store 3 (LT 2) (LT 39)),LO 3 (.mv LF)] .ret) .skip)) (LS [LM 40 4,LM 41 6,LO 42 (.build [(.slice none 0 0),(.slice none 0 0),(.slice none 0 0)] [(0,1),(1,1),(2,1)] [(0,(LT 40)),(2,(LT 41))]),LO 8 (.new [(.slice none 0 0),(.slice none 0 0),(.slice none 0 0)]),LN (.store 3 (LT 8) (LT 42))] (.seq (LS [LO 9 (.mv (LI 0))] (.block 0 (.loop rX))) (LS [LO 72 (LK 8),LN (.store 3 (LT 2) (LT 72)),LO 3 (.mv LG)] .ret)))))))
def DT:aS:=⟨73,[(.cell 2 true 3),(.tmp 3)],BA⟩
theorem Iu:iB 125=some DT:=by kernel_rfl
end Go.PM
namespace Go.PM
open Go.Lib
theorem Db {lo:Nat} {H:aA} (N:Nat) (hN:N≤1000000) (eJ:lo≤H.length):iV 122 [VI N] lo H (RS (Gu bS 3 (List.replicate N (0:Rat))) H):=by
 refine iV.walk ⟨true,false⟩ JR (Nat.le_of_ble_eq_true rfl) ?_
 have e0:∀K,jM false [.bool false,.slice none 0 0,.slice none 0 0] 0 [] K=some (.ref K.length 0 0 0 0,K++[.row 0 [] 3 true]):=fun K=>iN rfl
 have e1:=Bk
 have eL:∀H,jM false [.bool false,.slice none 0 0,.slice none 0 0] 1 [(0,bS 0)] H=some (.tree [bS 0] (.cl 3),H):=fun H=>eW rfl rfl rfl
 have eS:∀H,cM 3 (.tree [bS 0] (.cl 3)) H=some [bS 0]:=fun H=>eG rfl rfl
 simp only[Gm,CV,e0,gY,VX,Nat.reduceEqDiff,Nat.reduceAdd,Nat.reduceLeDiff,Nat.reduceLT,Nat.reduceSub]
 refine aR (fun(i:Nat) ρ H1=>i≤N∧H <+: H1∧aF H1 H.length i=some ((List.replicate i (0:Rat)).map bS,3,true)∧ρ 0=VI N∧ρ 3 = .ref H.length i 0 i i∧ρ 4=VI i) (fun i=>N-i) 0 ⟨Nat.zero_le _,List.prefix_append _ _,dY,rfl,rfl,rfl⟩ ?_
 rintro i ρ H1 ⟨hi,hp,lX,g0,g3,g4⟩
 by_cases dK:(i:Int)<(N:Int)
 ·have wi:IntKind.i64.wrap ((i:Int)+1)=((i+1:Nat):Int):=wrapN (i+1) (by omega) (by omega)
  have eP:=IT (lo:=lo) (bytes:=56) (x:=(0:Rat)) lX (by simp) eJ (by decide) (by decide) (by omega)
  simp only[uU,g0,g3,g4,dK,e1,eL,eS,eP,wi,gY,VX,Nat.reduceEqDiff,Nat.reduceAdd,Nat.reduceLeDiff,Nat.reduceLT,Nat.reduceSub]
  exact⟨i+1,by omega,by omega,IM hp (Nat.le_refl _),by rw[List.replicate_succ'];exact dA lX,by (repeat' apply And.intro)<;>first | rfl | trivial | assumption⟩
 ·have qG:i=N:=by omega
  subst qG
  simp only[uU,g0,g3,g4,dK,gY,VX,Nat.reduceEqDiff,Nat.reduceAdd,Nat.reduceLeDiff,Nat.reduceLT,Nat.reduceSub]
  exact⟨hp,H.length,i,i,Nat.le_refl _,jJ lX,by rw[List.length_replicate],by simp,lX⟩
set_option maxHeartbeats 1000000 in
theorem Hk {lo:Nat} {H:aA} (N:Nat) (hN:N≤1000) (eJ:lo≤H.length):iV 123 [VI N] lo H (RS (TabIs bS 3 (List.replicate N (List.replicate N (0:Rat)))) H):=by
 refine iV.walk ⟨true,false⟩ Hu (Nat.le_of_ble_eq_true rfl) ?_
 have e0:∀K,jM false [.slice none 0 0] 0 [] K=some (.ref K.length 0 0 0 0,K++[.row 0 [] 1 true]):=fun K=>iN rfl
 have e0':∀K,jM false [.bool false,.slice none 0 0,.slice none 0 0] 0 [] K=some (.ref K.length 0 0 0 0,K++[.row 0 [] 3 true]):=fun K=>iN rfl
 have e1:=Bk
 have eL:∀H,jM false [.bool false,.slice none 0 0,.slice none 0 0] 1 [(0,bS 0)] H=some (.tree [bS 0] (.cl 3),H):=fun H=>eW rfl rfl rfl
 have eS:∀H,cM 3 (.tree [bS 0] (.cl 3)) H=some [bS 0]:=fun H=>eG rfl rfl
 simp only[CT,Aq,e0,gY,VX,Nat.reduceEqDiff,Nat.reduceAdd,Nat.reduceLeDiff,Nat.reduceLT,Nat.reduceSub]
 refine aR (fun(i:Nat) ρ H1=>i≤N∧H <+: H1∧(∃rs,rs.length=i∧rs.map (·.xs)=List.replicate i (List.replicate N (0:Rat))∧MG bS 3 H.length H1.length H.length i H1 rs)∧ρ 0=VI N∧ρ 3 = .ref H.length i 0 i i∧ρ 4=VI i) (fun i=>N-i) 0
  ⟨Nat.zero_le _,List.prefix_append _ _,⟨[],rfl,rfl,dY,Nat.le_refl _,by simp,by simp,by simp⟩,rfl,rfl,rfl⟩ ?_
 rintro i ρ H1 ⟨hi,hp,⟨rs,yS,Ha,hM⟩,g0,g3,g4⟩
 by_cases dK:(i:Int)<(N:Int)
 ·have wi:IntKind.i64.wrap ((i:Int)+1)=((i+1:Nat):Int):=wrapN (i+1) (by omega) (by omega)
  simp only[rH,g0,g3,g4,dK,e0',gY,VX,Nat.reduceEqDiff,Nat.reduceAdd,Nat.reduceLeDiff,Nat.reduceLT,Nat.reduceSub]
  have CY:=hp.length_le
  refine aR (fun(k:Nat) ρ H2=>k≤N∧H1 <+: H2∧aF H2 H1.length k=some ((List.replicate k (0:Rat)).map bS,3,true)∧ρ 0=VI N∧ρ 3 = .ref H.length i 0 i i∧ρ 4=VI i∧ρ 5 = .ref H1.length k 0 k k∧ρ 6=VI k) (fun k=>N-k) 0 ⟨Nat.zero_le _,List.prefix_append _ _,dY,g0,g3,g4,rfl,rfl⟩ ?_
  clear g0 g3 g4
  rintro k ρ H2 ⟨hk,RP,lX,g0,g3,g4,g5,g6⟩
  by_cases hkn:(k:Int)<(N:Int)
  ·have wk:IntKind.i64.wrap ((k:Int)+1)=((k+1:Nat):Int):=wrapN (k+1) (by omega) (by omega)
   have eP:=IT (lo:=lo) (bytes:=56) (x:=(0:Rat)) lX (by simp) (by omega) (by decide) (by decide) (by omega)
   simp only[qP,g0,g5,g6,hkn,e1,eL,eS,eP,wk,gY,VX,Nat.reduceEqDiff,Nat.reduceAdd,Nat.reduceLeDiff,Nat.reduceLT,Nat.reduceSub]
   exact⟨k+1,by omega,by omega,IM RP (Nat.le_refl _),by rw[List.replicate_succ'];exact dA lX,by (repeat' apply And.intro)<;>first | rfl | trivial | assumption⟩
  ·have hke:k=N:=by omega
   subst hke
   have hA:KA bS 3 (List.replicate i (List.replicate k (0:Rat))) H.length H1.length H2 (.ref H.length i 0 i i) := .inr ⟨H.length,i,rs,Nat.le_refl _,hM.bhi,by simp,bT RP hM.out,Ha,(hM.pre RP).rows⟩
   have Eo:=jJ lX
   obtain⟨v',H3,ap,Vc,bM,hlen,Qb,wD,_⟩:=hA.snoc (iZ:=lo) eJ (by simp;omega) ⟨H1.length,k,k,List.replicate k 0⟩ (Nat.le_refl _) CY (by simp) lX
   rw[List.length_replicate] at ap
   have eL2:∀K,jM false [.slice none 0 0] 1 [(0,.ref H1.length k 0 k k)] K=some (.tree [.ref H1.length k 0 k k] (.cl 1),K):=fun K=>eW rfl rfl rfl
   have eS2:∀K,cM 1 (.tree [.ref H1.length k 0 k k] (.cl 1)) K=some [.ref H1.length k 0 k k]:=fun K=>eG rfl rfl
   simp only[qP,g0,g3,g4,g5,g6,hkn,eL2,eS2,ap,wi,gY,VX,Nat.reduceEqDiff,Nat.reduceAdd,Nat.reduceLeDiff,Nat.reduceLT,Nat.reduceSub]
   rw[←List.replicate_succ'] at Vc
   rcases Vc with⟨_,h⟩ | ⟨b,g,Va,k1,k2,rfl,k3,k4,k5⟩
   ·simp at h
   ·have qI:=IT (f:=nE) (lo:=lo) (bytes:=24) (x:=⟨H1.length,k,k,List.replicate k (0:Rat)⟩) (bT RP hM.out) yS.symm eJ (by decide) (by decide) (by omega)
    simp only[nE,List.length_replicate] at qI
    rw[qI] at ap
    injection ap with ap
    injection ap with ap1 ap2
    injection ap1 with q1 q2 q3 q4 q5
    subst q1 q2
    refine⟨i+1,by omega,by omega,wD H (Nat.le_refl _) (hp.trans RP),⟨Va,by have:=congrArg List.length k4;simpa using this,k4,k3,Nat.le_refl _,k2,k5.nd,k5.row⟩,by (repeat' apply And.intro)<;>first | rfl | trivial | assumption | rw[List.length_replicate]⟩
 ·have qG:i=N:=by omega
  subst qG
  simp only[rH,g0,g3,g4,dK,gY,VX,Nat.reduceEqDiff,Nat.reduceAdd,Nat.reduceLeDiff,Nat.reduceLT,Nat.reduceSub]
  exact⟨hp,H.length,i,i,rs,by rw[List.length_replicate],by simp,hM,Ha⟩
theorem Hm (qs:List Rat) (hn:qs.length≤1000000):TC 199 [bK bS qs] (VB (qs.all fun q=>decide (0<q))):=by
 refine TC.walk ⟨true,false⟩ Hi rfl (Nat.le_of_ble_eq_true rfl) (LH (oR _)) rfl ?_
 simp only[CX,Ay,gY,VX,Nat.reduceEqDiff,Nat.reduceAdd,Nat.reduceLeDiff,Nat.reduceLT,Nat.reduceSub]
 refine aR (fun(i:Nat) ρ H=>i≤qs.length∧(∀q∈qs.take i,0<q)∧H=[]∧ρ 0=bK bS qs∧ρ 3=VI i) (fun i=>qs.length-i) 0 ⟨Nat.zero_le _,by simp,rfl,rfl,rfl⟩ ?_
 rintro i ρ H ⟨hi,ht,rfl,g0,g3⟩
 by_cases dK:(i:Int)<(qs.length:Int)
 ·obtain⟨q,hq⟩:∃q,qs[i]? = some q:=⟨_,List.getElem?_eq_getElem (by omega)⟩
  have a1:=fun H=>aK (f:=bS) (t := .op) (H:=H) (size:=3) (k := .i64) hq rfl
  have e1:=Jf q
  have e2:=JZ q
  have wi:IntKind.i64.wrap ((i:Int)+1)=((i+1:Nat):Int):=wrapN (i+1) (by omega) (by omega)
  have Zf:¬0<q→(qs.all fun q=>decide (0<q))=false:=fun h=>by
   cases ha:qs.all fun q=>decide (0<q) with
   | false=>rfl
   | true=>exact absurd (of_decide_eq_true (List.all_eq_true.1 ha q (List.mem_of_getElem? hq))) h
  by_cases hz:q=0
  ·rw[decide_eq_true hz] at e1
   rw[Zf (by rw[hz];exact Rat.lt_irrefl)]
   simp only[jZ,g0,g3,dK,a1,e1,nX,gY,VX,Nat.reduceEqDiff,Nat.reduceAdd,Nat.reduceLeDiff,Nat.reduceLT,Nat.reduceSub]
   exact aI rfl
  ·rw[decide_eq_false hz] at e1
   by_cases sW:q.num<0
   ·rw[decide_eq_true sW] at e2
    rw[Zf (fun h=>by have:=Sy.1 sW;grind)]
    simp only[jZ,g0,g3,dK,a1,e1,e2,nX,gY,VX,Nat.reduceEqDiff,Nat.reduceAdd,Nat.reduceLeDiff,Nat.reduceLT,Nat.reduceSub]
    exact aI rfl
   ·rw[decide_eq_false sW] at e2
    simp only[jZ,g0,g3,dK,a1,e1,e2,wi,nX,gY,VX,Nat.reduceEqDiff,Nat.reduceAdd,Nat.reduceLeDiff,Nat.reduceLT,Nat.reduceSub]
    refine⟨i+1,by omega,by omega,fun p hp => ?_,by (repeat' apply And.intro)<;>first | rfl | trivial | assumption⟩
    rw[nD hq] at hp
    rcases List.mem_append.1 hp with h | h
    ·exact ht p h
    ·rw[List.mem_singleton] at h
     subst h
     have:=mt Sy.2 sW
     grind
 ·have qG:i=qs.length:=by omega
  subst qG
  rw[List.take_length] at ht
  have:(qs.all fun q=>decide (0<q))=true:=List.all_eq_true.2 fun q h=>decide_eq_true (ht q h)
  rw[this]
  simp only[jZ,g0,g3,dK,gY,VX,Nat.reduceEqDiff,Nat.reduceAdd,Nat.reduceLeDiff,Nat.reduceLT,Nat.reduceSub]
  exact aI rfl
def Hw (o:Option (List Rat)):VV:=match o with
 | some m=>bK bS m
 | none => .tree [] .op
def zR (o:Option (List Rat)):Bool:=match o with
 | some qs=>decide (1≤qs.length)&&decide (qs.length≤6)&&qs.all fun q=>decide (0<q)
 | none=>false
theorem O5 (o:Option (List Rat)):fY (Hw o)=true:=by cases o<;>first | rfl | exact Fc _
theorem G8 (xs:List ByteArray) (hn:xs.length≤1000000000) (hs:∀s∈xs,s.size≤1000000000):TC 121 [jX xs] (.dQ [Hw (uC xs),VB (zR (uC xs))]):=by
 refine TC.walk ⟨true,false⟩ Hh rfl (Nat.le_of_ble_eq_true rfl) (LH (kS _)) (A2 (O5 _) rfl) ?_
 have e1:=Jt xs hn hs
 cases h:uC xs with
 |
  none =>
  rw[h,QM] at e1
  simp only[nR,lB,e1,gY,VX,Nat.reduceEqDiff,Nat.reduceAdd,Nat.reduceLeDiff,Nat.reduceLT,Nat.reduceSub]
  exact aI rfl
 |
  some qs =>
  rw[h,Qy] at e1
  obtain⟨hb,hl,_⟩:=HZ h
  have e2:=Hm qs (by omega)
  simp only[Hw,zR]
  by_cases h1:(1:Int)≤(qs.length:Int)
  ·by_cases h6:(qs.length:Int)≤6
   ·rw[decide_eq_true (by omega:1≤qs.length),decide_eq_true (by omega:qs.length≤6),Bool.true_and,Bool.true_and]
    simp only[nR,lB,e1,e2,h1,h6,gY,VX,Nat.reduceEqDiff,Nat.reduceAdd,Nat.reduceLeDiff,Nat.reduceLT,Nat.reduceSub]
    exact aI (tQ (oR _) rfl)
   ·rw[decide_eq_true (by omega:1≤qs.length),decide_eq_false (by omega:¬qs.length≤6),Bool.true_and,Bool.false_and]
    simp only[nR,lB,e1,h1,h6,gY,VX,Nat.reduceEqDiff,Nat.reduceAdd,Nat.reduceLeDiff,Nat.reduceLT,Nat.reduceSub]
    exact aI (tQ (oR _) rfl)
  ·rw[decide_eq_false (by omega:¬1≤qs.length),Bool.false_and,Bool.false_and]
   simp only[nR,lB,e1,h1,gY,VX,Nat.reduceEqDiff,Nat.reduceAdd,Nat.reduceLeDiff,Nat.reduceLT,Nat.reduceSub]
   exact aI (tQ (oR _) rfl)
theorem IH:∀ {xs:List ByteArray} {qs:List Rat},xs.mapM pQ=some qs→F1 xs=if (qs.all fun q=>decide (0<q))=true then some qs else none
 |
  [],qs,h=>by
  cases h
  rfl
 |
  x::xs,qs,h=>by
  obtain⟨y,ys,h1,h2,rfl⟩:=iO h
  have ih:=IH h2
  unfold F1 at ih ⊢
  rw[List.mapM_cons,ih]
  unfold FF
  rw[h1]
  by_cases hy:0<y
  ·by_cases hys:(ys.all fun q=>decide (0<q))=true
   ·simp[hy,hys]
   ·simp[hy,hys]
  ·simp[hy]
theorem C3:∀ {xs:List ByteArray},xs.mapM pQ=none→F1 xs=none
 | [],h=>by cases h
 |
  x::xs,h=>by
  unfold F1
  rw[List.mapM_cons] at h ⊢
  unfold FF
  cases h1:pQ x with
  | none=>rfl
  |
   some y =>
   rw[h1] at h
   have h2:xs.mapM pQ=none:=by
    cases hx:xs.mapM pQ with
    | none=>rfl
    | some ys=>rw[hx] at h;cases h
   have ih:=C3 h2
   unfold F1 FF at ih
   rw[ih]
   by_cases hy:0<y
   ·simp[hy]
   ·simp[hy]
theorem XT (xs:List ByteArray):(zR (uC xs)=true→∃qs,uC xs=some qs∧F1 xs=some qs∧1≤qs.length∧qs.length≤6)∧(zR (uC xs)=false→∀qs,F1 xs=some qs→¬(1≤qs.length∧qs.length≤6)):=by
 constructor
 ·intro h
  unfold zR at h
  split at h
  ·rename_i qs hq
   simp only[Bool.and_eq_true,decide_eq_true_eq] at h
   refine⟨qs,hq,?_,h.1.1,h.1.2⟩
   unfold uC at hq
   split at hq
   ·rw[IH hq,if_pos h.2]
   ·cases hq
  ·cases h
 ·intro h qs hqs hc
  have hl:=(Fu hqs).1
  unfold zR uC at h
  rw[if_pos (by omega)] at h
  cases hp:xs.mapM pQ with
  |
   none =>
   rw[C3 hp] at hqs
   cases hqs
  |
   some ps =>
   rw[hp] at h
   rw[IH hp] at hqs
   split at hqs
   ·rename_i ha
    cases hqs
    simp[ha,hc.1,hc.2] at h
   ·cases hqs
def JP (s:B0) (lo hi:Nat) (H:aA) (v:VV):Prop:=(∃a b c,v = .agg [a,b,c]∧bA a=true∧bA b=true∧bA c=true∧∀n,n≤lo→dD n a=true∧dD n b=true∧dD n c=true)∧El (NQ s) lo hi H v
theorem JP.bM {s:B0}:∀ {lo hi H H' v},JP s lo hi H v→cP lo hi H H'→JP s lo hi H' v:=fun h hk=>⟨h.1,h.2.bM hk⟩
theorem JP.wide {s:B0}:∀ {lo hi iZ nF:Nat} {H:aA} {v:VV},JP s lo hi H v→iZ≤lo→hi≤nF→JP s iZ nF H v:=fun h hl hh=>by
 obtain⟨⟨a,b,c,h1,h2,h3,h4,h5⟩,h6⟩:=h
 exact⟨⟨a,b,c,h1,h2,h3,h4,fun n hn=>h5 n (by omega)⟩,fun H' hk=>h6 H' (hk.sub hl hh)⟩
theorem JP.ag {s:B0} {lo hi:Nat} {H:aA} {v:VV} (h:JP s lo hi H v) (n:Nat) (hn:n≤lo):∃a b c,v = .agg [a,b,c]∧bA a=true∧bA b=true∧bA c=true∧dD n a=true∧dD n b=true∧dD n c=true:=by
 obtain⟨⟨a,b,c,h1,h2,h3,h4,h5⟩,_⟩:=h
 exact⟨a,b,c,h1,h2,h3,h4,h5 n hn⟩
theorem Ni {lo hi:Nat} {H:aA}:JP nH lo hi H (.agg [.tree [] .nil,.tree [] .nil,.tree [] .nil]) :=
 ⟨⟨_,_,_,rfl,rfl,rfl,rfl,fun _ _=>⟨rfl,rfl,rfl⟩⟩,fun H' _=>Qc (s:=nH) (l1:=0) (h1:=0) (l2:=0) (h2:=0) (l3:=0) (h3:=0) (.inl ⟨rfl,rfl⟩) (.inl ⟨rfl,rfl⟩) (.inl ⟨rfl,rfl⟩)⟩
end Go.PM
namespace Go.PM
open Go.Lib
theorem B8 {qs:List Rat} {x:List ByteArray} (h:nQ qs=some x):x.length=qs.length:=by
 unfold nQ at h
 split at h
 ·cases h
  rw[List.length_map]
 ·cases h
theorem J2.own {α:Type} {f:α→VV} {e lo hi n:Nat} {H:aA} {v:VV} {o:Option (List α)} (h:J2 f e o lo hi H v) (hn:n≤lo):dD n v=true:=by
 cases o with
 |
  none =>
  have h:v = .tree [] .nil:=h
  subst h
  rfl
 |
  some ys =>
  obtain⟨b,g,c,h1,h2,rfl,h3⟩:=h
  simp[dD];omega
theorem KA.own {α:Type} {f:α→VV} {e lo hi n:Nat} {H:aA} {v:VV} {aY:List (List α)} (h:KA f e aY lo hi H v) (hn:n≤lo):dD n v=true:=by
 rcases h with⟨rfl,_⟩ | ⟨b,g,rs,q1,q2,rfl,_⟩
 ·rfl
 ·simp[dD];omega
set_option maxHeartbeats 4000000 in
theorem Jw (b:List Rat) (g:List (List Rat)) (e:List Rat) (hb:b.length≤1000000∧∀q∈b,fK q≤1099511627776) (hg:g.length≤1000000∧∀r∈g,r.length≤1000000∧∀q∈r,fK q≤1099511627776) (he:e.length≤1000000∧∀q∈e,fK q≤1099511627776) :
  FC 125 [(MZ bS b g e).cY 0] (M4 (JP ((gX b g e).getD nH)) (gX b g e).isSome):=by
 refine FC.D6 ⟨true,false⟩ Iu (Nat.le_of_ble_eq_true rfl) fun n => ?_
 simp only[DT,BA,MZ,gL,List.getElem?_cons_zero,List.getElem?_cons_succ,AP,List.length_replicate,Nat.zero_add,gY,VX,Nat.reduceEqDiff,Nat.reduceAdd,Nat.reduceLeDiff,Nat.reduceLT,Nat.reduceSub]
 generalize PU:List.replicate n bU.dead++[bU.row 0 [.agg [.tree [] .nil,.tree [] .nil,.tree [] .nil]] 3 true]=H0
 have hO0:wB n H0:=⟨[.row 0 [.agg [.tree [] .nil,.tree [] .nil,.tree [] .nil]] 3 true],PU.symm,rfl⟩
 have BG:aF H0 n 0=some ([.agg [.tree [] .nil,.tree [] .nil,.tree [] .nil]],3,true):=by rw[←PU,tC,aT]
 have wX:H0.length=n+1:=by rw[←PU];simp
 refine qR (n:=n) (pH b hb.1 hb.2) rfl (Mm (aI (oR _))) hO0 J2.bM fun u H1 p1 hO1 hou hu => ?_
 simp only[gL,List.getElem?_cons_zero,List.getElem?_cons_succ,Nat.zero_add,gY,VX,Nat.reduceEqDiff,Nat.reduceAdd,Nat.reduceLeDiff,Nat.reduceLT,Nat.reduceSub]
 refine qR (n:=n) (pH e he.1 he.2) rfl (Mm (aI (oR _))) hO1 J2.bM fun z H2 p2 hO2 hoz hz => ?_
 have Nl:=bT (p1.trans p2) BG
 have anZ:=p1.length_le
 have amW:=p2.length_le
 have fin:∀(K:aA) (a1 a2 a3:VV),aF K n 0=some ([.agg [.tree [] .nil,.tree [] .nil,.tree [] .nil]],3,true)→bA a1=true→bA a2=true→bA a3=true →
   bY n 3 (.ptr n 0 0 0) (.agg [a1,a2,a3]) K=some (K.set n (.row 0 [.agg [a1,a2,a3]] 3 true))∧cO true 3 (.ptr n 0 0 0) (K.set n (.row 0 [.agg [a1,a2,a3]] 3 true))=some (.agg [a1,a2,a3]):=fun K a1 a2 a3 h h1 h2 h3=>by
  constructor
  ·rw[dC h (by exact Nat.zero_lt_one) (Nat.le_refl _) rfl (by simp[aB,h1,h2,h3])]
   rfl
  ·rw[cH,dA h]
   rfl
 have bad:gX b g e=none→∀K:aA,n≤K.length→∃L,Ar (K.set n (.row 0 [.agg [.tree [] .nil,.tree [] .nil,.tree [] .nil]] 3 true)) (List.replicate n .dead++L)∧dD n (.dQ [.agg [.tree [] .nil,.tree [] .nil,.tree [] .nil],.sc (.bool false)])=true∧dL n L=true∧M4 (JP ((gX b g e).getD nH)) (gX b g e).isSome n (.dQ [.agg [.tree [] .nil,.tree [] .nil,.tree [] .nil],.sc (.bool false)]) L:=fun M6 K hK=>by
  rw[M6]
  exact⟨_,uA (by rw[List.length_set];omega),rfl,uN,_,rfl,Ni⟩
 obtain⟨f1,f2⟩:=fin H2 (.tree [] .nil) (.tree [] .nil) (.tree [] .nil) Nl rfl rfl rfl
 cases oQ:nQ b with
 |
  none =>
  have bad:=bad (by unfold gX;rw[oQ]) H2 (by omega)
  cases nQ e <;>
  ·simp only[gL,List.getElem?_cons_zero,List.getElem?_cons_succ,f1,f2,Option.isSome_none,Option.isSome_some,gY,VX,Nat.reduceEqDiff,Nat.reduceAdd,Nat.reduceLeDiff,Nat.reduceLT,Nat.reduceSub]
   exact bad
 |
  some x =>
  rw[oQ] at hu
  cases Xq:nQ e with
  |
   none =>
   have bad:=bad (by unfold gX;rw[oQ,Xq];cases uL g<;>rfl) H2 (by omega)
   simp only[gL,List.getElem?_cons_zero,List.getElem?_cons_succ,f1,f2,Option.isSome_none,Option.isSome_some,gY,VX,Nat.reduceEqDiff,Nat.reduceAdd,Nat.reduceLeDiff,Nat.reduceLT,Nat.reduceSub]
   exact bad
  |
   some z' =>
   rw[Xq] at hz
   have hxl:=B8 oQ
   obtain⟨bu,gu,cu,u1,u2,rfl,u4,u5⟩:=hu
   obtain⟨bz,gz,cz,z1,z2,rfl,z4,z5⟩:=hz
   have lu:=eZ (o:=0) (n:=x.length) (c:=cu) (bT p2 u5)
   by_cases h6:(6:Int)<(x.length:Int)
   ·have bad:=bad (by unfold gX;rw[oQ,Xq];cases uL g<;>first | rfl | exact if_neg (by omega)) H2 (by omega)
    simp only[gL,List.getElem?_cons_zero,List.getElem?_cons_succ,f1,f2,h6,lu,Option.isSome_none,Option.isSome_some,gY,VX,Nat.reduceEqDiff,Nat.reduceAdd,Nat.reduceLeDiff,Nat.reduceLT,Nat.reduceSub]
    exact bad
   ·have Cu:gX b g e=match uL g with | some y=>some ⟨x,y,z'⟩ | none=>none:=by unfold gX;rw[oQ,Xq];cases uL g<;>first | rfl | exact if_pos (by omega)
    have s1:bY n 3 (.ptr H2.length 0 0 0) (.agg [.ref bu gu 0 x.length cu,.tree [] .nil,.ref bz gz 0 z'.length cz]) (H2++[bU.row 0 [.agg [.tree [] .nil,.tree [] .nil,.tree [] .nil]] 3 true])=some (H2++[bU.row 0 [.agg [.ref bu gu 0 x.length cu,.tree [] .nil,.ref bz gz 0 z'.length cz]] 3 true]):=by
     rw[dC (e:=3) (g:=0) (j:=0) dY (by exact Nat.zero_lt_one) hO2.len rfl rfl,xZ]
     rfl
    clear f1 f2
    simp only[gL,List.getElem?_cons_zero,List.getElem?_cons_succ,h6,lu,s1,Option.isSome_some,uO,gY,VX,Nat.reduceEqDiff,Nat.reduceAdd,Nat.reduceLeDiff,Nat.reduceLT,Nat.reduceSub]
    refine aR (fun(i:Nat) ρ H=>i≤g.length∧wB n H∧(∃v aY,aF H n 0=some ([.agg [.tree [] .nil,.tree [] .nil,.tree [] .nil]],3,true)∧aF H H2.length 0=some ([.agg [.ref bu gu 0 x.length cu,v,.ref bz gz 0 z'.length cz]],3,true)∧uL (g.take i)=some aY∧KA sV 1 aY (H2.length+1) H.length H v∧aF H bu gu=some (x.map sV,1,true)∧aF H bz gz=some (z'.map sV,1,true))∧ρ 2 = .ptr n 0 0 0∧ρ 8 = .ptr H2.length 0 0 0∧ρ 0=(MZ bS b g e).cY 0∧ρ 9=VI i) (fun i=>g.length-i) 0
     ⟨Nat.zero_le _,hO2.app (by simp[kY,dD];omega),⟨.tree [] .nil,[],fW Nl,dY,rfl,.inl ⟨rfl,rfl⟩,fW (bT p2 u5),fW z5⟩,rfl,rfl,rfl,rfl⟩ ?_
    rintro i ρ H ⟨hi,hO,⟨v,aY,BG,hr8,En,hv,hx,hz⟩,g2,g8,g0,g9⟩
    have hl8:=jJ hr8
    by_cases dK:(i:Int)<(g.length:Int)
    ·obtain⟨r,hr⟩:∃r,g[i]? = some r:=⟨_,List.getElem?_eq_getElem (by omega)⟩
     have R3:=hg.2 r (List.mem_of_getElem? hr)
     have a1:=fun H=>aK (f:=bK bS) (t := .op) (H:=H) (size:=1) (k := .i64) hr rfl
     have wi:IntKind.i64.wrap ((i:Int)+1)=((i+1:Nat):Int):=wrapN (i+1) (by omega) (by omega)
     simp only[rX,MZ,g2,g8,g0,g9,dK,a1,gL,List.getElem?_cons_zero,List.getElem?_cons_succ,Nat.zero_add,gY,VX,Nat.reduceEqDiff,Nat.reduceAdd,Nat.reduceLeDiff,Nat.reduceLT,Nat.reduceSub]
     refine qR (n:=n) (pH r R3.1 R3.2) rfl (Mm (aI (oR _))) hO J2.bM fun w H3 p3 hO3 _ hw => ?_
     have apC:=p3.length_le
     cases ht:nQ r with
     |
      none =>
      have hm:uL g=none:=mapM_none ht (List.mem_of_getElem? hr)
      have bad:=bad (by rw[Cu,hm]) H3 hO3.len
      obtain⟨f1,f2⟩:=fin H3 (.tree [] .nil) (.tree [] .nil) (.tree [] .nil) (bT p3 BG) rfl rfl rfl
      simp only[g2,f1,f2,Option.isSome_none,gY,VX,Nat.reduceEqDiff,Nat.reduceAdd,Nat.reduceLeDiff,Nat.reduceLT,Nat.reduceSub]
      exact bad
     |
      some ys =>
      rw[ht] at hw
      obtain⟨b2,g2',c2,k1,k2,rfl,k3,k4⟩:=hw
      have eL:∀K,jM false [.slice none 0 0] 1 [(0,.ref b2 g2' 0 ys.length c2)] K=some (.tree [.ref b2 g2' 0 ys.length c2] (.cl 1),K):=fun K=>eW rfl rfl rfl
      have eS:∀K,cM 1 (.tree [.ref b2 g2' 0 ys.length c2] (.cl 1)) K=some [.ref b2 g2' 0 ys.length c2]:=fun K=>eG rfl rfl
      obtain⟨v',H4,ap,Vc,bM,hlen,Qb,wD,_⟩:=(hv.bM (cP.pre p3)).snoc (iZ:=n) (by omega) (by rw[mB En,List.length_take];omega) ⟨b2,g2',c2,ys⟩ k1 (by simp only;omega) k3 k4
      have aeC:=bT p3 hr8
      have abR:=bM _ _ _ (by omega) aeC
      have l1:cO false 1 (.ptr H2.length 0 0 1) H3=some v:=by
       rw[cH,aeC]
       rfl
      have sE:=Vc.fD
      have s2:bY n 1 (.ptr H2.length 0 0 1) v' H4=some (H4.set H2.length (.row 0 [.agg [.ref bu gu 0 x.length cu,v',.ref bz gz 0 z'.length cz]] 3 true)):=by
       have:=WW (lo:=n) (c:=v') 1 abR (by omega) sE.2.1 sE.1 (by decide)
       exact this
      have hO5:=(Qb n (by omega) hO3).set (b:=H2.length) (g:=0) (e:=3) (es:=[.agg [.ref bu gu 0 x.length cu,v',.ref bz gz 0 z'.length cz]]) (w:=true) (by omega) (by
       have:=Vc.own (n:=n) (by omega)
       simp[kY,dD,this];omega)
      have kp:∀ {b' g' y},b'<H2.length→aF H b' g'=some y→aF (H4.set H2.length (.row 0 [.agg [.ref bu gu 0 x.length cu,v',.ref bz gz 0 z'.length cz]] 3 true)) b' g'=some y:=fun oQ h=>aM (by omega) (bM _ _ _ (by omega) (bT p3 h))
      simp only[g8,eL,eS,l1,ap,s2,aeC,abR,jI,Nat.zero_add,wi,g9,Option.isSome_some,gY,VX,Nat.reduceEqDiff,Nat.reduceAdd,Nat.reduceLeDiff,Nat.reduceLT,Nat.reduceSub]
      refine⟨i+1,by omega,by omega,hO5,⟨v',aY++[ys],kp (by omega) BG,dA abR,?_,?_,kp (by omega) hx,kp (by omega) hz⟩,by (repeat' apply And.intro)<;>first | rfl | trivial | assumption⟩
      ·rw[nD hr]
       exact Co En ht
      ·rw[List.length_set]
       exact Vc.bM (cP.set (by omega))
    ·have qG:i=g.length:=by omega
     subst qG
     rw[List.take_length] at En
     have abN:uL g=some aY:=En
     rw[Cu,abN]
     have sE:=hv.fD
     have l1:cO true 3 (.ptr H2.length 0 0 0) H=some (.agg [.ref bu gu 0 x.length cu,v,.ref bz gz 0 z'.length cz]):=by
      rw[cH,hr8]
      rfl
     obtain⟨f1,f2⟩:=fin H (.ref bu gu 0 x.length cu) v (.ref bz gz 0 z'.length cz) BG rfl sE.1 rfl
     simp only[rX,MZ,g0,g2,g8,g9,dK,l1,f1,f2,gL,List.getElem?_cons_zero,List.getElem?_cons_succ,Nat.zero_add,Option.isSome_some,gY,VX,Nat.reduceEqDiff,Nat.reduceAdd,Nat.reduceLeDiff,Nat.reduceLT,Nat.reduceSub]
     have hov:=hv.own (n:=n) (by omega)
     obtain⟨L,X3,hL2⟩:=hO.set (b:=n) (g:=0) (e:=3) (es:=[.agg [.ref bu gu 0 x.length cu,v,.ref bz gz 0 z'.length cz]]) (w:=true) (Nat.le_refl _) (by simp[kY,dD,hov];omega)
     have hlen:n+L.length=H.length:=by
      have:=congrArg List.length X3
      rw[List.length_set,List.length_append,List.length_replicate] at this
      exact this.symm
     refine⟨L,⟨by rw[X3],fun _ _ _ _ _ h=>by rw[X3];exact h⟩,by simp[dD,kY,hov,jR];omega,hL2,_,rfl,⟨_,_,_,rfl,rfl,sE.1,rfl,fun k hk=>⟨by simp[dD];omega,hv.own (by omega),by simp[dD];omega⟩⟩,fun K hk => ?_⟩
     rw[←X3,hlen] at hk
     have Ve:cP (n+1) H.length H K:=fun b' g' y h1 h2 h3=>hk b' g' y (by omega) h2 (aM (by omega) h3)
     exact Qc (s:=⟨x,aY,z'⟩) (l1:=n+1) (h1:=H.length) (l2:=H2.length+1) (h2:=H.length) (l3:=n+1) (h3:=H.length) (.inr ⟨bu,gu,cu,by omega,by omega,rfl,u4,Ve _ _ _ (by omega) (by omega) hx⟩) ((hv.rg).bM (Ve.sub (by omega) (Nat.le_refl _))) (.inr ⟨bz,gz,cz,by omega,by omega,rfl,z4,Ve _ _ _ (by omega) (by omega) hz⟩)
end Go.PM
namespace Go.PM
open Go.Lib
theorem Ws {H:aA} {b1 g1 c1 b2 g2 c2 b3 g3 c3 lo hi:Nat} {xs zs:List Rat} {rs:List (wA Rat)} {w1 w3:Bool} (h1:aF H b1 g1=some (xs.map bS,3,w1)) (T4:xs.length≤c1) (h2:MG bS 3 lo hi b2 g2 H rs) (PQ:rs.length≤c2) (h3:aF H b3 g3=some (zs.map bS,3,w3)) (Zy:zs.length≤c3) :
  PM.fz 7 H (.agg [.ref b1 g1 0 xs.length c1,.ref b2 g2 0 rs.length c2,.ref b3 g3 0 zs.length c3])=some (MZ bS xs (rs.map (·.xs)) zs):=by
 refine HG (d:=5) ?_
 rw[List.mapM_cons,B9 (d:=4) qZ h1 T4]
 rw[List.mapM_cons,h2.fz (d:=3) PQ qZ]
 rw[List.mapM_cons,B9 (d:=4) qZ h3 Zy]
 rfl
set_option maxHeartbeats 4000000 in
theorem EN (xs:List ByteArray) (hn:xs.length≤1000000000) (hs:∀s∈xs,s.size≤1000000000):FC 48 [jX xs] (M4 (JP ((kE xs).getD nH)) (kE xs).isSome):=by
 refine FC.D6 ⟨true,false⟩ E8 (Nat.le_of_ble_eq_true rfl) fun n => ?_
 have e1:=G8 xs hn hs
 obtain⟨adF,M6⟩:=XT xs
 cases Am:zR (uC xs) with
 |
  false =>
  rw[Am] at e1
  have Cu:kE xs=none:=by
   unfold kE
   cases h:F1 xs with
   | none=>rfl
   | some qs=>exact if_neg (M6 Am qs h)
  have f1:bY n 3 (.ptr n 0 0 0) (.agg [.tree [] .nil,.tree [] .nil,.tree [] .nil]) (List.replicate n bU.dead++[RU])=some (List.replicate n bU.dead++[RU]):=by
   rw[dC Ch (by exact Nat.zero_lt_one) (Nat.le_refl _) rfl rfl,A7]
   rfl
  have f2:cO true 3 (.ptr n 0 0 0) (List.replicate n bU.dead++[RU])=some (.agg [.tree [] .nil,.tree [] .nil,.tree [] .nil]):=by
   rw[cH,Ch]
   rfl
  rw[Cu]
  simp only[sG,pT,e1,f1,f2,AP,List.length_replicate,gY,VX,Nat.reduceEqDiff,Nat.reduceAdd,Nat.reduceLeDiff,Nat.reduceLT,Nat.reduceSub]
  exact⟨_,uA (by simp),rfl,uN,_,rfl,Ni⟩
 |
  true =>
  rw[Am] at e1
  obtain⟨qs,PN,iU,CY,hl6⟩:=adF Am
  rw[PN] at e1
  simp only[Hw] at e1
  obtain⟨_,hq⟩:=Fu iU
  have Cu:kE xs=gX (Ix qs.length) (JJ qs (qs.length-1)) (Hs qs):=by unfold kE;rw[iU];exact if_pos ⟨CY,hl6⟩
  rw[Cu]
  simp only[sG,pT,e1,AP,List.length_replicate,gY,VX,Nat.reduceEqDiff,Nat.reduceAdd,Nat.reduceLeDiff,Nat.reduceLT,Nat.reduceSub]
  generalize PU:List.replicate n bU.dead++[bU.row 0 [.agg [.tree [] .nil,.tree [] .nil,.tree [] .nil]] 3 true]=H0
  have ajY:aF H0 n 0=some ([.agg [.tree [] .nil,.tree [] .nil,.tree [] .nil]],3,true):=by rw[←PU,tC,aT]
  have wX:H0.length=n+1:=by rw[←PU];simp
  refine zN rfl (Db (H:=H0) qs.length (by omega) (by omega)) fun r1 L1 hB => ?_
  obtain⟨bB,gB,cB,B1,B2,rfl,B3,B4⟩:=hB
  have agS:=fW (L:=L1) ajY
  have avM:n+1≤(H0++L1).length:=by rw[List.length_append];omega
  generalize H0++L1=H1 at *
  simp only[gY,VX,Nat.reduceEqDiff,Nat.reduceAdd,Nat.reduceLeDiff,Nat.reduceLT,Nat.reduceSub]
  refine zN rfl (Hk (H:=H1) qs.length (by omega) (by omega)) fun r2 L2 hZ => ?_
  obtain⟨b,g,c,rs,rfl,hc,hM,Ha⟩:=hZ
  rw[List.length_replicate] at hc ⊢
  have yS:rs.length=qs.length:=by have:=congrArg List.length Ha;simpa using this
  have Nl:=fW (L:=L2) agS
  have B5:=fW (L:=L2) B4
  have Eo:H1.length≤(H1++L2).length:=by rw[List.length_append];omega
  generalize H1++L2=H2 at *
  simp only[gY,VX,Nat.reduceEqDiff,Nat.reduceAdd,Nat.reduceLeDiff,Nat.reduceLT,Nat.reduceSub]
  refine zN rfl (Db (H:=H2) qs.length (by omega) (by omega)) fun r3 L3 hE => ?_
  obtain⟨bE,gE,cE,E1,E2,rfl,E3,E4⟩:=hE
  rw[List.length_replicate] at B3 E3 ⊢
  have hM3:=hM.pre (H':=H2++L3) (List.prefix_append _ _)
  have OO:=fW (L:=L3) Nl
  have B6:=fW (L:=L3) B5
  have hl3:H2.length≤(H2++L3).length:=by rw[List.length_append];omega
  have hlM:=hM.bhi
  generalize H2++L3=H3 at *
  have s1:bY n 3 (.ptr H3.length 0 0 0) (.agg [.ref bB gB 0 qs.length cB,.ref b g 0 qs.length c,.ref bE gE 0 qs.length cE]) (H3++[bU.row 0 [.agg [.tree [] .nil,.tree [] .nil,.tree [] .nil]] 3 true])=some (H3++[bU.row 0 [.agg [.ref bB gB 0 qs.length cB,.ref b g 0 qs.length c,.ref bE gE 0 qs.length cE]] 3 true]):=by
   rw[dC (e:=3) (g:=0) (j:=0) dY (by exact Nat.zero_lt_one) (by omega) rfl rfl,xZ]
   rfl
  have YN:=List.prefix_append H3 [.row 0 [.agg [.ref bB gB 0 qs.length cB,.ref b g 0 qs.length c,.ref bE gE 0 qs.length cE]] 3 true]
  have hM4:=hM3.pre YN
  have JX:=bT YN B6
  have Xf:=bT YN OO
  have Xg:=bT YN E4
  have JO:aF (H3++[bU.row 0 [.agg [.ref bB gB 0 qs.length cB,.ref b g 0 qs.length c,.ref bE gE 0 qs.length cE]] 3 true]) H3.length 0=some ([.agg [.ref bB gB 0 qs.length cB,.ref b g 0 qs.length c,.ref bE gE 0 qs.length cE]],3,true):=dY
  simp only[List.length_replicate,s1,gY,VX,Nat.reduceEqDiff,Nat.reduceAdd,Nat.reduceLeDiff,Nat.reduceLT,Nat.reduceSub]
  generalize H3++[.row 0 [.agg [.ref bB gB 0 qs.length cB,.ref b g 0 qs.length c,.ref bE gE 0 qs.length cE]] 3 true]=H4 at *
  obtain⟨m,hm⟩:∃m,qs.length=m+1:=⟨qs.length-1,by omega⟩
  have w1:IntKind.i64.wrap ((qs.length:Int)-1)=((m:Nat):Int):=wrapN m (by omega) (by omega)
  obtain⟨ql,hql⟩:∃q,qs[m]? = some q:=⟨_,List.getElem?_eq_getElem (by omega)⟩
  have a1:=fun H=>aK (f:=bS) (t := .op) (H:=H) (size:=3) (k := .i64) hql rfl
  have e2:=J7
  have d70:cO false 1 (.ptr H3.length 0 0 0) H4=some (.ref bB gB 0 qs.length cB):=by
   rw[cH,JO]
   rfl
  have a2:bI 3 (.ref bB gB 0 qs.length cB) (VI 0) H4=some (.ptr bB gB 0 0):=by
   have:=aQ (o:=0) (n:=qs.length) (c:=cB) (i:=0) (k := .i64) JX (by omega)
   simpa using this
  have s2:=dO (lo:=n) (f:=bS) (x:=1) (j:=0) JX (by simp;omega) (by omega) rfl rfl
  have Mq:=aM (x := .row gB (((List.replicate qs.length (0:Rat)).set 0 1).map bS) 3 true) (b':=bB) (by omega) Xg
  have P5:=aM (x := .row gB (((List.replicate qs.length (0:Rat)).set 0 1).map bS) 3 true) (b':=bB) (by omega) JO
  have d72:cO false 1 (.ptr H3.length 0 0 2) (H4.set bB (.row gB (((List.replicate qs.length (0:Rat)).set 0 1).map bS) 3 true))=some (.ref bE gE 0 qs.length cE):=by
   rw[cH,P5]
   rfl
  have a3:bI 3 (.ref bE gE 0 qs.length cE) (VI m) (H4.set bB (.row gB (((List.replicate qs.length (0:Rat)).set 0 1).map bS) 3 true))=some (.ptr bE gE m 0):=by
   have:=aQ (o:=0) (n:=qs.length) (c:=cE) (i:=m) (k := .i64) Mq (by omega)
   rwa [Nat.zero_add] at this
  have s3:=dO (lo:=n) (f:=bS) (x:=ql) (j:=m) Mq (by simp;omega) (by omega) rfl rfl
  have afK:=jJ JO
  simp only[w1,a1,a2,a3,e2,s2,s3,d70,d72,JO,P5,nX,jI,Nat.zero_add,gY,VX,Nat.reduceEqDiff,Nat.reduceAdd,Nat.reduceLeDiff,Nat.reduceLT,Nat.reduceSub]
  have hM5:=(hM4.bM (cP.set (x := .row gB (((List.replicate qs.length (0:Rat)).set 0 1).map bS) 3 true) (b:=bB) (.inl (by omega)))).bM (cP.set (x := .row gE (((List.replicate qs.length (0:Rat)).set m ql).map bS) 3 true) (b:=bE) (.inr (by omega)))
  have Yl:=aM (x := .row gE (((List.replicate qs.length (0:Rat)).set m ql).map bS) 3 true) (b':=bE) (by omega) (dA (g:=gB) (e:=3) (w:=true) (es:=((List.replicate qs.length (0:Rat)).set 0 1).map bS) JX)
  have Wz:=dA (g:=gE) (e:=3) (w:=true) (es:=((List.replicate qs.length (0:Rat)).set m ql).map bS) Mq
  have agQ:=aM (x := .row gE (((List.replicate qs.length (0:Rat)).set m ql).map bS) 3 true) (b':=bE) (by omega) P5
  have Qh:=aM (x := .row gE (((List.replicate qs.length (0:Rat)).set m ql).map bS) 3 true) (b':=bE) (by omega) (aM (x := .row gB (((List.replicate qs.length (0:Rat)).set 0 1).map bS) 3 true) (b':=bB) (by omega) Xf)
  generalize (H4.set bB (.row gB (((List.replicate qs.length (0:Rat)).set 0 1).map bS) 3 true)).set bE (.row gE (((List.replicate qs.length (0:Rat)).set m ql).map bS) 3 true)=H5 at *
  have acV:JJ qs 0=List.replicate qs.length (List.replicate qs.length 0):=by
   rw[KX,JJ]
   exact Fj fun a b _ _=>if_neg (fun h=>by omega)
  refine aR (fun(i:Nat) ρ H=>i≤m∧n≤H.length∧(∃rs,rs.length=qs.length∧rs.map (·.xs)=JJ qs i∧MG bS 3 H1.length H2.length b g H rs)∧aF H n 0=some ([.agg [.tree [] .nil,.tree [] .nil,.tree [] .nil]],3,true)∧aF H bB gB=some (((List.replicate qs.length (0:Rat)).set 0 1).map bS,3,true)∧aF H bE gE=some (((List.replicate qs.length (0:Rat)).set m ql).map bS,3,true) ∧
    aF H H3.length 0=some ([.agg [.ref bB gB 0 qs.length cB,.ref b g 0 qs.length c,.ref bE gE 0 qs.length cE]],3,true)∧ρ 2 = .ptr n 0 0 0∧ρ 4=bK bS qs∧ρ 6=VI qs.length∧ρ 7 = .ptr H3.length 0 0 0∧ρ 8=VI i) (fun i=>m-i) 0
   ⟨Nat.zero_le _,by have:=jJ Qh;omega,⟨rs,yS,by rw[Ha,acV],hM5⟩,Qh,Yl,Wz,agQ,rfl,rfl,rfl,rfl,rfl⟩ ?_
  clear hM hM3 hM4 hM5 JX Yl Xg Mq Wz ajY agS Nl OO Xf Qh JO P5 agQ s1 s2 s3 a2 a3 d70 d72 Ha rs yS afK B4 B5 B6 E4
  rintro i ρ H ⟨hi,Vk,⟨rs,yS,Ha,hM⟩,BG,hrB,hrE,JO,g2,g4,g6,g7,g8⟩
  have d71:cO false 1 (.ptr H3.length 0 0 1) H=some (.ref b g 0 qs.length c):=by
   rw[cH,JO]
   rfl
  have wi:IntKind.i64.wrap ((i:Int)+1)=((i+1:Nat):Int):=wrapN (i+1) (by omega) (by omega)
  by_cases dK:((i+1:Nat):Int)<(qs.length:Int)
  ·obtain⟨q,OR⟩:∃q,qs[i]? = some q:=⟨_,List.getElem?_eq_getElem (by omega)⟩
   have a4:=fun H=>aK (f:=bS) (t := .op) (H:=H) (size:=3) (k := .i64) OR rfl
   obtain⟨r,Es⟩:∃r,rs[i]? = some r:=⟨_,List.getElem?_eq_getElem (by omega)⟩
   have DM:r.xs=vec qs.length fun b=>if i<i∧b=i+1 then qs.getD i 0 else 0:=by
    have h1:(rs.map (·.xs))[i]? = some r.xs:=by rw[List.getElem?_map,Es];rfl
    rw[Ha,JJ,Sx (by omega)] at h1
    exact(Option.some.inj h1).symm
   have hxl:r.xs.length=qs.length:=by rw[DM,zQ]
   have m1:=hM.addr (n:=qs.length) (c:=c) (i:=i) (by omega)
   have m2:=hM.cell Es
   have m3:=hM.at (n:=r.xs.length) (c:=r.c) (j:=i+1) Es (by omega)
   have m4:=hM.put (j:=i+1) (y:=q) (iZ:=n) Es (by omega) (by omega) rfl rfl
   have m5:=hM.set (ys:=r.xs.set (i+1) q) Es (by simp)
   have VH:=hM.lt Es
   simp only[oM,g4,g6,g7,g8,dK,a4,d71,m1,m2,m3,m4,wi,JO,nX,jI,Nat.zero_add,gY,VX,Nat.reduceEqDiff,Nat.reduceAdd,Nat.reduceLeDiff,Nat.reduceLT,Nat.reduceSub]
   refine⟨i+1,by omega,by omega,by rw[List.length_set];exact Vk,⟨_,by rw[List.length_set];exact yS,?_,m5⟩,aM (by omega) BG,aM (by omega) hrB,aM (by omega) hrE,aM (by omega) JO,by (repeat' apply And.intro)<;>first | rfl | trivial | assumption⟩
   rw[List.map_set,Ha]
   have hqd:qs.getD i 0=q:=by rw[List.getD_eq_getElem?_getD,OR];rfl
   have:=Nz (qs:=qs) (i:=i)
   rw[←DM,hqd] at this
   exact this
  ·have qG:i=m:=by omega
   subst qG
   have hf:=Ws (c1:=cB) (c2:=c) (c3:=cE) hrB (by simp;omega) hM (by omega) hrE (by simp;omega)
   rw[List.length_set,List.length_set,List.length_replicate,yS,Ha] at hf
   have hfp:=adV (o:=0) (j:=0) JO rfl hf
   have afC:qs.getD (qs.length-1) 0=ql:=by rw[List.getD_eq_getElem?_getD,hm,Nat.add_sub_cancel,hql];rfl
   have hE:Hs qs=(List.replicate qs.length (0:Rat)).set i ql:=by unfold Hs;rw[afC,hm,Nat.add_sub_cancel]
   have hB1:∀q∈qs,fK q≤665:=fun q h=>(hq q h).1
   have hto:=Jw (Ix qs.length) (JJ qs i) (Hs qs) ⟨by rw[Ix,List.length_set,List.length_replicate];omega,fun q h=>by have:=DR (B:=665) (zW (by decide)) (by rw[Lp];decide) q h;omega⟩
    ⟨by rw[JJ,MJ];omega,fun r hr=>by
     obtain⟨h1,h2⟩:=Ou hB1 (by decide) r hr
     exact⟨by omega,fun q h=>by have:=h2 q h;omega⟩⟩ ⟨by rw[Hs,List.length_set,List.length_replicate];omega,fun q h=>by have:=DR (B:=665) (zW (by decide)) (Fk hB1 (by decide) _) q h;omega⟩
   have him:i=qs.length-1:=by omega
   rw[hE] at hto ⊢
   rw[←him]
   simp only[oM,g6,g7,g8,dK,wi,gY,VX,Nat.reduceEqDiff,Nat.reduceAdd,Nat.reduceLeDiff,Nat.reduceLT,Nat.reduceSub]
   refine I4 (P:=JP ((gX (Ix qs.length) (JJ qs i) ((List.replicate qs.length (0:Rat)).set i ql)).getD nH)) JP.bM JP.wide (fun h n hn=>h.ag n hn) hto rfl (Mm hfp) BG (Nat.le_refl _) fun v H2 H3 s1 s2 s3 => ?_
   simp only[g2,s1,s2,gY,VX,Nat.reduceEqDiff,Nat.reduceAdd,Nat.reduceLeDiff,Nat.reduceLT,Nat.reduceSub]
   exact s3
theorem DV (x:ByteArray) (hx:x.size≤1000000000):FC 20 [sV x] (M4 (JP ((kE [x]).getD nH)) (kE [x]).isSome):=by
 refine FC.D6 ⟨true,false⟩ EL (Nat.le_of_ble_eq_true rfl) fun n => ?_
 have eL:∀H,jM false [.string ⟨#[]⟩] 1 [(0,sV x)] H=some (.tree [sV x] (.cl 1),H):=fun H=>eW rfl rfl rfl
 simp only[Ap,wQ,eL,AP,List.length_replicate,gY,VX,Nat.reduceEqDiff,Nat.reduceAdd,Nat.reduceLeDiff,Nat.reduceLT,Nat.reduceSub]
 refine I4 (P:=JP ((kE [x]).getD nH)) JP.bM JP.wide (fun h n hn=>h.ag n hn) (EN [x] (by simp) (fun s hs=>by rw[List.mem_singleton] at hs;subst hs;exact hx)) rfl (Mm Ps) Ch (Nat.le_refl _) fun v H2 H3 s1 s2 s3 => ?_
 simp only[s1,s2,gY,VX,Nat.reduceEqDiff,Nat.reduceAdd,Nat.reduceLeDiff,Nat.reduceLT,Nat.reduceSub]
 exact s3
end Go.PM