/- Texts of a claim, in one: part 13. -/
import Derived.KernelRfl
import Derived.Test.YtjmflicajplclaaGreatDoorKYl
set_option linter.unusedSimpArgs false
set_option linter.unusedVariables false
namespace Go.PM
open Go.Lib
def iE (c:UInt8):List UInt8→List (List UInt8)
 | []=>[[]]
 |
  x::r=>if x=c then []::iE c r else match iE c r with
  | []=>[[x]]
  | a::t=>(x::a)::t
theorem Ls {c:UInt8} {r:List UInt8}:∀ {a:List UInt8},c∉a→iE c (a++c::r)=a::iE c r:=by
 intro a
 induction a with
 | nil=>intro _;rw[List.nil_append,iE,if_pos rfl]
 |
  cons x a ih =>
  intro h
  rw[List.mem_cons,not_or] at h
  rw[List.cons_append,iE,if_neg (fun he=>h.1 he.symm),ih h.2]
theorem Gz {c:UInt8}:∀ {a:List UInt8},c∉a→iE c a=[a]:=by
 intro a
 induction a with
 | nil=>intro _;rfl
 |
  cons x a ih =>
  intro h
  rw[List.mem_cons,not_or] at h
  rw[iE,if_neg (fun he=>h.1 he.symm),ih h.2]
theorem Ww {c:UInt8} (l:List UInt8):iE c l≠[]:=by
 cases l with
 | nil=>simp[iE]
 |
  cons x r =>
  rw[iE]
  split
  ·simp
  ·split<;>simp
theorem Se {c:UInt8} {l:List UInt8} (h:(mC c l).2=none):iE c l=[l]:=Gz (BK h).2.2
theorem Kf {c:UInt8} {l r:List UInt8} (h:(mC c l).2=some r):iE c l=(mC c l).1::iE c r:=by
 obtain⟨_,h2,h3⟩:=Ik h
 have:=Ls (r:=r) h3
 rw[←h2] at this
 exact this
theorem SA {c:UInt8} {l:List UInt8} (h:c∈l):2≤(iE c l).length:=by
 cases hc:(mC c l).2 with
 | none=>exact absurd h (BK hc).2.2
 |
  some r =>
  rw[Kf hc,List.length_cons]
  have:=List.length_pos_iff.2 (Ww (c:=c) r)
  omega
theorem ZN {l:List UInt8} {i:Nat} (h:i<l.length):(l.take (i+1)).all iN=((l.take i).all iN&&iN (l.getD i 0)):=by
 rw[List.take_add_one,List.all_append]
 have:l[i]? = some (l.getD i 0):=by rw[List.getElem?_eq_getElem h,List.getD_eq_getElem?_getD,List.getElem?_eq_getElem h];rfl
 rw[this]
 simp
set_option maxHeartbeats 1000000 in
theorem qC (l:List UInt8) (hl:l.length≤1000000000000):TC 168 [bC l] (VB (iI l)):=by
 refine TC.walk ⟨true,false⟩ Ir rfl (Nat.le_of_ble_eq_true rfl) rfl rfl ?_
 simp only[Eb,Bq,VX,Nat.reduceEqDiff,Nat.reduceAdd]
 refine aU (fun(i:Nat) ρ H=>i≤l.length∧H=[]∧(l.take i).all iN=true∧ρ 0=bC l∧ρ 3=VI i) (fun i=>l.length-i) 0 ⟨Nat.zero_le _,rfl,rfl,rfl,rfl⟩ ?_
 rintro i ρ H ⟨hi,rfl,hd,g0,g3⟩
 by_cases cS:(i:Int)<(l.length:Int)
 ·have Wj:i<l.length:=by omega
  have e1:=Ds l Wj
  have wi:IntKind.i64.wrap ((i:Int)+1)=((i+1:Nat):Int):=wrapN (i+1) (by omega) (by omega)
  have ht:=ZN Wj
  rw[hd,Bool.true_and] at ht
  have V7:iN (l.getD i 0)=(decide (48≤(l.getD i 0).toNat)&&decide ((l.getD i 0).toNat≤57)):=rfl
  have kQ:iN (l.getD i 0)=false→iI l=false:=by
   intro h
   rw[h] at ht
   have:l.all iN=false:=by rw[←List.take_append_drop (i+1) l,List.all_append,ht,Bool.false_and]
   unfold iI
   rw[this]
   rfl
  generalize (l.getD i 0).toNat=c at *
  by_cases q1:(c:Int)<48
  ·rw[kQ (by rw[V7,decide_eq_false (by omega)];rfl)]
   simp only[dT,g0,g3,bU,cS,e1,q1,VX,Nat.reduceEqDiff,Nat.reduceAdd]
   exact aL rfl
  ·by_cases q2:(57:Int)<(c:Int)
   ·rw[kQ (by rw[V7,decide_eq_false (show ¬c≤57 by omega),Bool.and_false])]
    simp only[dT,g0,g3,bU,cS,e1,q1,q2,VX,Nat.reduceEqDiff,Nat.reduceAdd]
    exact aL rfl
   ·rw[V7,decide_eq_true (by omega),decide_eq_true (by omega),Bool.and_self] at ht
    simp only[dT,g0,g3,bU,cS,e1,q1,q2,wi,VX,Nat.reduceEqDiff,Nat.reduceAdd]
    exact⟨i+1,by omega,by omega,ht,rfl⟩
 ·have mT:i=l.length:=by omega
  subst mT
  rw[List.take_length] at hd
  by_cases h1:(1:Int)≤(l.length:Int)
  ·by_cases h2:(l.length:Int)≤200
   ·by_cases h3:(l.length:Int)=1
    ·rw[jY.2 ⟨hd,by omega,by omega,.inl (by omega)⟩]
     simp only[dT,g0,g3,bU,cS,ge_iff_le,h1,h2,h3,Int.reduceLE,Int.reduceLT,VX,Nat.reduceEqDiff,Nat.reduceAdd]
     exact aL rfl
    ·have e1:=Jv l (by omega)
     by_cases h4:(((l.getD 0 0).toNat:Int)=48)
     ·have hk:iI l=false:=by
       cases h:iI l with
       | false=>rfl
       |
        true =>
        rcases(jY.1 h).2.2.2 with h5 | h5
        ·omega
        ·exact absurd (UInt8.toNat_inj.1 (by rw[show (48:UInt8).toNat=48 from rfl];omega)) h5
      rw[hk]
      simp only[dT,g0,g3,bU,cS,ge_iff_le,h1,h2,h3,h4,e1,VX,Nat.reduceEqDiff,Nat.reduceAdd]
      exact aL rfl
     ·have h5:l.getD 0 0≠48:=fun h=>h4 (by rw[h];rfl)
      rw[jY.2 ⟨hd,by omega,by omega,.inr h5⟩]
      simp only[dT,g0,g3,bU,cS,ge_iff_le,h1,h2,h3,h4,e1,VX,Nat.reduceEqDiff,Nat.reduceAdd]
      exact aL rfl
   ·have hk:iI l=false:=by
     cases h:iI l with
     | false=>rfl
     | true=>have:=(jY.1 h).2.2.1;omega
    rw[hk]
    simp only[dT,g0,g3,bU,cS,ge_iff_le,h1,h2,VX,Nat.reduceEqDiff,Nat.reduceAdd]
    exact aL rfl
  ·have hk:iI l=false:=by
    cases h:iI l with
    | false=>rfl
    | true=>have:=(jY.1 h).2.1;omega
   rw[hk]
   simp only[dT,g0,g3,bU,cS,ge_iff_le,h1,VX,Nat.reduceEqDiff,Nat.reduceAdd]
   exact aL rfl
set_option maxHeartbeats 1000000 in
theorem FP (l:List UInt8) (c:UInt8) (hl:l.length≤1000000000000):TC 167 [bC l,.sc (.int .u8 (c.toNat:Int))] (aK bC (iE c l)):=by
 refine TC.walk ⟨true,false⟩ Of rfl (Nat.le_of_ble_eq_true rfl) rfl (Bl (size:=1) (fun _=>rfl) (fun _=>rfl) fun _=>rfl) ?_
 have e3:∀lr,lG lr [.string ⟨#[]⟩] 0 [] []=some (.ref 0 0 0 0 0,[.row 0 (([]:List (List UInt8)).map bC) 1 true]):=fun lr=>jH (H:=[]) (lr:=lr) (z:=[.string ⟨#[]⟩]) rfl
 have e4:∀(x:List UInt8) (H:aA),lG false [.string ⟨#[]⟩] 1 [(0,bC x)] H=some (.tree [bC x] (.cl 1),H):=fun x H=>gW (z:=[.string ⟨#[]⟩]) rfl rfl rfl
 have e5:∀(x:List UInt8) (H:aA),cW 1 (.tree [bC x] (.cl 1)) H=some [bC x]:=fun x H=>dZ rfl rfl
 simp only[Kg,FL,e3,VX,Nat.reduceEqDiff,Nat.reduceAdd]
 refine aU (fun(s:List (List UInt8)×Nat×Nat) ρ H=>H=[.row s.1.length (s.1.map bC) 1 true]∧s.2.1≤s.2.2∧s.2.2≤l.length+1∧s.1.length≤s.2.1 ∧
  ((s.2.2≤l.length∧iE c l=s.1++iE c (l.drop s.2.1)∧c∉(l.drop s.2.1).take (s.2.2-s.2.1))∨(s.2.2=l.length+1∧iE c l=s.1)) ∧
  ρ 0=bC l∧ρ 1 = .sc (.int .u8 (c.toNat:Int))∧ρ 5 = .ref 0 s.1.length 0 s.1.length s.1.length∧ρ 6=VI s.2.1∧ρ 7=VI s.2.2) (fun s=>l.length+1-s.2.2) ([],0,0) ⟨rfl,Nat.zero_le _,Nat.zero_le _,Nat.zero_le _,.inl ⟨Nat.zero_le _,rfl,by simp⟩,rfl,rfl,rfl,rfl,rfl⟩ ?_
 rintro⟨out,fr,i⟩ ρ H ⟨rfl,hfi,hi,jK,C2,g0,g1,g5,g6,g7⟩
 simp only at hfi hi jK C2 g5 g6 g7
 by_cases cS:(i:Int)≤(l.length:Int)
 ·have Wj:i≤l.length:=by omega
  obtain⟨hp,hc⟩:iE c l=out++iE c (l.drop fr)∧c∉(l.drop fr).take (i-fr):=by
   rcases C2 with⟨_,h1,h2⟩ | ⟨h,_⟩
   ·exact⟨h1,h2⟩
   ·omega
  have wi:IntKind.i64.wrap ((i:Int)+1)=((i+1:Nat):Int):=wrapN (i+1) (by omega) (by omega)
  have e2:=aaC l hfi Wj
  have eP:=gS (f:=bC) (xs:=out) (x:=(l.drop fr).take (i-fr)) (lo:=0) (b:=0) (g:=out.length) (n:=out.length) (e:=1) (bytes:=16) (H:=[.row out.length (out.map bC) 1 true]) aQ rfl (Nat.zero_le _) (by decide) (by decide) (by omega)
  have I9:([.row out.length (out.map bC) 1 true]:aA).set 0 (.row (out.length+1) ((out++[(l.drop fr).take (i-fr)]).map bC) 1 true)=[.row (out.length+1) ((out++[(l.drop fr).take (i-fr)]).map bC) 1 true]:=rfl
  rw[I9] at eP
  by_cases q1:i=l.length
  ·subst q1
   have abN:iE c l=out++[(l.drop fr).take (l.length-fr)]:=by
    rw[hp]
    have:(l.drop fr).take (l.length-fr)=l.drop fr:=List.take_of_length_le (by rw[List.length_drop];omega)
    rw[this] at hc ⊢
    rw[Gz hc]
   simp only[pB,g0,g1,g5,g6,g7,bU,cS,eq_self,e2,e4,e5,eP,wi,VX,Nat.reduceEqDiff,Nat.reduceAdd]
   refine⟨(out++[(l.drop fr).take (l.length-fr)],l.length+1,l.length+1),by simp only;omega,?_,by simp only;omega,by simp only;omega,?_,.inr ⟨rfl,abN⟩,?_⟩
   ·simp
   ·simp only[List.length_append,List.length_cons,List.length_nil];omega
   ·simp
  ·have akI:i<l.length:=by omega
   have q1':¬(i:Int)=(l.length:Int):=by omega
   have e1:=Ds l akI
   have hgd:l.drop i=l.getD i 0::l.drop (i+1):=by rw[List.drop_eq_getElem_cons akI,List.getD_eq_getElem?_getD,List.getElem?_eq_getElem akI];rfl
   by_cases q2:l.getD i 0=c
   ·have q2':((l.getD i 0).toNat:Int)=(c.toNat:Int):=by rw[q2]
    have abN:iE c l=(out++[(l.drop fr).take (i-fr)])++iE c (l.drop (i+1)):=by
     have Sn:l.drop fr=(l.drop fr).take (i-fr)++c::l.drop (i+1):=by
      have h1:(l.drop fr).drop (i-fr)=l.drop i:=by rw[List.drop_drop];congr 1;omega
      conv=>lhs;rw[←List.take_append_drop (i-fr) (l.drop fr),h1,hgd,q2]
     rw[hp]
     conv=>lhs;rw[Sn]
     rw[Ls hc,List.append_assoc]
     rfl
    simp only[pB,g0,g1,g5,g6,g7,bU,cS,q1',e1,q2',eq_self,e2,e4,e5,eP,wi,VX,Nat.reduceEqDiff,Nat.reduceAdd]
    refine⟨(out++[(l.drop fr).take (i-fr)],i+1,i+1),by simp only;omega,?_,by simp only;omega,by simp only;omega,?_,.inl ⟨by simp only;omega,abN,by simp⟩,?_⟩
    ·simp
    ·simp only[List.length_append,List.length_cons,List.length_nil];omega
    ·simp
   ·have q2':¬((l.getD i 0).toNat:Int)=(c.toNat:Int):=fun h=>q2 (UInt8.toNat_inj.1 (by omega))
    simp only[pB,g0,g1,g5,g6,g7,bU,cS,q1',e1,q2',wi,VX,Nat.reduceEqDiff,Nat.reduceAdd]
    refine⟨(out,fr,i+1),by simp only;omega,rfl,by simp only;omega,by simp only;omega,jK,.inl ⟨by simp only;omega,hp,?_⟩,rfl,rfl,rfl⟩
    simp only
    rw[show i+1-fr=(i-fr)+1 by omega,List.take_add_one,List.mem_append,not_or]
    refine⟨hc,?_⟩
    have:(l.drop fr)[i-fr]? = some (l.getD i 0):=by
     rw[List.getElem?_drop,show fr+(i-fr)=i by omega,List.getD_eq_getElem?_getD,List.getElem?_eq_getElem akI]
     rfl
    rw[this]
    simp
    exact fun h=>q2 h.symm
 ·have abN:iE c l=out:=by
   rcases C2 with⟨h,_⟩ | ⟨_,h⟩
   ·omega
   ·exact h
  rw[abN]
  simp only[pB,g0,g5,g7,bU,cS,VX,Nat.reduceEqDiff,Nat.reduceAdd]
  exact F7 (es:=out.map bC) aQ (by simp) (Nat.le_refl _) (fI fun _=>rfl)
theorem acH {l:List UInt8} (h:l.all iN=true) {i:Nat} (hi:i<l.length):48≤(l.getD i 0).toNat∧(l.getD i 0).toNat≤57:=by
 have:=List.all_eq_true.1 h (l.getD i 0) (by rw[List.getD_eq_getElem?_getD,List.getElem?_eq_getElem hi];exact List.getElem_mem hi)
 simpa[iN] using this
theorem M0 {l:List UInt8} (hd:l.all iN=true) (hl:l.length≤1000000000000) {fr tq:Nat} (hft:fr≤tq) (h9:tq-fr≤9) (htl:tq≤l.length) {H:aA} {lo:Nat} {ρ:dL} {Q:VQ} (h0:ρ 0=bC l) (h4:ρ 4=VI tq) (h6:ρ 6=VI 0) (h7:ρ 7=VI fr)
  (hQ:∀bL,(∀t,t<6→bL t=ρ t)→bL 6=VI (cD ((l.drop fr).take (tq-fr)))→Q .normal bL H):VW ⟨true,false⟩ lo (.loop nE) (AZ 2 Q) ρ H:=by
 refine aU (fun(i:Nat) bL H'=>fr≤i∧i≤tq∧H'=H∧(∀t,t<6→bL t=ρ t)∧bL 6=VI (cD ((l.drop fr).take (i-fr)))∧bL 7=VI i) (fun i=>tq-i) fr ⟨Nat.le_refl _,hft,rfl,fun _ _=>rfl,by rw[h6,Nat.sub_self];rfl,h7⟩ ?_
 rintro i bL H' ⟨hfi,hi,rfl,hk,g6,g7⟩
 have g0:=(hk 0 (by decide)).trans h0
 have g4:=(hk 4 (by decide)).trans h4
 by_cases cS:(i:Int)<(tq:Int)
 ·have Wj:i<l.length:=by omega
  have e1:=Ds l Wj
  obtain⟨c1,c2⟩:=acH hd Wj
  have wi:IntKind.i64.wrap ((i:Int)+1)=((i+1:Nat):Int):=wrapN (i+1) (by omega) (by omega)
  have hcd:((l.drop fr).take (i-fr)).all iN=true:=by
   rw[List.all_eq_true] at hd ⊢
   exact fun x hx=>hd x (List.mem_of_mem_drop (List.mem_of_mem_take hx))
  have bH:=Hz hcd
  rw[List.length_take,List.length_drop,Nat.min_eq_left (by omega)] at bH
  have hp9:10^(i-fr)≤10^8:=Nat.pow_le_pow_right (by decide) (by omega)
  have e8:(10:Nat)^8=100000000:=by decide
  have tP:cD ((l.drop fr).take (i+1-fr))=cD ((l.drop fr).take (i-fr))*10+dv (l.getD i 0):=by
   have:(l.drop fr)[i-fr]? = some (l.getD i 0):=by
    rw[List.getElem?_drop,show fr+(i-fr)=i by omega,List.getD_eq_getElem?_getD,List.getElem?_eq_getElem Wj]
    rfl
   rw[show i+1-fr=(i-fr)+1 by omega,List.take_add_one,this]
   exact X6 _ _
  have hdv:dv (l.getD i 0)=(l.getD i 0).toNat-48:=rfl
  rw[hdv] at tP
  generalize (l.getD i 0).toNat=c at *
  generalize cD ((l.drop fr).take (i-fr))=D at *
  have w1:IntKind.i64.wrap (10*(D:Int))=((10*D:Nat):Int):=wrapN _ (by omega) (by omega)
  have w2:IntKind.u8.wrap ((c:Int)-48)=((c-48:Nat):Int):=by
   simp[IntKind.wrap,IntKind.bits,IntKind.signed]
   omega
  have w3:IntKind.i64.wrap ((c-48:Nat):Int)=((c-48:Nat):Int):=wrapN _ rfl (by omega)
  have w4:IntKind.i64.wrap (((10*D:Nat):Int)+((c-48:Nat):Int))=((D*10+(c-48):Nat):Int):=wrapN _ (by omega) (by omega)
  simp only[nE,g0,g4,g6,g7,cS,e1,w1,w2,w3,w4,wi,VX,Nat.reduceEqDiff,Nat.reduceAdd]
  refine⟨i+1,by omega,by omega,by omega,fun t ht => ?_,by rw[tP],rfl⟩
  try simp only[vO]
  repeat rw[if_neg (by omega)]
  exact hk t ht
 ·have mT:i=tq:=by omega
  subst mT
  simp only[nE,g4,g7,cS,VX,Nat.reduceEqDiff,Nat.reduceAdd]
  refine hQ _ (fun t ht => ?_) ?_
  ·try simp only[vO]
   repeat rw[if_neg (by omega)]
   exact hk t ht
  ·simp only[g6,VX,Nat.reduceEqDiff,Nat.reduceAdd]
set_option maxHeartbeats 1000000 in
theorem sT (l:List UInt8) (hd:l.all iN=true) (hl:l.length≤1000000000):TC 169 [bC l] (cE (cD l)):=by
 refine TC.walk ⟨true,false⟩ H8 rfl (Nat.le_of_ble_eq_true rfl) rfl (nI _) ?_
 have e3:∀lr,lG lr [.int .i64 0] 0 [] []=some (.ref 0 0 0 0 0,[.row 0 (([]:List Nat).map tV) 1 true]):=fun lr=>jH (H:=[]) (lr:=lr) (z:=[.int .i64 0]) rfl
 have e4:∀(x:Nat) (H:aA),lG false [.int .i64 0] 1 [(0,tV x)] H=some (.tree [tV x] (.cl 1),H):=fun x H=>gW (z:=[.int .i64 0]) rfl rfl rfl
 have e5:∀(x:Nat) (H:aA),cW 1 (.tree [tV x] (.cl 1)) H=some [tV x]:=fun x H=>dZ rfl rfl
 simp only[C4,Ao,e3,bU,VX,Nat.reduceEqDiff,Nat.reduceAdd]
 refine aU (fun(s:List Nat×Int) ρ H=>H=[.row s.1.length (s.1.map tV) 1 true]∧s.2≤l.length ∧ -9≤s.2∧s.1.length+s.2.toNat≤l.length∧(∀d∈s.1,d<1000000000)∧cD l=val 1000000000 s.1+1000000000^s.1.length*cD (l.take s.2.toNat) ∧
  ρ 0=bC l∧ρ 3 = .ref 0 s.1.length 0 s.1.length s.1.length∧ρ 4=VI s.2) (fun s=>s.2.toNat) ([],(l.length:Int)) ⟨rfl,Int.le_refl _,by simp only;omega,by simp,by simp,?_,rfl,rfl,rfl⟩ ?_
 ·simp only[Int.toNat_natCast,List.take_length,List.length_nil,Nat.pow_zero,Nat.one_mul,val,Nat.zero_add]
 rintro⟨out,z⟩ ρ H ⟨rfl,hz,hz9,jK,hds,hv,g0,g3,g4⟩
 simp only at hz hz9 jK hds hv g3 g4
 by_cases lH:0<z
 ·obtain⟨tq,rfl⟩:∃tq:Nat,z=tq:=⟨z.toNat,by omega⟩
  rw[Int.toNat_natCast] at jK hv
  have hto:0<tq:=by omega
  have key:∀fr:Nat,fr≤tq→tq-fr≤9→cD (l.take tq)=cD (l.take fr)*10^(tq-fr)+cD ((l.drop fr).take (tq-fr))∧cD ((l.drop fr).take (tq-fr))<1000000000:=by
   intro fr h1 h2
   have hcd:((l.drop fr).take (tq-fr)).all iN=true:=by
    rw[List.all_eq_true] at hd ⊢
    exact fun x hx=>hd x (List.mem_of_mem_drop (List.mem_of_mem_take hx))
   have hlen:((l.drop fr).take (tq-fr)).length=tq-fr:=by rw[List.length_take,List.length_drop];omega
   constructor
   ·have:=List.take_add (l:=l) (i:=fr) (j:=tq-fr)
    rw[show fr+(tq-fr)=tq by omega] at this
    rw[this,NB,hlen]
   ·have:=Hz hcd
    rw[hlen] at this
    exact Nat.lt_of_lt_of_le this (Nat.le_trans (Nat.pow_le_pow_right (by decide) h2) (by decide))
  have eP:=fun X=>gS (f:=tV) (xs:=out) (x:=X) (lo:=0) (b:=0) (g:=out.length) (n:=out.length) (e:=1) (bytes:=8) (H:=[.row out.length (out.map tV) 1 true]) aQ rfl (Nat.zero_le _) (by decide) (by decide) (by omega)
  have I9:∀X,([.row out.length (out.map tV) 1 true]:aA).set 0 (.row (out.length+1) ((out++[X]).map tV) 1 true)=[.row (out.length+1) ((out++[X]).map tV) 1 true]:=fun _=>rfl
  simp only[I9] at eP
  by_cases h9:(9:Int)<(tq:Int)
  ·obtain⟨k1,k2⟩:=key (tq-9) (by omega) (by omega)
   have wz:IntKind.i64.wrap ((tq:Int)-9)=((tq-9:Nat):Int):=wrapN _ (by omega) (by omega)
   rw[show tq-(tq-9)=9 by omega] at k1 k2
   rw[show (10:Nat)^9=1000000000 by decide] at k1
   simp only[nB,g0,g3,g4,lH,h9,wz,VX,Nat.reduceEqDiff,Nat.reduceAdd]
   refine M0 (l:=l) hd (by omega) (fr:=tq-9) (tq:=tq) (by omega) (by omega) (by omega) ?_ ?_ ?_ ?_ fun xY q q6 => ?_
   all_goals first | (simp only[g0,g4,VX,Nat.reduceEqDiff,Nat.reduceAdd];done) | skip
   rw[show tq-(tq-9)=9 by omega] at q6
   have u3:xY 3 = .ref 0 out.length 0 out.length out.length:=by rw[q 3 (by decide)];simp only[g3,VX,Nat.reduceEqDiff,Nat.reduceAdd]
   have u0:xY 0=bC l:=by rw[q 0 (by decide)];simp only[g0,VX,Nat.reduceEqDiff,Nat.reduceAdd]
   have u4:xY 4=VI tq:=by rw[q 4 (by decide)];simp only[g4,VX,Nat.reduceEqDiff,Nat.reduceAdd]
   generalize cD ((l.drop (tq-9)).take 9)=X at *
   have e4:=e4 X
   have e5:=e5 X
   have eP:=eP X
   simp only[u0,u3,u4,q6,e4,e5,eP,wz,VX,Nat.reduceEqDiff,Nat.reduceAdd]
   refine⟨(out++[X],((tq-9:Nat):Int)),by simp only;omega,?_,by simp only;omega,by simp only;omega,?_,?_,?_,?_⟩
   ·simp
   ·simp only[List.length_append,List.length_cons,List.length_nil];omega
   ·intro d hdm
    rcases List.mem_append.1 hdm with h | h
    ·exact hds d h
    ·rw[List.mem_singleton] at h;omega
   ·simp only[Int.toNat_natCast]
    rw[hv,k1,sI,List.length_append,List.length_singleton,Nat.pow_succ]
    grind
   ·simp
  ·obtain⟨k1,k2⟩:=key 0 (by omega) (by omega)
   rw[List.take_zero,LP,Nat.zero_mul,Nat.zero_add,Nat.sub_zero] at k1
   rw[Nat.sub_zero] at k2
   have wz:IntKind.i64.wrap ((tq:Int)-9)=(tq:Int)-9:=wrap64 (by omega) (by omega)
   simp only[nB,g0,g3,g4,lH,h9,VX,Nat.reduceEqDiff,Nat.reduceAdd]
   refine M0 (l:=l) hd (by omega) (fr:=0) (tq:=tq) (by omega) (by omega) (by omega) ?_ ?_ ?_ ?_ fun xY q q6 => ?_
   all_goals first | (simp only[g0,g4,VX,Nat.reduceEqDiff,Nat.reduceAdd];done) | (simp only[VX,Nat.reduceEqDiff,Nat.reduceAdd];rfl) | skip
   rw[Nat.sub_zero] at q6
   have u3:xY 3 = .ref 0 out.length 0 out.length out.length:=by rw[q 3 (by decide)];simp only[g3,VX,Nat.reduceEqDiff,Nat.reduceAdd]
   have u0:xY 0=bC l:=by rw[q 0 (by decide)];simp only[g0,VX,Nat.reduceEqDiff,Nat.reduceAdd]
   have u4:xY 4=VI tq:=by rw[q 4 (by decide)];simp only[g4,VX,Nat.reduceEqDiff,Nat.reduceAdd]
   generalize cD ((l.drop 0).take tq)=X at *
   have e4:=e4 X
   have e5:=e5 X
   have eP:=eP X
   simp only[u0,u3,u4,q6,e4,e5,eP,wz,VX,Nat.reduceEqDiff,Nat.reduceAdd]
   refine⟨(out++[X],(tq:Int)-9),by simp only;omega,?_,by simp only;omega,by simp only;omega,?_,?_,?_,?_⟩
   ·simp
   ·simp only[List.length_append,List.length_cons,List.length_nil];omega
   ·intro d hdm
    rcases List.mem_append.1 hdm with h | h
    ·exact hds d h
    ·rw[List.mem_singleton] at h;omega
   ·simp only
    rw[show ((tq:Int)-9).toNat=0 by omega,List.take_zero,LP,Nat.mul_zero,Nat.add_zero,hv,k1,sI]
   ·simp
 ·have h0:z.toNat=0:=by omega
  rw[h0,List.take_zero,LP,Nat.mul_zero,Nat.add_zero] at hv
  rw[hv]
  have ct:=TC.aiU (f:=tV) (xs:=out) (size:=1) (e:=1) (w:=true) (H:=[.row out.length (out.map tV) 1 true]) (b:=0) (gn:=out.length) (n:=out.length) (c:=out.length) (tN out hds (by show out.length≤70368744177664;omega)) aQ rfl (Nat.le_refl _) GF (fun _=>rfl) rfl rfl
  simp only[nB,g0,g3,g4,lH,ct,VX,Nat.reduceEqDiff,Nat.reduceAdd]
  exact aL (cL _)
end Go.PM
namespace Go.PM
open Go.Lib
def DF (l:List UInt8):VV:=match Ab l with
 | some q => .dR [aH q,VB true]
 | none => .dR [Me,VB false]
theorem yI (q:Rat):aY (aH q)=true:=by simp[aH,aY,aP,cL,lF]
theorem OO (q:Rat):hC (aH q)=true:=by simp[aH,hC,qD,nI,lF]
theorem VU (l:List UInt8):hC (DF l)=true:=by
 unfold DF
 split<;>simp[hC,qD,OO,TA,lF]
theorem LJ {neg:Bool} {t b:Nat} (hb:b≠0) (hg:Nat.gcd t b=1) (hn:¬(neg=true∧t=0)):aH (mkRat (kT neg t) b) = .agg [VB neg,cE t,cE b]:=by
 obtain⟨e1,e2⟩:=JR (neg:=neg) hb hg
 refine Lj ?_ (by rw[e1,oB]) e2
 rw[e1]
 cases neg with
 | false=>unfold kT;simp
 |
  true =>
  have:t≠0:=fun h=>hn ⟨rfl,h⟩
  unfold kT
  simp
  omega
theorem EI {n:Nat}:(((aC 1000000000 n).length:Nat):Int)=0↔n=0:=by
 rw[←lU (b:=1000000000) (n:=n) (by decide),←List.length_eq_zero_iff]
 omega
theorem RQ {neg:Bool} {d t:List UInt8} (h:(47:UInt8)∈t):pE neg d (some t)=none:=by
 have ht:iI t=false:=by
  cases hk:iI t with
  | false=>rfl
  | true=>exact absurd h (afQ (jY.1 hk).1)
 unfold pE
 split
 ·rfl
 ·simp only
  rw[if_neg (fun h=>by rw[ht] at h;exact absurd h.1 (by decide))]
theorem at_one (x:List UInt8) (H:aA):bQ 1 (aK bC [x]) (VI 0) H=some (.cT (bC x) 0):=aJ (f:=bC) (t := .op) (H:=H) (size:=1) (k := .i64) (xs:=[x]) (i:=0) rfl rfl
theorem ahO (x y:List UInt8) (H:aA):bQ 1 (aK bC [x,y]) (VI 0) H=some (.cT (bC x) 0):=aJ (f:=bC) (t := .op) (H:=H) (size:=1) (k := .i64) (xs:=[x,y]) (i:=0) rfl rfl
theorem ajJ (x y:List UInt8) (H:aA):bQ 1 (aK bC [x,y]) (VI 1) H=some (.cT (bC y) 0):=aJ (f:=bC) (t := .op) (H:=H) (size:=1) (k := .i64) (xs:=[x,y]) (i:=1) rfl rfl
theorem XL (x:List UInt8) (H:aA):oS (aK bC [x]) H=some (VI 1):=dY (f:=bC) (xs:=[x])
theorem ajQ (x y:List UInt8) (H:aA):oS (aK bC [x,y]) H=some (VI 2):=dY (f:=bC) (xs:=[x,y])
set_option maxRecDepth 100000 in
set_option maxHeartbeats 4000000 in
theorem KJ (l:List UInt8) (hl:l.length≤1000000000):TC 110 [bC l] (DF l):=by
 refine TC.walk ⟨true,false⟩ KG rfl (Nat.le_of_ble_eq_true rfl) rfl (VU l) ?_
 by_cases AI:l=[]
 ·subst AI
  have eC:TC 167 [.sc (.string ⟨#[]⟩),.sc (.int .u8 47)] (aK bC [[]]):=FP [] 47 (by simp)
  have eD:TC 168 [.sc (.string ⟨#[]⟩)] (VB false):=qC [] (by simp)
  have e1:Bi (.string ⟨#[]⟩)=some (.int .i64 0):=rfl
  have a1:=at_one []
  have a2:=XL []
  simp only[cI,bR,e1,eC,eD,a1,a2,Int.reduceLT,Int.reduceLE,aI,iJ,Nat.reduceLeDiff,Nat.reduceLT,Nat.reduceSub,VX,Nat.reduceEqDiff,Nat.reduceAdd]
  exact bZ (d:=6) gK (aM (v:=VB false) rfl)
 have hp:0<l.length:=List.length_pos_iff.2 AI
 have lH:(0:Int)<(l.length:Int):=by omega
 have e0:=Jv l hp
 unfold DF
 unfold Ab
 have mX:isNeg l=decide (((l.getD 0 0).toNat:Int)=45):=by
  unfold isNeg
  rw[decide_eq_true (show 1≤l.length from hp),Bool.true_and]
  refine decide_eq_decide.2 ⟨fun h=>by rw[h];rfl,fun h=>UInt8.toNat_inj.1 (by rw[show (45:UInt8).toNat=45 from rfl];omega)⟩
 have Ur:(if isNeg l=true then l.drop 1 else l).length≤l.length:=by split<;>simp
 have q0:isNeg l=false→¬((l.getD 0 0).toNat:Int)=45:=fun h=>by rw[mX] at h;exact of_decide_eq_false h
 have q9:isNeg l=true→((l.getD 0 0).toNat:Int)=45:=fun h=>by rw[mX] at h;exact of_decide_eq_true h
 have r0:isNeg l=false→(if isNeg l=true then l.drop 1 else l)=l:=fun h=>by rw[h];rfl
 have r9:isNeg l=true→wE (bC l) (some (VI 1)) none=some (bC (if isNeg l=true then l.drop 1 else l)):=fun h=>by rw[h];exact PA l (a:=1) hp
 generalize (if isNeg l=true then l.drop 1 else l)=r at *
 generalize isNeg l=neg at *
 clear mX
 have eC:TC 167 [bC r,.sc (.int .u8 47)] (aK bC (iE 47 r)):=FP r 47 (by omega)
 obtain⟨l1,l2⟩:=SM (c:=47) (l:=r)
 cases hs:(mC 47 r).2 with
 |
  none =>
  have hd:=(BK hs).2.1
  rw[Se hs] at eC
  rw[hd]
  have a1:=at_one r
  have a2:=XL r
  have eD:=qC r (by omega)
  cases hk:iI r with
  |
   false =>
   rw[hk] at eD
   have ZW:pE neg r none=none:=if_pos (.inl hk)
   rw[ZW]
   cases neg with
   |
    false =>
    have q1:=q0 rfl
    have Ur:=r0 rfl
    subst Ur
    simp only[cI,bR,bU,lH,e0,q1,eC,eD,a1,a2,Int.reduceLT,aI,bJ,aN,aV,dV,fV,dU,fS,iJ,Nat.reduceLeDiff,Nat.reduceLT,Nat.reduceSub,VX,Nat.reduceEqDiff,Nat.reduceAdd]
    exact bZ (d:=6) gK (aM (v:=VB false) rfl)
   |
    true =>
    have q1:=q9 rfl
    have e9:=r9 rfl
    simp only[cI,bR,bU,lH,e0,q1,eC,eD,a1,a2,Int.reduceLT,e9,aI,bJ,aN,aV,dV,fV,dU,fS,iJ,Nat.reduceLeDiff,Nat.reduceLT,Nat.reduceSub,VX,Nat.reduceEqDiff,Nat.reduceAdd]
    exact bZ (d:=6) gK (aM (v:=VB false) rfl)
  |
   true =>
   rw[hk] at eD
   have hbt:=yM hk
   have eN:=sT r (jY.1 hk).1 (by omega)
   by_cases hz:neg=true∧cD r=0
   ·have ZW:pE neg r none=none:=if_pos (.inr hz)
    rw[ZW]
    obtain⟨rfl,Js⟩:=hz
    have q1:=q9 rfl
    have e9:=r9 rfl
    have Jq:(((aC 1000000000 (cD r)).length:Nat):Int)=0:=EI.2 Js
    simp only[cI,bR,bU,lH,e0,q1,eC,eD,a1,a2,eN,e9,cN,Jq,Int.reduceLT,aI,bJ,aN,aV,dV,fV,dU,fS,iJ,Nat.reduceLeDiff,Nat.reduceLT,Nat.reduceSub,VX,Nat.reduceEqDiff,Nat.reduceAdd]
    exact bZ (d:=6) gK (aM (v:=VB false) rfl)
   ·have E7:neg=true→¬(((aC 1000000000 (cD r)).length:Nat):Int)=0:=fun h h0=>hz ⟨h,EI.1 h0⟩
    have ZW:pE neg r none=some (mkRat (kT neg (cD r)) 1):=if_neg (by rw[hk];rintro(h | h);exact absurd h (by decide);exact hz h)
    rw[ZW]
    simp only[]
    rw[LJ (by decide) (Nat.gcd_one_right _) hz]
    cases neg with
    |
     false =>
     have q1:=q0 rfl
     have Ur:=r0 rfl
     subst Ur
     simp only[cI,bR,bU,lH,e0,q1,eC,eD,a1,a2,eN,Int.reduceLT,Int.reduceEq,aI,bJ,aN,aV,dV,fV,dU,fS,iJ,Nat.reduceLeDiff,Nat.reduceLT,Nat.reduceSub,VX,Nat.reduceEqDiff,Nat.reduceAdd]
     exact bZ (d:=6) (rK (aM (v:=VB false) rfl) (aM (cL _)) Qj) (aM (v:=VB true) rfl)
    |
     true =>
     have q1:=q9 rfl
     have e9:=r9 rfl
     have Jq:=E7 rfl
     simp only[cI,bR,bU,lH,e0,q1,eC,eD,a1,a2,eN,Int.reduceLT,Int.reduceEq,e9,cN,Jq,aI,bJ,aN,aV,dV,fV,dU,fS,iJ,Nat.reduceLeDiff,Nat.reduceLT,Nat.reduceSub,VX,Nat.reduceEqDiff,Nat.reduceAdd]
     exact bZ (d:=6) (rK (aM (v:=VB true) rfl) (aM (cL _)) Qj) (aM (v:=VB true) rfl)
 |
  some t =>
  have ltt:=l2 t hs
  rw[Kf hs] at eC
  generalize (mC 47 r).1=d at *
  by_cases hm:(47:UInt8)∈t
  ·rw[RQ hm]
   have hP:=SA hm
   generalize hPP:iE 47 t=P at *
   have a2:∀H,oS (aK bC (d::P)) H=some (VI ((d::P).length:Int)):=fun H=>dY (f:=bC) (xs:=d::P)
   have hq3:(2:Int)<((d::P).length:Int):=by rw[List.length_cons];omega
   generalize hQQ:d::P=PP at *
   clear hQQ hPP hP
   cases neg with
   |
    false =>
    have q1:=q0 rfl
    have Ur:=r0 rfl
    subst Ur
    simp only[cI,bR,bU,lH,e0,q1,eC,a2,hq3,aI,bJ,aN,aV,dV,fV,dU,fS,iJ,Nat.reduceLeDiff,Nat.reduceLT,Nat.reduceSub,VX,Nat.reduceEqDiff,Nat.reduceAdd]
    exact bZ (d:=6) gK (aM (v:=VB false) rfl)
   |
    true =>
    have q1:=q9 rfl
    have e9:=r9 rfl
    simp only[cI,bR,bU,lH,e0,q1,eC,a2,hq3,e9,aI,bJ,aN,aV,dV,fV,dU,fS,iJ,Nat.reduceLeDiff,Nat.reduceLT,Nat.reduceSub,VX,Nat.reduceEqDiff,Nat.reduceAdd]
    exact bZ (d:=6) gK (aM (v:=VB false) rfl)
  ·rw[Gz hm] at eC
   have a1:=ahO d t
   have a3:=ajJ d t
   have a2:=ajQ d t
   have eD:=qC d (by omega)
   have eF:=qC t (by omega)
   cases hk:iI d with
   |
    false =>
    rw[hk] at eD
    have ZW:pE neg d (some t)=none:=if_pos (.inl hk)
    rw[ZW]
    cases neg with
    |
     false =>
     have q1:=q0 rfl
     have Ur:=r0 rfl
     subst Ur
     simp only[cI,bR,bU,lH,e0,q1,eC,eD,a1,a2,Int.reduceLT,aI,bJ,aN,aV,dV,fV,dU,fS,iJ,Nat.reduceLeDiff,Nat.reduceLT,Nat.reduceSub,VX,Nat.reduceEqDiff,Nat.reduceAdd]
     exact bZ (d:=6) gK (aM (v:=VB false) rfl)
    |
     true =>
     have q1:=q9 rfl
     have e9:=r9 rfl
     simp only[cI,bR,bU,lH,e0,q1,eC,eD,a1,a2,Int.reduceLT,e9,aI,bJ,aN,aV,dV,fV,dU,fS,iJ,Nat.reduceLeDiff,Nat.reduceLT,Nat.reduceSub,VX,Nat.reduceEqDiff,Nat.reduceAdd]
     exact bZ (d:=6) gK (aM (v:=VB false) rfl)
   |
    true =>
    rw[hk] at eD
    have hbt:=yM hk
    have eN:=sT d (jY.1 hk).1 (by omega)
    by_cases hz:neg=true∧cD d=0
    ·have ZW:pE neg d (some t)=none:=if_pos (.inr hz)
     rw[ZW]
     obtain⟨rfl,Js⟩:=hz
     have q1:=q9 rfl
     have e9:=r9 rfl
     have Jq:(((aC 1000000000 (cD d)).length:Nat):Int)=0:=EI.2 Js
     simp only[cI,bR,bU,lH,e0,q1,eC,eD,a1,a2,eN,e9,cN,Jq,Int.reduceLT,aI,bJ,aN,aV,dV,fV,dU,fS,iJ,Nat.reduceLeDiff,Nat.reduceLT,Nat.reduceSub,VX,Nat.reduceEqDiff,Nat.reduceAdd]
     exact bZ (d:=6) gK (aM (v:=VB false) rfl)
    ·have E7:neg=true→¬(((aC 1000000000 (cD d)).length:Nat):Int)=0:=fun h h0=>hz ⟨h,EI.1 h0⟩
     have ZW:pE neg d (some t)=if iI t=true∧1<cD t∧Nat.gcd (cD d) (cD t)=1 then some (mkRat (kT neg (cD d)) (cD t)) else none:=if_neg (by rw[hk];rintro(h | h);exact absurd h (by decide);exact hz h)
     rw[ZW]
     clear ZW
     cases ht:iI t with
     |
      false =>
      rw[ht] at eF
      rw[if_neg (fun h=>absurd h.1 (by decide))]
      cases neg with
      |
       false =>
       have q1:=q0 rfl
       have Ur:=r0 rfl
       subst Ur
       simp only[cI,bR,bU,lH,e0,q1,eC,eD,eF,a1,a2,a3,eN,Int.reduceLT,Int.reduceEq,aI,bJ,aN,aV,dV,fV,dU,fS,iJ,Nat.reduceLeDiff,Nat.reduceLT,Nat.reduceSub,VX,Nat.reduceEqDiff,Nat.reduceAdd]
       exact bZ (d:=6) gK (aM (v:=VB false) rfl)
      |
       true =>
       have q1:=q9 rfl
       have e9:=r9 rfl
       have Jq:=E7 rfl
       simp only[cI,bR,bU,lH,e0,q1,eC,eD,eF,a1,a2,a3,eN,Int.reduceLT,Int.reduceEq,e9,cN,Jq,aI,bJ,aN,aV,dV,fV,dU,fS,iJ,Nat.reduceLeDiff,Nat.reduceLT,Nat.reduceSub,VX,Nat.reduceEqDiff,Nat.reduceAdd]
       exact bZ (d:=6) gK (aM (v:=VB false) rfl)
     |
      true =>
      rw[ht] at eF
      have M5:=yM ht
      have eM:=sT t (jY.1 ht).1 (by omega)
      have c2:∀lo H K,_:=fun lo H K=>K9 (n:=cD t) (lo:=lo) (H:=H) (K:=K) (Nat.le_of_lt (oZ (by omega)))
      have c3:=FR (cD d) (cD t) (oZ (by omega)) (oZ (by omega))
      by_cases h1:eZ (cD t) 1≤0
      ·have hle:¬1<cD t:=fun h=>by unfold eZ at h1;rw[if_neg (by omega),if_neg (by omega)] at h1;exact absurd h1 (by decide)
       rw[if_neg (fun h=>hle h.2.1)]
       cases neg with
       |
        false =>
        have q1:=q0 rfl
        have Ur:=r0 rfl
        subst Ur
        simp only[cI,bR,bU,lH,e0,q1,eC,eD,eF,a1,a2,a3,eN,eM,c2,h1,Int.reduceLT,Int.reduceEq,aI,bJ,aN,aV,dV,fV,dU,fS,iJ,Nat.reduceLeDiff,Nat.reduceLT,Nat.reduceSub,VX,Nat.reduceEqDiff,Nat.reduceAdd]
        exact bZ (d:=6) gK (aM (v:=VB false) rfl)
       |
        true =>
        have q1:=q9 rfl
        have e9:=r9 rfl
        have Jq:=E7 rfl
        simp only[cI,bR,bU,lH,e0,q1,eC,eD,eF,a1,a2,a3,eN,eM,c2,h1,Int.reduceLT,Int.reduceEq,e9,cN,Jq,aI,bJ,aN,aV,dV,fV,dU,fS,iJ,Nat.reduceLeDiff,Nat.reduceLT,Nat.reduceSub,VX,Nat.reduceEqDiff,Nat.reduceAdd]
        exact bZ (d:=6) gK (aM (v:=VB false) rfl)
      ·have bH:1<cD t:=by
        rcases Nat.lt_or_ge 1 (cD t) with h | h
        ·exact h
        ·exfalso
         apply h1
         unfold eZ
         split<;>(try split)<;>first | decide | omega
       have hgl:bl (Nat.gcd (cD d) (cD t))≤665:=Nat.le_trans (kP (Nat.le_of_dvd (by omega) (Nat.gcd_dvd_right _ _))) M5
       have c4:∀lo H K,_:=fun lo H K=>K9 (n:=Nat.gcd (cD d) (cD t)) (lo:=lo) (H:=H) (K:=K) (Nat.le_of_lt (oZ (by omega)))
       by_cases hg:Nat.gcd (cD d) (cD t)=1
       ·have h4:eZ (Nat.gcd (cD d) (cD t)) 1=0:=by rw[hg];rfl
        rw[if_pos ⟨rfl,bH,hg⟩]
        simp only[]
        rw[LJ (by omega) hg hz]
        cases neg with
        |
         false =>
         have q1:=q0 rfl
         have Ur:=r0 rfl
         subst Ur
         simp only[cI,bR,bU,lH,e0,q1,eC,eD,eF,a1,a2,a3,eN,eM,c2,c3,c4,h1,h4,Int.reduceLT,Int.reduceEq,aI,bJ,aN,aV,dV,fV,dU,fS,iJ,Nat.reduceLeDiff,Nat.reduceLT,Nat.reduceSub,VX,Nat.reduceEqDiff,Nat.reduceAdd]
         exact bZ (d:=6) (rK (aM (v:=VB false) rfl) (aM (cL _)) (aM (cL _))) (aM (v:=VB true) rfl)
        |
         true =>
         have q1:=q9 rfl
         have e9:=r9 rfl
         have Jq:=E7 rfl
         simp only[cI,bR,bU,lH,e0,q1,eC,eD,eF,a1,a2,a3,eN,eM,c2,c3,c4,h1,h4,Int.reduceLT,Int.reduceEq,e9,cN,Jq,aI,bJ,aN,aV,dV,fV,dU,fS,iJ,Nat.reduceLeDiff,Nat.reduceLT,Nat.reduceSub,VX,Nat.reduceEqDiff,Nat.reduceAdd]
         exact bZ (d:=6) (rK (aM (v:=VB true) rfl) (aM (cL _)) (aM (cL _))) (aM (v:=VB true) rfl)
       ·have h4:¬eZ (Nat.gcd (cD d) (cD t)) 1=0:=by
         unfold eZ
         split<;>(try split)<;>first | decide | omega
        rw[if_neg (fun h=>hg h.2.2)]
        cases neg with
        |
         false =>
         have q1:=q0 rfl
         have Ur:=r0 rfl
         subst Ur
         simp only[cI,bR,bU,lH,e0,q1,eC,eD,eF,a1,a2,a3,eN,eM,c2,c3,c4,h1,h4,Int.reduceLT,Int.reduceEq,aI,bJ,aN,aV,dV,fV,dU,fS,iJ,Nat.reduceLeDiff,Nat.reduceLT,Nat.reduceSub,VX,Nat.reduceEqDiff,Nat.reduceAdd]
         exact bZ (d:=6) gK (aM (v:=VB false) rfl)
        |
         true =>
         have q1:=q9 rfl
         have e9:=r9 rfl
         have Jq:=E7 rfl
         simp only[cI,bR,bU,lH,e0,q1,eC,eD,eF,a1,a2,a3,eN,eM,c2,c3,c4,h1,h4,Int.reduceLT,Int.reduceEq,e9,cN,Jq,aI,bJ,aN,aV,dV,fV,dU,fS,iJ,Nat.reduceLeDiff,Nat.reduceLT,Nat.reduceSub,VX,Nat.reduceEqDiff,Nat.reduceAdd]
         exact bZ (d:=6) gK (aM (v:=VB false) rfl)
end Go.PM
namespace Go.PM
open Go.Lib
theorem amC {a b:Rat}:(decide (a.num<0) != decide (b.num<0))=true→(decide (a<b)=decide (a.num<0)):=by
 intro h
 have h1:a.num<0↔a<0:=by rw[←Int.not_le,Rat.num_nonneg];constructor<;>intro h<;>grind
 have h2:b.num<0↔b<0:=by rw[←Int.not_le,Rat.num_nonneg];constructor<;>intro h<;>grind
 by_cases q1:a.num<0<;>by_cases q2:b.num<0
 ·simp[q1,q2] at h
 ·have:=h1.1 q1
  have:=mt h2.2 q2
  rw[decide_eq_true q1,decide_eq_true (by grind)]
 ·have:=h2.1 q2
  have:=mt h1.2 q1
  rw[decide_eq_false q1,decide_eq_false (by grind)]
 ·simp[q1,q2] at h
set_option maxHeartbeats 1000000 in
theorem M4 (a b:Rat) (Ou:bP a≤1099511627776) (Ip:bP b≤1099511627776):TC 80 [aH a,aH b] (VB (decide (a<b))):=by
 refine TC.walk ⟨true,false⟩ MS rfl (Nat.le_of_ble_eq_true rfl) (by simp only[aP,yI];rfl) rfl ?_
 have b1 := @sG a
 have b2 := @sG b
 have b3 := @pZ a
 have b4 := @pZ b
 have b5:=nX a.num.natAbs b.den
 have b6:=nX b.num.natAbs a.den
 have c1:=gZ a.num.natAbs b.den (Nat.le_of_lt (oZ (by omega))) (Nat.le_of_lt (oZ (by omega)))
 have c2:=gZ b.num.natAbs a.den (Nat.le_of_lt (oZ (by omega))) (Nat.le_of_lt (oZ (by omega)))
 have c3:=vH (a.num.natAbs*b.den) (b.num.natAbs*a.den) (Nat.le_of_lt (oZ (by omega))) (Nat.le_of_lt (oZ (by omega)))
 have bH:=Rat.lt_iff (a:=a) (b:=b)
 by_cases q1:a.num<0<;>by_cases q2:b.num<0
 ·have agB:a<b↔0<eZ (a.num.natAbs*b.den) (b.num.natAbs*a.den):=by
   rw[bH,X3]
   have e1:a.num = -(a.num.natAbs:Int):=by omega
   have e2:b.num = -(b.num.natAbs:Int):=by omega
   generalize a.num.natAbs=m at *
   generalize b.num.natAbs=n at *
   rw[e1,e2,Int.neg_mul,Int.neg_mul,←Int.natCast_mul,←Int.natCast_mul]
   omega
  by_cases q3:0<eZ (a.num.natAbs*b.den) (b.num.natAbs*a.den)
  ·rw[decide_eq_true (agB.2 q3)]
   simp only[mR,kM,c1,c2,c3,q1,q2,q3,oR,decide_true,decide_false,bne_self_eq_false,Bool.bne_true,Bool.bne_false,Bool.true_bne,Bool.false_bne,Bool.not_true,Bool.not_false,cC,fT,gL,gP,aN,iJ,Nat.reduceLeDiff,Nat.reduceLT,Nat.reduceSub,VX,Nat.reduceEqDiff,Nat.reduceAdd]
   exact aL rfl
  ·rw[decide_eq_false (mt agB.1 q3)]
   simp only[mR,kM,c1,c2,c3,q1,q2,q3,oR,decide_true,decide_false,bne_self_eq_false,Bool.bne_true,Bool.bne_false,Bool.true_bne,Bool.false_bne,Bool.not_true,Bool.not_false,cC,fT,gL,gP,aN,iJ,Nat.reduceLeDiff,Nat.reduceLT,Nat.reduceSub,VX,Nat.reduceEqDiff,Nat.reduceAdd]
   exact aL rfl
 ·have hl:=amC (a:=a) (b:=b) (by simp[q1,q2])
  rw[hl,decide_eq_true q1]
  simp only[mR,kM,q1,q2,oR,decide_true,decide_false,bne_self_eq_false,Bool.bne_true,Bool.bne_false,Bool.true_bne,Bool.false_bne,Bool.not_true,Bool.not_false,cC,fT,gL,gP,aN,iJ,Nat.reduceLeDiff,Nat.reduceLT,Nat.reduceSub,VX,Nat.reduceEqDiff,Nat.reduceAdd]
  exact aL rfl
 ·have hl:=amC (a:=a) (b:=b) (by simp[q1,q2])
  rw[hl,decide_eq_false q1]
  simp only[mR,kM,q1,q2,oR,decide_true,decide_false,bne_self_eq_false,Bool.bne_true,Bool.bne_false,Bool.true_bne,Bool.false_bne,Bool.not_true,Bool.not_false,cC,fT,gL,gP,aN,iJ,Nat.reduceLeDiff,Nat.reduceLT,Nat.reduceSub,VX,Nat.reduceEqDiff,Nat.reduceAdd]
  exact aL rfl
 ·have agB:a<b↔eZ (a.num.natAbs*b.den) (b.num.natAbs*a.den)<0:=by
   rw[bH,vF]
   have e1:a.num=(a.num.natAbs:Int):=by omega
   have e2:b.num=(b.num.natAbs:Int):=by omega
   generalize a.num.natAbs=m at *
   generalize b.num.natAbs=n at *
   rw[e1,e2,←Int.natCast_mul,←Int.natCast_mul]
   omega
  by_cases q3:eZ (a.num.natAbs*b.den) (b.num.natAbs*a.den)<0
  ·rw[decide_eq_true (agB.2 q3)]
   simp only[mR,kM,c1,c2,c3,q1,q2,q3,oR,decide_true,decide_false,bne_self_eq_false,Bool.bne_true,Bool.bne_false,Bool.true_bne,Bool.false_bne,Bool.not_true,Bool.not_false,cC,fT,gL,gP,aN,iJ,Nat.reduceLeDiff,Nat.reduceLT,Nat.reduceSub,VX,Nat.reduceEqDiff,Nat.reduceAdd]
   exact aL rfl
  ·rw[decide_eq_false (mt agB.1 q3)]
   simp only[mR,kM,c1,c2,c3,q1,q2,q3,oR,decide_true,decide_false,bne_self_eq_false,Bool.bne_true,Bool.bne_false,Bool.true_bne,Bool.false_bne,Bool.not_true,Bool.not_false,cC,fT,gL,gP,aN,iJ,Nat.reduceLeDiff,Nat.reduceLT,Nat.reduceSub,VX,Nat.reduceEqDiff,Nat.reduceAdd]
   exact aL rfl
end Go.PM
namespace Go.PM
open Go.Lib
theorem SH {l:List UInt8} {q:Rat} (h:Ab l=some q):DF l = .dR [aH q,VB true]:=by unfold DF;rw[h]
theorem R8 {l:List UInt8} (h:Ab l=none):DF l = .dR [Me,VB false]:=by unfold DF;rw[h]
end Go.PM
namespace Go.PM
open Go.Lib
def TM (o:Option (List Rat)):VV:=match o with
 | some qs => .dR [aK aH qs,VB true]
 | none => .dR [aK aH [],VB false]
theorem Gc:TM none = .dR [aK aH [],VB false]:=rfl
theorem F6 (qs:List Rat):TM (some qs) = .dR [aK aH qs,VB true]:=rfl
theorem qF (q:Rat):(aB (aH q)).length=3:=rfl
theorem zT (qs:List Rat):aY (aK aH qs)=true:=nO qF yI
theorem X7 (q:Rat):AY (aH q)=true:=by simp[AY,aH,cE,iG]
theorem IE (qs:List Rat):hC (aK aH qs)=true:=Bl qF OO X7
theorem Zo (o:Option (List Rat)):hC (TM o)=true:=by
 unfold TM
 split
 ·exact wC (IE _) rfl
 ·exact wC (IE []) rfl
set_option maxHeartbeats 1000000 in
theorem Em (xs:List ByteArray) (hn:xs.length≤1000000000) (hs:∀s∈xs,s.size≤1000000000):TC 57 [fH xs] (TM (Al xs)):=by
 refine TC.walk ⟨true,false⟩ NR rfl (Nat.le_of_ble_eq_true rfl) (by simp[aP,fB]) (Zo _) ?_
 unfold Al
 by_cases Wa:(300:Int)<(xs.length:Int)
 ·rw[if_neg (by omega)]
  simp only[Ck,zB,Wa,VX,Nat.reduceEqDiff,Nat.reduceAdd]
  exact Q9
 rw[if_pos (by omega)]
 have e0:=fun H=>jH (H:=H) (lr:=false) (z:=[.bool false,.slice none 0 0,.slice none 0 0]) rfl
 simp only[Ck,zB,Wa,e0,VX,Nat.reduceEqDiff,Nat.reduceAdd]
 refine Ns (fun(s:Nat×List Rat) ρ H=>s.1≤xs.length∧(xs.take s.1).mapM pQ=some s.2∧H=[.row s.1 (s.2.map aH) 3 true]∧ρ 4 = .ref 0 s.1 0 s.1 s.1∧ρ 0=fH xs∧ρ 13=VI xs.length∧ρ 14=VI s.1) (fun s=>xs.length-s.1) (0,[]) ⟨Nat.zero_le _,rfl,rfl,rfl,rfl,rfl,rfl⟩ ?_
 rintro⟨i,out⟩ ρ H ⟨hi,LR,rfl,g4,g13,g14,g15⟩
 simp only at hi LR g4 g15
 have jK:out.length=i:=by rw[rA LR,List.length_take];omega
 by_cases cS:(i:Int)<(xs.length:Int)
 ·obtain⟨x,hx⟩:∃x,xs[i]? = some x:=⟨_,List.getElem?_eq_getElem (by omega)⟩
  have hxm:=List.mem_of_getElem? hx
  have e1:=fun H=>aJ (f:=sV) (t := .op) (H:=H) (size:=1) (k := .i64) hx rfl
  have wi:IntKind.i64.wrap ((i:Int)+1)=((i+1:Nat):Int):=wrapN (i+1) (by omega) (by omega)
  have e2:=KJ x.data.toList (by have:=hs x hxm;rw[Array.length_toList];show x.size≤_;omega)
  rw[←acK] at e2
  cases hp:pQ x with
  |
   none =>
   rw[R8 hp] at e2
   rw[mapM_none hp hxm]
   simp only[rM,g4,g13,g14,g15,cS,e1,e2,J0,Lu,T7,bB,aZ,aS,iJ,Nat.reduceLeDiff,Nat.reduceLT,Nat.reduceSub,J1,Cj,EO,zC,GL,Gs,bne_iff_ne,ne_eq,not_false_eq_true,not_true_eq_false,VX,Nat.reduceEqDiff,Nat.reduceAdd]
   exact Q9
  |
   some q =>
   rw[SH hp] at e2
   have eL:∀H,lG false [.bool false,.slice none 0 0,.slice none 0 0] 1 [(0,aH q)] H=some (.tree [aH q] (.cl 3),H):=fun H=>gW rfl rfl rfl
   have eS:∀H,cW 3 (.tree [aH q] (.cl 3)) H=some [aH q]:=fun H=>dZ rfl rfl
   have eP:dW 0 3 56 (.ref 0 i 0 i i) [aH q] [.row i (out.map aH) 3 true,.row 0 [aH q] 3 true]=some (.ref 0 (i+1) 0 (i+1) (i+1),[.row (i+1) ((out++[q]).map aH) 3 true,.row 0 [aH q] 3 true]):=by
    rw[gS (f:=aH) (xs:=out) (by rw[aQ]) jK.symm (Nat.le_refl _) (by decide) (by decide) (by omega),List.set_cons_zero]
   simp only[rM,g4,g13,g14,g15,cS,e1,e2,eL,eS,eP,wi,cC,lE,iM,aN,bJ,aV,iJ,Nat.reduceLeDiff,Nat.reduceLT,Nat.reduceSub,J1,Cj,EO,zC,GL,Gs,bne_iff_ne,ne_eq,not_false_eq_true,not_true_eq_false,VX,Nat.reduceEqDiff,Nat.reduceAdd]
   refine⟨(i+1,out++[q]),by simp only;omega,?_,by simp only;omega,by simp only[iD hx];exact E4 LR hp,rfl,?_⟩
   ·rw[Bm (mD _ (fI yI)),Il]
   ·simp only[uJ,g13,g14,Bz (fB _),Iy (Nat.lt_succ_self 0),VX,Nat.reduceEqDiff,Nat.reduceAdd,List.take_zero,jX,List.all_nil,List.length_nil,uJ,Mx,Bz]
 ·have mT:i=xs.length:=by omega
  subst mT
  rw[List.take_length] at LR
  rw[LR]
  simp only[rM,g4,g13,g14,g15,cS,VX,Nat.reduceEqDiff,Nat.reduceAdd]
  refine bZ (d:=6) ?_ (aM (v:=VB true) rfl)
  have:=RE (d:=5) (w:=true) (f:=aH) (e:=3) (b:=0) (g:=xs.length) (c:=xs.length) (xs:=out) (H:=[.row xs.length (out.map aH) 3 true]) yI (by rw[aQ]) (by omega)
  rw[jK] at this
  exact this
set_option maxHeartbeats 1000000 in
theorem YP {lo:Nat} {H:aA} {q:Rat} (h:lo≤H.length):bI lo 3 (.ptr H.length 0 0 0) (aH q) (H++[cell0])=some (H++[.row 0 [aH q] 3 true]):=by
 rw[bO (g:=0) (e:=3) (j:=0) fW (by exact Nat.zero_lt_one) h rfl rfl,D2]
 rfl
theorem WE {q:Rat}:q.num<0↔q<0:=by rw[←Int.not_le,Rat.num_nonneg];constructor<;>intro h<;>grind
end Go.PM
namespace Go.PM
open Go.Lib
end Go.PM
namespace Go.PM
def wH:aD:=(LS [LO 15 (.bin .lss (LT 14) (LT 13))] (.seq (.cond (LT 15) .skip (.exit 0)) (.seq (.block 1 (LS [LM 16 14,LM 5 16] (LS [LM 18 0,LO 19 (.chk (LT 18)),LO 20 (LA 0 19),LO 21 (LL 20),LM 22 5,LO 23 (.iaddr 1 (LT 21) (LT 22)),LO 24 (LL 23),LO 25 (.call 181 [(LT 24)]),LM 17 25,LO 26 (LX 17 0),LO 27 (LX 17 1),LM 6 26,LM 7 27] (.seq (LS [LM 28 7,LO 29 (.un .not (LT 28))] (.cond (LT 29) (LS [LO 30 (.build [(.slice none 0 0)] [(0,1)] []),LN (.store 1 (LT 2) (LT 30)),LO 3 (.mv LF)] .ret) .skip)) (.dI [LO 31 (LA 0 4),LO 32 (LL 31),LM 33 6,LO 34 (.lit [(.slice none 0 0)] 1 [(0,(LT 33))]),LO 35 (.app 1 24 (LT 32) (LT 34)),LO 36 (LA 0 4),LN (.store 1 (LT 36) (LT 35))]))))) (.dI [LO 37 (.bin .add (LT 14) (LI 1)),LM 14 37]))))
def D9:aD:=(LS [LO 2 (.new [(.slice none 0 0)]),LO 3 (.mv LF)] (LS [LO 8 (.build [(.slice none 0 0)] [(0,1)] []),LO 4 (.new [(.slice none 0 0)]),LN (.store 1 (LT 4) (LT 8))] (.seq (LS [LM 9 0,LO 10 (.chk (LT 9)),LO 11 (LA 0 10),LO 12 (LL 11),LO 13 (.len (LT 12)),LO 14 (.mv (LI 0))] (.block 0 (.loop wH))) (LS [LO 38 (.load true 1 (LT 4)),LN (.store 1 (LT 2) (LT 38)),LO 3 (.mv LG)] .ret))))
def G0:aT:=⟨39,[(.cell 2 true 1),(.tmp 3)],D9⟩
theorem MQ:fM 138=some G0:=by kernel_rfl
end Go.PM
namespace Go.PM
open Go.Lib
theorem VH (x:List Rat):(aB (aK aH x)).length=1:=rfl
theorem Yo (m:List (List Rat)):aY (aK (aK aH) m)=true:=nO VH zT
end Go.PM
namespace Go.PM
def sP:aD:=(.seq (LS [LM 34 8,LM 35 6,LO 36 (.len (LT 35)),LO 37 (.bin .lss (LT 34) (LT 36))] (.cond (LT 37) .skip (.exit 0))) (.seq (.block 1 (LS [LM 41 8,LO 42 (.call 78 [(LT 4),(LT 41)]),LM 40 42,LO 43 (LX 40 0),LO 44 (LX 40 1),LO 9 (.new [(.bool false),(.slice none 0 0),(.slice none 0 0)]),LO 10 (.new [(.bool false),(.slice none 0 0),(.slice none 0 0)]),LN (.store 3 (LT 9) (LT 43)),LN (.store 3 (LT 10) (LT 44))] (LS [LO 45 (LK 9),LO 46 (LK 10),LO 47 (.call 79 [(LT 45),(LT 46)]),LO 11 (.new [(.bool false),(.slice none 0 0),(.slice none 0 0)]),LN (.store 3 (LT 11) (LT 47))] (LS [LO 48 (LK 7),LO 49 (LK 11),LO 50 (.call 80 [(LT 48),(LT 49)])] (.cond (LT 50) (.dI [LO 51 (LK 11),LN (.store 3 (LT 7) (LT 51))]) .skip))))) (.dI [LM 38 8,LO 39 (.bin .add (LT 38) (LI 1)),LM 8 39])))
def tD:aD:=(.seq (LS [LM 52 12,LM 53 6,LO 54 (.len (LT 53)),LO 55 (.bin .lss (LT 52) (LT 54))] (.cond (LT 55) .skip (.exit 2))) (.seq (.block 3 (LS [LM 59 12,LO 60 (.call 78 [(LT 4),(LT 59)]),LM 58 60,LO 61 (LX 58 0),LO 62 (LX 58 1),LO 13 (.new [(.bool false),(.slice none 0 0),(.slice none 0 0)]),LO 14 (.new [(.bool false),(.slice none 0 0),(.slice none 0 0)]),LN (.store 3 (LT 13) (LT 61)),LN (.store 3 (LT 14) (LT 62))] (.seq (LS [LM 63 12,LO 64 (.bin .add (LT 63) (LI 1)),LM 65 6,LO 66 (.len (LT 65)),LO 67 (.bin .lss (LT 64) (LT 66))] (.cond (LT 67) (.dI [LM 68 6,LM 69 12,LO 70 (.iaddr 1 (LT 68) (LT 69)),LO 71 (LL 70),LM 72 12,LO 73 (.bin .add (LT 72) (LI 1)),LO 74 (LK 13),LO 75 (LK 7),LQ 76 (.call 81 [(LT 74),(LT 75)]),LO 77 (.iaddr 3 (LT 71) (LT 73)),LN (.store 3 (LT 77) (LT 76))]) .skip)) (.seq (LS [LM 78 12,LO 79 (.bin .gtr (LT 78) (LI 0))] (.cond (LT 79) (.dI [LM 80 6,LM 81 12,LO 82 (.iaddr 1 (LT 80) (LT 81)),LO 83 (LL 82),LM 84 12,LO 85 (.bin .sub (LT 84) (LI 1)),LO 86 (LK 14),LO 87 (LK 7),LQ 88 (.call 81 [(LT 86),(LT 87)]),LO 89 (.iaddr 3 (LT 83) (LT 85)),LN (.store 3 (LT 89) (LT 88))]) .skip)) (.dI [LM 90 6,LM 91 12,LO 92 (.iaddr 1 (LT 90) (LT 91)),LO 93 (LL 92),LM 94 12,LQ 95 (.call 83 []),LO 96 (LK 13),LO 97 (LK 14),LQ 98 (.call 79 [(LT 96),(LT 97)]),LO 99 (LK 7),LQ 100 (.call 81 [(LT 98),(LT 99)]),LQ 101 (.call 82 [(LT 95),(LT 100)]),LO 102 (.iaddr 3 (LT 93) (LT 94)),LN (.store 3 (LT 102) (LT 101))]))))) (.dI [LM 56 12,LO 57 (.bin .add (LT 56) (LI 1)),LM 12 57])))
def pV:aD:=(LS [LO 1 (.box (LT 0)),LO 2 (.new [(.slice none 0 0)]),LO 3 (.mv LF)] (LS [LO 16 (.call 75 [(LT 1)]),LM 15 16,LO 17 (LX 15 0),LO 18 (LX 15 1),LO 4 (.new [(.slice none 0 0),(.slice none 0 0)]),LN (.store 2 (LT 4) (LT 17)),LM 5 18] (.seq (LS [LM 19 5,LO 20 (.un .not (LT 19)),LM 21 20,LZ 21 22 (LA 0 4),LZ 21 23 (LL 22),LZ 21 24 (.len (LT 23)),LZ 21 25 (.bin .geq (LT 24) (LI 12)),LO 26 (.pick (LT 21) LG (LT 25))] (.cond (LT 26) (LS [LO 27 (.build [(.slice none 0 0)] [(0,1)] []),LN (.store 1 (LT 2) (LT 27)),LO 3 (.mv LF)] .ret) .skip)) (LS [LO 28 (LA 0 4),LO 29 (LL 28),LO 30 (.len (LT 29)),LO 31 (.bin .add (LT 30) (LI 1)),LO 32 (.call 76 [(LT 31)]),LM 6 32] (LS [LO 33 (.call 77 []),LO 7 (.new [(.bool false),(.slice none 0 0),(.slice none 0 0)]),LN (.store 3 (LT 7) (LT 33))] (.seq (LS [LO 8 (.mv (LI 0))] (.block 0 (.loop sP))) (.seq (LS [LO 12 (.mv (LI 0))] (.block 2 (.loop tD))) (LS [LM 103 6,LO 104 (.call 61 [(LT 103)]),LO 105 (LX 104 0),LO 106 (LX 104 1),LN (.store 1 (LT 2) (LT 105)),LM 3 106] .ret))))))))
def tO:aT:=⟨107,[(.cell 2 true 1),(.tmp 3)],pV⟩
theorem Ii:fM 25=some tO:=by kernel_rfl
def uG:aD:=(.seq (LS [LM 14 6,LM 15 0,LO 16 (.bin .lss (LT 14) (LT 15))] (.cond (LT 16) .skip (.exit 2))) (.seq (.block 3 (.dI [LM 19 5,LO 20 (.call 77 []),LO 21 (.lit [(.bool false),(.slice none 0 0),(.slice none 0 0)] 1 [(0,(LT 20))]),LO 22 (.app 3 56 (LT 19) (LT 21)),LM 5 22])) (.dI [LM 17 6,LO 18 (.bin .add (LT 17) (LI 1)),LM 6 18])))
def uM:aD:=(.seq (LS [LM 8 4,LM 9 0,LO 10 (.bin .lss (LT 8) (LT 9))] (.cond (LT 10) .skip (.exit 0))) (.seq (.block 1 (LS [LO 13 (.lit [(.bool false),(.slice none 0 0),(.slice none 0 0)] 0 []),LM 5 13] (.seq (LS [LO 6 (.mv (LI 0))] (.block 2 (.loop uG))) (.dI [LM 23 3,LM 24 5,LO 25 (.lit [(.slice none 0 0)] 1 [(0,(LT 24))]),LO 26 (.app 1 24 (LT 23) (LT 25)),LM 3 26])))) (.dI [LM 11 4,LO 12 (.bin .add (LT 11) (LI 1)),LM 4 12])))
def Dd:aD:=(LS [LO 2 (.mv (.const (.slice none 0 0)))] (LS [LO 7 (.lit [(.slice none 0 0)] 0 []),LM 3 7] (.seq (LS [LO 4 (.mv (LI 0))] (.block 0 (.loop uM))) (LS [LM 27 3,LM 2 27] .ret))))
def Fs:aT:=⟨28,[(.tmp 2)],Dd⟩
theorem KR:fM 76=some Fs:=by kernel_rfl
def C7:aD:=(LS [LO 2 (.new [(.slice none 0 0)]),LO 3 (.mv LF)] (LS [LM 7 0,LO 8 (.build [(.slice none 0 0)] [(0,1)] [(0,(LT 7))]),LO 4 (.new [(.slice none 0 0)]),LN (.store 1 (LT 4) (LT 8))] (LS [LO 10 (.call 138 [(LT 4)]),LM 9 10,LO 11 (LX 9 0),LO 12 (LX 9 1),LO 5 (.new [(.slice none 0 0)]),LN (.store 1 (LT 5) (LT 11)),LM 6 12] (.seq (LS [LM 13 6,LO 14 (.un .not (LT 13))] (.cond (LT 14) (LS [LO 15 (.build [(.slice none 0 0)] [(0,1)] []),LN (.store 1 (LT 2) (LT 15)),LO 3 (.mv LF)] .ret) .skip)) (LS [LO 16 (.load true 1 (LT 5)),LN (.store 1 (LT 2) (LT 16)),LO 3 (.mv LG)] .ret)))))
def FN:aT:=⟨17,[(.cell 2 true 1),(.tmp 3)],C7⟩
theorem KN:fM 61=some FN:=by kernel_rfl
def eH:aD:=(LS [LO 2 (.new [(.slice none 0 0),(.slice none 0 0)]),LO 3 (.mv LF)] (.seq (LS [LM 8 0,LO 9 (.chk (LT 8)),LO 10 (LA 0 9),LO 11 (LL 10),LO 12 (.len (LT 11)),LO 13 (.bin .lss (LT 12) (LI 1)),LM 14 13,LZ 14 15 (.mv (LT 0)),LZ 14 16 (.chk (LT 15)),LZ 14 17 (LA 0 16),LZ 14 18 (LL 17),LZ 14 19 (.len (LT 18)),LZ 14 20 (.bin .gtr (LT 19) (LI 20)),LO 21 (.pick (LT 14) LG (LT 20)),LM 22 21,LZ 22 23 (.mv (LT 0)),LZ 22 24 (.chk (LT 23)),LZ 22 25 (LA 1 24),LZ 22 26 (LL 25),LZ 22 27 (.len (LT 26)),LZ 22 28 (.mv (LT 0)),LZ 22 29 (.chk (LT 28)),LZ 22 30 (LA 0 29),LZ 22 31 (LL 30),LZ 22 32 (.len (LT 31)),LZ 22 33 (.bin .neq (LT 27) (LT 32)),LO 34 (.pick (LT 22) LG (LT 33))] (.cond (LT 34) (LS [LO 35 (.build [(.slice none 0 0),(.slice none 0 0)] [(0,1),(1,1)] []),LN (.store 2 (LT 2) (LT 35)),LO 3 (.mv LF)] .ret) .skip)) (LS [LM 37 0,LO 38 (.chk (LT 37)),LO 39 (LA 0 38),LO 40 (LL 39),LO 41 (.call 57 [(LT 40)]),LM 36 41,LO 42 (LX 36 0),LO 43 (LX 36 1),LM 4 42,LM 5 43] (LS [LM 45 0,LO 46 (.chk (LT 45)),LO 47 (LA 1 46),LO 48 (LL 47),LO 49 (.call 57 [(LT 48)]),LM 44 49,LO 50 (LX 44 0),LO 51 (LX 44 1),LM 6 50,LM 7 51] (.seq (LS [LM 52 5,LO 53 (.un .not (LT 52)),LM 54 53,LZ 54 55 (.mv (LT 7)),LZ 54 56 (.un .not (LT 55)),LO 57 (.pick (LT 54) LG (LT 56)),LM 58 57,LZ 58 59 (.mv (LT 4)),LZ 58 60 (.call 151 [(LT 59)]),LZ 58 61 (.un .not (LT 60)),LO 62 (.pick (LT 58) LG (LT 61)),LM 63 62,LZ 63 64 (.mv (LT 6)),LZ 63 65 (.call 151 [(LT 64)]),LZ 63 66 (.un .not (LT 65)),LO 67 (.pick (LT 63) LG (LT 66))] (.cond (LT 67) (LS [LO 68 (.build [(.slice none 0 0),(.slice none 0 0)] [(0,1),(1,1)] []),LN (.store 2 (LT 2) (LT 68)),LO 3 (.mv LF)] .ret) .skip)) (LS [LM 69 4,LM 70 6,LO 71 (.build [(.slice none 0 0),(.slice none 0 0)] [(0,1),(1,1)] [(0,(LT 69)),(1,(LT 70))]),LN (.store 2 (LT 2) (LT 71)),LO 3 (.mv LG)] .ret))))))
def gE:aT:=⟨72,[(.cell 2 true 2),(.tmp 3)],eH⟩
theorem KA:fM 75=some gE:=by kernel_rfl
def nH:aD:=(LS [LO 4 (.new [(.bool false),(.slice none 0 0),(.slice none 0 0)]),LO 5 (.new [(.bool false),(.slice none 0 0),(.slice none 0 0)])] (LS [LO 8 (.call 77 []),LO 6 (.new [(.bool false),(.slice none 0 0),(.slice none 0 0)]),LN (.store 3 (LT 6) (LT 8))] (LS [LO 9 (.call 77 []),LO 7 (.new [(.bool false),(.slice none 0 0),(.slice none 0 0)]),LN (.store 3 (LT 7) (LT 9))] (.seq (LS [LM 10 1,LM 11 0,LO 12 (.chk (LT 11)),LO 13 (LA 0 12),LO 14 (LL 13),LO 15 (.len (LT 14)),LO 16 (.bin .lss (LT 10) (LT 15))] (.cond (LT 16) (.dI [LM 17 0,LO 18 (.chk (LT 17)),LO 19 (LA 0 18),LO 20 (LL 19),LM 21 1,LO 22 (.iaddr 3 (LT 20) (LT 21)),LO 23 (LK 22),LN (.store 3 (LT 6) (LT 23))]) .skip)) (.seq (LS [LM 24 1,LO 25 (.bin .gtr (LT 24) (LI 0))] (.cond (LT 25) (.dI [LM 26 0,LO 27 (.chk (LT 26)),LO 28 (LA 1 27),LO 29 (LL 28),LM 30 1,LO 31 (.bin .sub (LT 30) (LI 1)),LO 32 (.iaddr 3 (LT 29) (LT 31)),LO 33 (LK 32),LN (.store 3 (LT 7) (LT 33))]) .skip)) (LS [LO 34 (LK 6),LO 35 (LK 7),⟨none,(.store 3 (LT 4) (LT 34)),none,false,[((LT 7),(LT 4))]⟩,LN (.store 3 (LT 5) (LT 35))] .ret))))))
def qU:aT:=⟨36,[(.cell 4 true 3),(.cell 5 true 3)],nH⟩
theorem KC:fM 78=some qU:=by kernel_rfl
def mB:aD:=(.seq (LS [LM 4 3,LM 5 0,LO 6 (.len (LT 5)),LO 7 (.bin .lss (LT 4) (LT 6))] (.cond (LT 7) .skip (.exit 0))) (.seq (.block 1 (LS [LM 10 0,LM 11 3,LO 12 (.iaddr 3 (LT 10) (LT 11)),LO 13 (LK 12),LO 14 (.call 59 [(LT 13)]),LM 15 14,LZ 15 16 (.mv (LT 0)),LZ 15 17 (.mv (LT 3)),LZ 15 18 (.iaddr 3 (LT 16) (LT 17)),LZ 15 19 (LK 18),LZ 15 20 (.call 111 [(LT 19)]),LO 21 (.pick (LT 15) LG (LT 20))] (.cond (LT 21) (LS [LO 2 (.mv LF)] .ret) .skip))) (.dI [LM 8 3,LO 9 (.bin .add (LT 8) (LI 1)),LM 3 9])))
def CS:aD:=(LS [LO 2 (.mv LF)] (.seq (LS [LO 3 (.mv (LI 0))] (.block 0 (.loop mB))) (LS [LO 2 (.mv LG)] .ret)))
def FG:aT:=⟨22,[(.tmp 2)],CS⟩
theorem Ku:fM 151=some FG:=by kernel_rfl
end Go.PM
namespace Go.PM
end Go.PM
namespace Go.PM
open Go.Lib
theorem apZ {b g j o e:Nat} {H:aA} {es:List VV} {w:Bool} {x x':VV} (h:aF H b g=some (es,e,w)) (hx:es[j]? = some x) (hf:PM.fz 7 H x=some x'):PM.fz depth H (.ptr b g j o)=some (x'.cT o):=by
 show PM.fz (7+1) H _=_
 unfold PM.fz
 have:aY (.ptr b g j o)=false:=rfl
 simp[this,h,hx,hf]
end Go.PM
namespace Go.PM
open Go.Lib
set_option maxHeartbeats 1000000 in
theorem HV (qs:List Rat) (hn:qs.length≤1000000) (hb:∀q∈qs,bP q≤1099511627776):FC 181 [aK aH qs] (YZ (Z4 sV 1 (C8 qs)) (C8 qs).isSome):=by
 refine FC.J5 ⟨true,false⟩ HC (Nat.le_of_ble_eq_true rfl) fun n => ?_
 have e0:∀K,lG false [.string ⟨#[]⟩] 0 [] K=some (.ref K.length 0 0 0 0,K++[.row 0 [] 1 true]):=fun K=>jH rfl
 simp only[C5,AP,e0,List.length_replicate,gB,VX,Nat.reduceEqDiff,Nat.reduceAdd,Nat.reduceLeDiff,Nat.reduceLT,Nat.reduceSub]
 refine aU (fun(i:Nat) ρ H=>i≤qs.length∧(∀q∈qs.take i,wX q=true)∧H=List.replicate n bT.dead++[bT.row i (((qs.take i).map KV).map sV) 1 true]∧ρ 4 = .ref n i 0 i i∧ρ 0=aK aH qs∧ρ 10=VI qs.length∧ρ 11=VI i) (fun i=>qs.length-i) 0 ⟨Nat.zero_le _,by simp,rfl,rfl,rfl,rfl,rfl⟩ ?_
 rintro i ρ H ⟨hi,rP,rfl,g4,g0,g10,g11⟩
 have nD:aF (List.replicate n bT.dead++[bT.row i (((qs.take i).map KV).map sV) 1 true]) n i=some (((qs.take i).map KV).map sV,1,true):=by rw[vL,aQ]
 by_cases cS:(i:Int)<(qs.length:Int)
 ·obtain⟨q,hq⟩:∃q,qs[i]? = some q:=⟨_,List.getElem?_eq_getElem (by omega)⟩
  have hqm:=List.mem_of_getElem? hq
  have a1:=fun H=>aJ (f:=aH) (t := .op) (H:=H) (size:=3) (k := .i64) hq rfl
  have wi:IntKind.i64.wrap ((i:Int)+1)=((i+1:Nat):Int):=wrapN (i+1) (by omega) (by omega)
  have e2:=M9 q (hb q hqm)
  unfold Td at e2
  cases hf:wX q with
  |
   false =>
   rw[if_neg (by simp[hf])] at e2
   rw[TZ hqm hf]
   simp only[mJ,g4,g0,g10,g11,cS,a1,e2,iM,gB,VX,Nat.reduceEqDiff,Nat.reduceAdd,Nat.reduceLeDiff,Nat.reduceLT,Nat.reduceSub]
   exact⟨_,Bj (by simp),rfl,Bt,.tree [] .nil,rfl,rfl⟩
  |
   true =>
   rw[if_pos hf] at e2
   have eL:∀H,lG false [.string ⟨#[]⟩] 1 [(0,bC (FV q))] H=some (.tree [sV (KV q)] (.cl 1),H):=fun H=>gW rfl rfl rfl
   have eS:∀H,cW 1 (.tree [sV (KV q)] (.cl 1)) H=some [sV (KV q)]:=fun H=>dZ rfl rfl
   have eP:dW n 1 16 (.ref n i 0 i i) [sV (KV q)] (List.replicate n bT.dead++[bT.row i (((qs.take i).map KV).map sV) 1 true])=some (.ref n (i+1) 0 (i+1) (i+1),List.replicate n bT.dead++[bT.row (i+1) (((qs.take (i+1)).map KV).map sV) 1 true]):=by
    rw[gS (f:=sV) (xs:=(qs.take i).map KV) nD (by simp;omega) (Nat.le_refl _) (by decide) (by decide) (by omega),iD hq]
    simp only[List.map_append,A7]
    rfl
   simp only[mJ,g4,g0,g10,g11,cS,a1,e2,eL,eS,eP,wi,iM,gB,VX,Nat.reduceEqDiff,Nat.reduceAdd,Nat.reduceLeDiff,Nat.reduceLT,Nat.reduceSub]
   refine⟨i+1,by omega,by omega,fun p hp => ?_,by (repeat' apply And.intro)<;>first | rfl | trivial | assumption⟩
   rw[iD hq] at hp
   rcases List.mem_append.1 hp with h | h
   ·exact rP p h
   ·rw[List.mem_singleton] at h;subst h;exact hf
 ·have mT:i=qs.length:=by omega
  subst mT
  rw[List.take_length] at rP nD
  rw[OH rP]
  simp only[mJ,g4,g10,g11,cS,List.take_length,gB,VX,Nat.reduceEqDiff,Nat.reduceAdd,Nat.reduceLeDiff,Nat.reduceLT,Nat.reduceSub]
  refine⟨_,⟨rfl,fun _ _ _ _ _ h=>h⟩,by simp[eG,nY,lF],by simp only[dS,List.all_cons,List.all_nil,Bool.and_true];exact Ib (fun _=>rfl) _,.ref n qs.length 0 qs.length qs.length,rfl,⟨n,qs.length,qs.length,Nat.le_refl _,by simp,by simp,by simp,nD⟩⟩
set_option maxHeartbeats 2000000 in
theorem NJ (m:List (List Rat)) (hn:m.length≤1000000) (hb:∀r∈m,r.length≤1000000∧∀q∈r,bP q≤1099511627776):FC 138 [(N0 (aK (aK aH) m)).cT 0] (YZ (CG ((wY m).getD [])) (wY m).isSome):=by
 refine FC.J5 ⟨true,false⟩ MQ (Nat.le_of_ble_eq_true rfl) fun n => ?_
 have s0:bI n 1 (.ptr (n+1) 0 0 0) (.agg [.tree [] .nil]) (List.replicate n bT.dead++[bT.row 0 [.tree [] .nil] 1 true,.row 0 [.tree [] .nil] 1 true])=some (List.replicate n bT.dead++[bT.row 0 [.tree [] .nil] 1 true,.row 0 [.agg [.tree [] .nil]] 1 true]):=by
  rw[bO (e:=1) (g:=0) (j:=0) (by rw[rG,iY,aQ]) (by exact Nat.zero_lt_one) (by omega) rfl rfl,IA]
  rfl
 simp only[G0,D9,s0,XY,Db,List.length_replicate,List.length_cons,List.length_nil,List.append_assoc,List.cons_append,List.nil_append,fQ,gB,VX,Nat.reduceEqDiff,Nat.reduceAdd,Nat.reduceLeDiff,Nat.reduceLT,Nat.reduceSub]
 refine aU (fun(i:Nat) ρ H=>i≤m.length∧Ce n H∧(∃x v bK,aF H n 0=some ([.tree [] .nil],1,true)∧aF H (n+1) 0=some ([x],1,true)∧aB x=[v]∧wY (m.take i)=some bK∧Qa sV 1 bK (n+2) H.length H v)∧ρ 2 = .ptr n 0 0 0∧ρ 4 = .ptr (n+1) 0 0 0∧ρ 0=(N0 (aK (aK aH) m)).cT 0∧ρ 13=VI m.length∧ρ 14=VI i) (fun i=>m.length-i) 0
  ⟨Nat.zero_le _,⟨[.row 0 [.tree [] .nil] 1 true,.row 0 [.agg [.tree [] .nil]] 1 true],rfl,rfl⟩,⟨.agg [.tree [] .nil],.tree [] .nil,[],by rw[vL,aQ],by rw[rG,iY,aQ],rfl,rfl,.inl ⟨rfl,rfl⟩⟩,rfl,rfl,rfl,rfl,rfl⟩ ?_
 rintro i ρ H ⟨hi,hO,⟨x,v,bK,qQ,KH,hx,HS,hv⟩,g2,g4,g0,g13,g14⟩
 have xR:=fE KH
 by_cases cS:(i:Int)<(m.length:Int)
 ·obtain⟨r,hr⟩:∃r,m[i]? = some r:=⟨_,List.getElem?_eq_getElem (by omega)⟩
  have Hl:=hb r (List.mem_of_getElem? hr)
  have a1:=fun H=>aJ (f:=aK aH) (t := .op) (H:=H) (size:=1) (k := .i64) hr rfl
  have wi:IntKind.i64.wrap ((i:Int)+1)=((i+1:Nat):Int):=wrapN (i+1) (by omega) (by omega)
  simp only[wH,g2,g4,g0,g13,g14,cS,a1,XY,gB,VX,Nat.reduceEqDiff,Nat.reduceAdd,Nat.reduceLeDiff,Nat.reduceLT,Nat.reduceSub]
  refine P5 (n:=n) (HV r Hl.1 Hl.2) rfl (Y8 (aL (zT _))) hO Z4.cG fun u H2 p2 hO2 _ hu => ?_
  cases ht:C8 r with
  |
   none =>
   rw[ht] at hu
   have hu:u = .tree [] .nil:=hu
   subst hu
   have YB:wY m=none:=mapM_none ht (List.mem_of_getElem? hr)
   rw[YB]
   have s1:bI n 1 (.ptr n 0 0 0) (.agg [.tree [] .nil]) H2=some (H2.set n (.row 0 [.agg [.tree [] .nil]] 1 true)):=by
    rw[bO (cA p2 qQ) (by exact Nat.zero_lt_one) (Nat.le_refl _) rfl rfl]
    rfl
   have s2:bX true 1 (.ptr n 0 0 0) (H2.set n (.row 0 [.agg [.tree [] .nil]] 1 true))=some (.agg [.tree [] .nil]):=by
    rw[bM,cJ (cA p2 qQ)]
    rfl
   simp only[g2,g4,s1,s2,Option.isSome_none,gB,VX,Nat.reduceEqDiff,Nat.reduceAdd,Nat.reduceLeDiff,Nat.reduceLT,Nat.reduceSub]
   exact⟨_,Bj (by rw[List.length_set];have:=p2.length_le;omega),rfl,Bt,.agg [.tree [] .nil],rfl,_,rfl,.inl ⟨rfl,rfl⟩⟩
  |
   some ys =>
   rw[ht] at hu
   obtain⟨b,g,c,k1,k2,rfl,k3,k4⟩:=hu
   have eL:∀K,lG false [.slice none 0 0] 1 [(0,.ref b g 0 ys.length c)] K=some (.tree [.ref b g 0 ys.length c] (.cl 1),K):=fun K=>gW rfl rfl rfl
   have eS:∀K,cW 1 (.tree [.ref b g 0 ys.length c] (.cl 1)) K=some [.ref b g 0 ys.length c]:=fun K=>dZ rfl rfl
   obtain⟨v',H3,ap,UT,cG,hlen,Oh,Ak,_⟩:=(hv.cG (dD.pre p2)).snoc (kE:=n) (by omega) (by rw[rA HS,List.length_take];omega) ⟨b,g,c,ys⟩ k1 (by simp only;omega) k3 k4
   have VM:=cG _ _ _ (by omega) (cA p2 KH)
   have l1:bX false 1 (.ptr (n+1) 0 0 0) H2=some v:=by
    rw[bM,cA p2 KH]
    simp[dF,hx]
   have l2:aF H2 (n+1) 0=some ([x],1,true):=cA p2 KH
   have wF:=UT.fZ
   have s1:bI n 1 (.ptr (n+1) 0 0 0) v' H3=some (H3.set (n+1) (.row 0 [v'] 1 true)):=by
    rw[bO VM (by exact Nat.zero_lt_one) (by omega) (by rw[wF.2.1];rfl) (by rw[wF.2.1];simp[wF.1])]
    rfl
   have hO3:=(Oh n (by omega) hO2).set (b:=n+1) (g:=0) (e:=1) (es:=[v']) (w:=true) (by omega) (by
    rcases UT with⟨rfl,_⟩ | ⟨b',g',WH,q1,q2,rfl,_⟩
    ·rfl
    ·simp[nY,eG];omega)
   simp only[g4,g14,wi,eL,eS,l1,ap,s1,VM,l2,sB,Nat.add_zero,Option.isSome_some,gB,VX,Nat.reduceEqDiff,Nat.reduceAdd,Nat.reduceLeDiff,Nat.reduceLT,Nat.reduceSub]
   refine⟨i+1,by omega,by omega,hO3,⟨v',v',bK++[ys],bF (by omega) (cG _ _ _ (by omega) (cA p2 qQ)),cJ VM,wF.2.1,?_,?_⟩,by (repeat' apply And.intro)<;>first | rfl | trivial | assumption⟩
   ·rw[iD hr]
    exact E4 HS ht
   ·rw[List.length_set]
    exact UT.cG (dD.set (by omega))
 ·have mT:i=m.length:=by omega
  subst mT
  rw[List.take_length] at HS
  rw[HS]
  have wF:=hv.fZ
  have l1:bX true 1 (.ptr (n+1) 0 0 0) H=some (.agg [v]):=by
   rw[bM,KH]
   simp[dF,hx]
  have s1:bI n 1 (.ptr n 0 0 0) (.agg [v]) H=some (H.set n (.row 0 [.agg [v]] 1 true)):=by
   rw[bO qQ (by exact Nat.zero_lt_one) (Nat.le_refl _) rfl (by simp[aB,wF.1])]
   rfl
  have s2:bX true 1 (.ptr n 0 0 0) (H.set n (.row 0 [.agg [v]] 1 true))=some (.agg [v]):=by
   rw[bM,cJ qQ]
   rfl
  simp only[wH,g2,g4,g13,g14,cS,l1,s1,s2,Option.isSome_some,gB,VX,Nat.reduceEqDiff,Nat.reduceAdd,Nat.reduceLeDiff,Nat.reduceLT,Nat.reduceSub]
  have Oh:eG n v=true:=by
   rcases hv with⟨rfl,_⟩ | ⟨b',g',WH,q1,q2,rfl,_⟩
   ·rfl
   ·simp[eG];omega
  obtain⟨L,rfl,hL⟩:=hO
  refine⟨L.set 0 (.row 0 [.agg [v]] 1 true),⟨by simp,fun _ _ _ _ _ h=>by rw[A7];exact h⟩,by simp[eG,nY,Oh,lF],?_,.agg [v],rfl,v,rfl,?_⟩
  ·have:=(Ce.set (n:=n) (b:=n) (g:=0) (e:=1) (es:=[.agg [v]]) (w:=true) ⟨L,rfl,hL⟩ (Nat.le_refl _) (by simp[nY,eG,Oh]))
   rw[A7] at this
   obtain⟨L',h1,h2⟩:=this
   rw[List.append_cancel_left h1]
   exact h2
  ·rw[←A7,List.length_set]
   have:=hv.rg.cG (H':=(List.replicate n bT.dead++L).set n (.row 0 [.agg [v]] 1 true)) (dD.set (by omega))
   rw[Db] at this
   exact this.wide (by omega) (Nat.le_refl _)
set_option maxHeartbeats 1000000 in
theorem KK (m:List (List Rat)) (hn:m.length≤1000000) (hb:∀r∈m,r.length≤1000000∧∀q∈r,bP q≤1099511627776):FC 61 [aK (aK aH) m] (YZ (CG ((wY m).getD [])) (wY m).isSome):=by
 refine FC.J5 ⟨true,false⟩ KN (Nat.le_of_ble_eq_true rfl) fun n => ?_
 have s0:bI n 1 (.ptr (n+1) 0 0 0) (.agg [aK (aK aH) m]) (List.replicate n bT.dead++[bT.row 0 [.tree [] .nil] 1 true,.row 0 [.tree [] .nil] 1 true])=some (List.replicate n bT.dead++[bT.row 0 [.tree [] .nil] 1 true,.row 0 [N0 (aK (aK aH) m)] 1 true]):=by
  rw[bO (e:=1) (g:=0) (j:=0) (by rw[rG,iY,aQ]) (by exact Nat.zero_lt_one) (by omega) rfl rfl,IA]
  rfl
 have hf:PM.fz depth (List.replicate n bT.dead++[bT.row 0 [.tree [] .nil] 1 true,.row 0 [N0 (aK (aK aH) m)] 1 true]) (.ptr (n+1) 0 0 0)=some ((N0 (aK (aK aH) m)).cT 0):=apZ (es:=[N0 (aK (aK aH) m)]) (e:=1) (w:=true) (by rw[rG,iY,aQ]) rfl (aM (abU (Yo _)))
 simp only[FN,C7,s0,Db,List.length_replicate,List.length_cons,List.length_nil,List.append_assoc,List.cons_append,List.nil_append,fQ,gB,VX,Nat.reduceEqDiff,Nat.reduceAdd,Nat.reduceLeDiff,Nat.reduceLT,Nat.reduceSub]
 refine(NJ m hn hb).TP rfl (Y8 hf) ?_
 rintro r L ⟨v,rfl,hv⟩ hr hL
 have hv:=hv.cG dD.move
 have hlen:(List.replicate n bT.dead++[bT.row 0 [.tree [] .nil] 1 true,.row 0 [N0 (aK (aK aH) m)] 1 true]).length=n+2:=by simp
 rw[hlen] at hv
 obtain⟨c,rfl,hc1,hc2,hc3⟩:=hv.own (n:=n) (by omega)
 have hT:zM n (n+2) (List.replicate n bT.dead++[bT.row 0 [.tree [] .nil] 1 true,.row 0 [N0 (aK (aK aH) m)] 1 true]++L):=by
  refine zM.app (fun b g es e w hb hr => ?_) (by simp) hL
  rw[List.getElem?_eq_none (by rw[hlen];exact hb)] at hr
  cases hr
 generalize hH:List.replicate n bT.dead++[bT.row 0 [.tree [] .nil] 1 true,.row 0 [N0 (aK (aK aH) m)] 1 true]++L=H2 at *
 have qQ:aF H2 n 0=some ([.tree [] .nil],1,true):=by rw[←hH,List.append_assoc,vL,List.cons_append,aQ]
 have Dq:n+2≤H2.length:=by rw[←hH];simp
 have hll:n+2+L.length=H2.length:=by rw[←hH];simp;omega
 rw[hll] at hv
 have s1:bI n 1 (.ptr H2.length 0 0 0) (.agg [c]) (H2++[bT.row 0 [.tree [] .nil] 1 true])=some (H2++[bT.row 0 [.agg [c]] 1 true]):=by
  rw[bO (e:=1) (g:=0) (j:=0) fW (by exact Nat.zero_lt_one) (by omega) rfl (by simp[aB,hc1]),D2]
  rfl
 cases ht:wY m with
 |
  none =>
  have s2:bI n 1 (.ptr n 0 0 0) (.agg [.tree [] .nil]) (H2++[bT.row 0 [.agg [c]] 1 true])=some ((H2++[bT.row 0 [.agg [c]] 1 true]).set n (.row 0 [.agg [.tree [] .nil]] 1 true)):=by
   rw[bO (bN qQ) (by exact Nat.zero_lt_one) (Nat.le_refl _) rfl rfl]
   rfl
  have s3:bX true 1 (.ptr n 0 0 0) ((H2++[bT.row 0 [.agg [c]] 1 true]).set n (.row 0 [.agg [.tree [] .nil]] 1 true))=some (.agg [.tree [] .nil]):=by
   rw[bM,cJ (bN qQ)]
   rfl
  simp only[s1,s2,s3,Option.isSome_none,fQ,gB,VX,Nat.reduceEqDiff,Nat.reduceAdd,Nat.reduceLeDiff,Nat.reduceLT,Nat.reduceSub]
  exact⟨_,Bj (by rw[List.length_set,List.length_append];omega),rfl,Bt,.agg [.tree [] .nil],rfl,_,rfl,.inl ⟨rfl,rfl⟩⟩
 |
  some bK =>
  rw[ht] at hv
  have l1:bX true 1 (.ptr H2.length 0 0 0) (H2++[bT.row 0 [.agg [c]] 1 true])=some (.agg [c]):=by
   rw[bM,fW]
   rfl
  have s2:bI n 1 (.ptr n 0 0 0) (.agg [c]) (H2++[bT.row 0 [.agg [c]] 1 true])=some ((H2++[bT.row 0 [.agg [c]] 1 true]).set n (.row 0 [.agg [c]] 1 true)):=by
   rw[bO (bN qQ) (by exact Nat.zero_lt_one) (Nat.le_refl _) rfl (by simp[aB,hc1])]
   rfl
  have s3:bX true 1 (.ptr n 0 0 0) ((H2++[bT.row 0 [.agg [c]] 1 true]).set n (.row 0 [.agg [c]] 1 true))=some (.agg [c]):=by
   rw[bM,cJ (bN qQ)]
   rfl
  simp only[s1,s2,s3,l1,Option.isSome_some,fQ,gB,VX,Nat.reduceEqDiff,Nat.reduceAdd,Nat.reduceLeDiff,Nat.reduceLT,Nat.reduceSub]
  have hT2:zM n (n+2) ((H2++[bT.row 0 [.agg [c]] 1 true]).set n (.row 0 [.agg [c]] 1 true)):=zM.set (zM.asD hT (by simp[dS,nY,eG,hc3])) (by omega)
  obtain⟨L2,k1,k2,k3⟩:=NK (n:=n) (k:=n+2) (by omega) (by rw[List.length_set,List.length_append];omega) hT2
  refine⟨L2,k1,by simp[eG,nY,hc3,lF],k2,.agg [c],rfl,?_⟩
  obtain⟨c',VE,hv⟩:=hv
  cases VE
  have hl3:=k1.1
  rw[List.length_set,List.length_append,List.length_append,List.length_replicate] at hl3
  simp only[Option.getD_some] at hv
  exact⟨c,rfl,(hv.cG (H':=List.replicate n bT.dead++L2) fun b g x h1 h2 h3=>k3 b g x (by omega) (bF (by omega) (bN h3))).wide (by omega) (by simp only[List.length_cons,List.length_nil] at hl3;omega)⟩
end Go.PM
namespace Go.PM
end Go.PM
namespace Go.PM
open Go.Lib
set_option maxHeartbeats 1000000 in
theorem Kw {lo:Nat} {H:aA} (N:Nat) (hN:N≤1000) (dP:lo≤H.length):jC 76 [VI N] lo H (L5 (TabIs aH 3 (List.replicate N (List.replicate N (0:Rat)))) H):=by
 refine jC.walk ⟨true,false⟩ KR (Nat.le_of_ble_eq_true rfl) ?_
 have e0:∀K,lG false [.slice none 0 0] 0 [] K=some (.ref K.length 0 0 0 0,K++[.row 0 [] 1 true]):=fun K=>jH rfl
 have e0':∀K,lG false [.bool false,.slice none 0 0,.slice none 0 0] 0 [] K=some (.ref K.length 0 0 0 0,K++[.row 0 [] 3 true]):=fun K=>jH rfl
 have e1:=Ac
 have eL:∀H,lG false [.bool false,.slice none 0 0,.slice none 0 0] 1 [(0,aH 0)] H=some (.tree [aH 0] (.cl 3),H):=fun H=>gW rfl rfl rfl
 have eS:∀H,cW 3 (.tree [aH 0] (.cl 3)) H=some [aH 0]:=fun H=>dZ rfl rfl
 simp only[Fs,Dd,e0,gB,VX,Nat.reduceEqDiff,Nat.reduceAdd,Nat.reduceLeDiff,Nat.reduceLT,Nat.reduceSub]
 refine aU (fun(i:Nat) ρ H1=>i≤N∧H <+: H1∧(∃rs,rs.length=i∧rs.map (·.xs)=List.replicate i (List.replicate N (0:Rat))∧MG aH 3 H.length H1.length H.length i H1 rs)∧ρ 0=VI N∧ρ 3 = .ref H.length i 0 i i∧ρ 4=VI i) (fun i=>N-i) 0
  ⟨Nat.zero_le _,List.prefix_append _ _,⟨[],rfl,rfl,fW,Nat.le_refl _,by simp,by simp,by simp⟩,rfl,rfl,rfl⟩ ?_
 rintro i ρ H1 ⟨hi,hp,⟨rs,B2,Uo,hM⟩,g0,g3,g4⟩
 by_cases cS:(i:Int)<(N:Int)
 ·have wi:IntKind.i64.wrap ((i:Int)+1)=((i+1:Nat):Int):=wrapN (i+1) (by omega) (by omega)
  simp only[uM,g0,g3,g4,cS,e0',gB,VX,Nat.reduceEqDiff,Nat.reduceAdd,Nat.reduceLeDiff,Nat.reduceLT,Nat.reduceSub]
  have xR:=hp.length_le
  refine aU (fun(k:Nat) ρ H2=>k≤N∧H1 <+: H2∧aF H2 H1.length k=some ((List.replicate k (0:Rat)).map aH,3,true)∧ρ 0=VI N∧ρ 3 = .ref H.length i 0 i i∧ρ 4=VI i∧ρ 5 = .ref H1.length k 0 k k∧ρ 6=VI k) (fun k=>N-k) 0 ⟨Nat.zero_le _,List.prefix_append _ _,fW,g0,g3,g4,rfl,rfl⟩ ?_
  clear g0 g3 g4
  rintro k ρ H2 ⟨hk,Uz,nD,g0,g3,g4,g5,g6⟩
  by_cases hkn:(k:Int)<(N:Int)
  ·have wk:IntKind.i64.wrap ((k:Int)+1)=((k+1:Nat):Int):=wrapN (k+1) (by omega) (by omega)
   have eP:=Ul (lo:=lo) (bytes:=56) (x:=(0:Rat)) nD (by simp) (by omega) (by decide) (by decide) (by omega)
   simp only[uG,g0,g5,g6,hkn,e1,eL,eS,eP,wk,gB,VX,Nat.reduceEqDiff,Nat.reduceAdd,Nat.reduceLeDiff,Nat.reduceLT,Nat.reduceSub]
   exact⟨k+1,by omega,by omega,vW Uz (Nat.le_refl _),by rw[List.replicate_succ'];exact cJ nD,by (repeat' apply And.intro)<;>first | rfl | trivial | assumption⟩
  ·have hke:k=N:=by omega
   subst hke
   have hA:Qa aH 3 (List.replicate i (List.replicate k (0:Rat))) H.length H1.length H2 (.ref H.length i 0 i i) := .inr ⟨H.length,i,rs,Nat.le_refl _,hM.bhi,by simp,cA Uz hM.out,Uo,(hM.pre Uz).rows⟩
   have Dq:=fE nD
   obtain⟨v',H3,ap,UT,cG,hlen,Oh,Ak,_⟩:=hA.snoc (kE:=lo) dP (by simp;omega) ⟨H1.length,k,k,List.replicate k 0⟩ (Nat.le_refl _) xR (by simp) nD
   rw[List.length_replicate] at ap
   have eL2:∀K,lG false [.slice none 0 0] 1 [(0,.ref H1.length k 0 k k)] K=some (.tree [.ref H1.length k 0 k k] (.cl 1),K):=fun K=>gW rfl rfl rfl
   have eS2:∀K,cW 1 (.tree [.ref H1.length k 0 k k] (.cl 1)) K=some [.ref H1.length k 0 k k]:=fun K=>dZ rfl rfl
   simp only[uG,g0,g3,g4,g5,g6,hkn,eL2,eS2,ap,wi,gB,VX,Nat.reduceEqDiff,Nat.reduceAdd,Nat.reduceLeDiff,Nat.reduceLT,Nat.reduceSub]
   rw[←List.replicate_succ'] at UT
   rcases UT with⟨_,h⟩ | ⟨b,g,WH,k1,k2,rfl,k3,k4,k5⟩
   ·simp at h
   ·have sU:=Ul (f:=nL) (lo:=lo) (bytes:=24) (x:=⟨H1.length,k,k,List.replicate k (0:Rat)⟩) (cA Uz hM.out) B2.symm dP (by decide) (by decide) (by omega)
    simp only[nL,List.length_replicate] at sU
    rw[sU] at ap
    injection ap with ap
    injection ap with ap1 ap2
    injection ap1 with q1 q2 q3 q4 q5
    subst q1 q2
    refine⟨i+1,by omega,by omega,Ak H (Nat.le_refl _) (hp.trans Uz),⟨WH,by have:=congrArg List.length k4;simpa using this,k4,k3,Nat.le_refl _,k2,k5.nd,k5.row⟩,by (repeat' apply And.intro)<;>first | rfl | trivial | assumption | rw[List.length_replicate]⟩
 ·have mT:i=N:=by omega
  subst mT
  simp only[uM,g0,g3,g4,cS,gB,VX,Nat.reduceEqDiff,Nat.reduceAdd,Nat.reduceLeDiff,Nat.reduceLT,Nat.reduceSub]
  exact⟨hp,H.length,i,i,rs,by rw[List.length_replicate],by simp,hM,Uo⟩
theorem CX (qs:List Rat) (hn:qs.length≤1000000):TC 151 [aK aH qs] (VB (qs.all fun q=>decide (0<q))):=by
 refine TC.walk ⟨true,false⟩ Ku rfl (Nat.le_of_ble_eq_true rfl) (Gp (zT _)) rfl ?_
 simp only[FG,CS,gB,VX,Nat.reduceEqDiff,Nat.reduceAdd,Nat.reduceLeDiff,Nat.reduceLT,Nat.reduceSub]
 refine aU (fun(i:Nat) ρ H=>i≤qs.length∧(∀q∈qs.take i,0<q)∧H=[]∧ρ 0=aK aH qs∧ρ 3=VI i) (fun i=>qs.length-i) 0 ⟨Nat.zero_le _,by simp,rfl,rfl,rfl⟩ ?_
 rintro i ρ H ⟨hi,ht,rfl,g0,g3⟩
 by_cases cS:(i:Int)<(qs.length:Int)
 ·obtain⟨q,hq⟩:∃q,qs[i]? = some q:=⟨_,List.getElem?_eq_getElem (by omega)⟩
  have a1:=fun H=>aJ (f:=aH) (t := .op) (H:=H) (size:=3) (k := .i64) hq rfl
  have e1:=MN q
  have e2:=N6 q
  have wi:IntKind.i64.wrap ((i:Int)+1)=((i+1:Nat):Int):=wrapN (i+1) (by omega) (by omega)
  have YB:¬0<q→(qs.all fun q=>decide (0<q))=false:=fun h=>by
   cases ha:qs.all fun q=>decide (0<q) with
   | false=>rfl
   | true=>exact absurd (of_decide_eq_true (List.all_eq_true.1 ha q (List.mem_of_getElem? hq))) h
  by_cases hz:q=0
  ·rw[decide_eq_true hz] at e1
   rw[YB (by rw[hz];exact Rat.lt_irrefl)]
   simp only[mB,g0,g3,cS,a1,e1,iM,gB,VX,Nat.reduceEqDiff,Nat.reduceAdd,Nat.reduceLeDiff,Nat.reduceLT,Nat.reduceSub]
   exact aL rfl
  ·rw[decide_eq_false hz] at e1
   by_cases mX:q.num<0
   ·rw[decide_eq_true mX] at e2
    rw[YB (fun h=>by have:=WE.1 mX;grind)]
    simp only[mB,g0,g3,cS,a1,e1,e2,iM,gB,VX,Nat.reduceEqDiff,Nat.reduceAdd,Nat.reduceLeDiff,Nat.reduceLT,Nat.reduceSub]
    exact aL rfl
   ·rw[decide_eq_false mX] at e2
    simp only[mB,g0,g3,cS,a1,e1,e2,wi,iM,gB,VX,Nat.reduceEqDiff,Nat.reduceAdd,Nat.reduceLeDiff,Nat.reduceLT,Nat.reduceSub]
    refine⟨i+1,by omega,by omega,fun p hp => ?_,by (repeat' apply And.intro)<;>first | rfl | trivial | assumption⟩
    rw[iD hq] at hp
    rcases List.mem_append.1 hp with h | h
    ·exact ht p h
    ·rw[List.mem_singleton] at h
     subst h
     have:=mt WE.2 mX
     grind
 ·have mT:i=qs.length:=by omega
  subst mT
  rw[List.take_length] at ht
  have:(qs.all fun q=>decide (0<q))=true:=List.all_eq_true.2 fun q h=>decide_eq_true (ht q h)
  rw[this]
  simp only[mB,g0,g3,cS,gB,VX,Nat.reduceEqDiff,Nat.reduceAdd,Nat.reduceLeDiff,Nat.reduceLT,Nat.reduceSub]
  exact aL rfl
def SvS (s:K3) (lo hi:Nat) (H:aA) (v:VV):Prop:=(∃a b c,v = .agg [a,b,c]∧bY a=true∧bY b=true∧bY c=true∧∀n,n≤lo→eG n a=true∧eG n b=true∧eG n c=true)∧Hb (svV s) lo hi H v
theorem SvS.cG {s:K3}:∀ {lo hi H H' v},SvS s lo hi H v→dD lo hi H H'→SvS s lo hi H' v:=fun h hk=>⟨h.1,h.2.cG hk⟩
theorem SvS.wide {s:K3}:∀ {lo hi kE oQ:Nat} {H:aA} {v:VV},SvS s lo hi H v→kE≤lo→hi≤oQ→SvS s kE oQ H v:=fun h hl hh=>by
 obtain⟨⟨a,b,c,h1,h2,h3,h4,h5⟩,h6⟩:=h
 exact⟨⟨a,b,c,h1,h2,h3,h4,fun n hn=>h5 n (by omega)⟩,fun H' hk=>h6 H' (hk.sub hl hh)⟩
theorem SvS.ag {s:K3} {lo hi:Nat} {H:aA} {v:VV} (h:SvS s lo hi H v) (n:Nat) (hn:n≤lo):∃a b c,v = .agg [a,b,c]∧bY a=true∧bY b=true∧bY c=true∧eG n a=true∧eG n b=true∧eG n c=true:=by
 obtain⟨⟨a,b,c,h1,h2,h3,h4,h5⟩,_⟩:=h
 exact⟨a,b,c,h1,h2,h3,h4,h5 n hn⟩
end Go.PM
namespace Go.PM
open Go.Lib
theorem Zx {qs:List Rat} {x:List ByteArray} (h:C8 qs=some x):x.length=qs.length:=by
 unfold C8 at h
 split at h
 ·cases h
  rw[List.length_map]
 ·cases h
theorem Z4.own {α:Type} {f:α→VV} {e lo hi n:Nat} {H:aA} {v:VV} {o:Option (List α)} (h:Z4 f e o lo hi H v) (hn:n≤lo):eG n v=true:=by
 cases o with
 |
  none =>
  have h:v = .tree [] .nil:=h
  subst h
  rfl
 |
  some ys =>
  obtain⟨b,g,c,h1,h2,rfl,h3⟩:=h
  simp[eG];omega
theorem Qa.own {α:Type} {f:α→VV} {e lo hi n:Nat} {H:aA} {v:VV} {bK:List (List α)} (h:Qa f e bK lo hi H v) (hn:n≤lo):eG n v=true:=by
 rcases h with⟨rfl,_⟩ | ⟨b,g,rs,q1,q2,rfl,_⟩
 ·rfl
 ·simp[eG];omega
end Go.PM
namespace Go.PM
open Go.Lib
end Go.PM
namespace Go.PM
open Go.Lib
end Go.PM
namespace Go.PM
open Go.Lib
end Go.PM
namespace Go.PM
open Go.Lib
section
variable {b:List Rat} {g:List (List Rat)} {e row:List Rat} {n i:Nat} {st:List Bool}
end
end Go.PM
namespace Go.PM
open Go.Lib
end Go.PM
namespace Go.PM
theorem K6 (qs:List Rat):(qs.all fun q=>decide (0<q)) = !(qs.any fun q=>decide (q≤0)):=by
 induction qs with
 | nil=>rfl
 |
  cons q qs ih =>
  rw[List.all_cons,List.any_cons,ih]
  by_cases h:q≤0
  ·have h2:¬0<q:=Rat.not_lt.2 h
   rw[decide_eq_true h,decide_eq_false h2];rfl
  ·have h2:0<q:=Rat.not_le.1 h
   rw[decide_eq_false h,decide_eq_true h2];simp
def Kr (s:ES):VV:=match hJ s with
 | some x => .dR [.agg [aK aH x.1,aK aH x.2],VB true]
 | none => .dR [.agg [.tree [] .op,.tree [] .op],VB false]
theorem agT (s:ES):hC (Kr s)=true:=by
 unfold Kr
 split
 ·refine wC ?_ rfl
  show qD [aK aH _,aK aH _]=true
  simp only[qD,IE,Bool.and_self]
 ·exact wC (by decide) rfl
set_option maxHeartbeats 4000000 in
set_option maxRecDepth 20000 in
theorem KS (s:ES) (hu:∀x∈s.u,x.size≤1000000000) (hd:∀x∈s.d,x.size≤1000000000) (hn:s.u.length≤1000000000∧s.d.length≤1000000000):TC 75 [(A3 s).cT 0] (Kr s):=by
 refine TC.walk ⟨true,false⟩ KA rfl (Nat.le_of_ble_eq_true rfl) (Gp (show aY (A3 s)=true from Ny _)) (agT _) ?_
 have bad:hJ s=none→∀K,PM.fz depth K (.dR [.agg [.tree [] .nil,.tree [] .nil],VB false])=some (Kr s):=fun h K=>by
  have:Kr s = .dR [.agg [.tree [] .op,.tree [] .op],VB false]:=by unfold Kr;rw[h]
  rw[this]
  exact aeX
 have st:∀a b,bI 0 2 (.ptr 0 0 0 0) (.agg [.tree a .op,.tree b .op]) [.row 0 [.agg [.tree [] .nil,.tree [] .nil]] 2 true]=some [.row 0 [.agg [.tree a .op,.tree b .op]] 2 true]:=fun a b=>by
  rw[bO (e:=2) aQ (by exact Nat.zero_lt_one) (Nat.le_refl _) rfl rfl]
  rfl
 have Kv:bI 0 2 (.ptr 0 0 0 0) (.agg [.tree [] .nil,.tree [] .nil]) [.row 0 [.agg [.tree [] .nil,.tree [] .nil]] 2 true]=some [.row 0 [.agg [.tree [] .nil,.tree [] .nil]] 2 true]:=by
  rw[bO (e:=2) aQ (by exact Nat.zero_lt_one) (Nat.le_refl _) rfl rfl]
  rfl
 have ld:∀a b k,bX true 2 (.ptr 0 0 0 0) [.row 0 [.agg [.tree a k,.tree b k]] 2 true]=some (.agg [.tree a k,.tree b k]):=fun a b k=>by
  rw[bM,aQ]
  rfl
 by_cases h1:(s.u.length:Int)<1
 ·have bad:=bad (by unfold hJ;exact if_neg (by omega))
  simp only[gE,eH,A3,h1,Kv,ld,kA,List.getElem?_cons_zero,List.getElem?_cons_succ,Nat.zero_add,List.nil_append,List.length_nil,gB,VX,Nat.reduceEqDiff,Nat.reduceAdd,Nat.reduceLeDiff,Nat.reduceLT,Nat.reduceSub]
  exact bad _
 by_cases h6:(20:Int)<(s.u.length:Int)
 ·have bad:=bad (by unfold hJ;exact if_neg (by omega))
  simp only[gE,eH,A3,h1,h6,Kv,ld,kA,List.getElem?_cons_zero,List.getElem?_cons_succ,Nat.zero_add,List.nil_append,List.length_nil,gB,VX,Nat.reduceEqDiff,Nat.reduceAdd,Nat.reduceLeDiff,Nat.reduceLT,Nat.reduceSub]
  exact bad _
 by_cases he:(s.d.length:Int)=(s.u.length:Int)
 case neg =>
  have bad:=bad (by unfold hJ;exact if_neg (by omega))
  simp only[gE,eH,A3,h1,h6,he,Kv,ld,kA,List.getElem?_cons_zero,List.getElem?_cons_succ,Nat.zero_add,List.nil_append,List.length_nil,ne_eq,not_false_eq_true,decide_true,gB,VX,Nat.reduceEqDiff,Nat.reduceAdd,Nat.reduceLeDiff,Nat.reduceLT,Nat.reduceSub]
  exact bad _
 have zY:(1≤s.u.length∧s.u.length≤20)∧s.d.length=s.u.length:=by omega
 have e1:=Em s.u hn.1 hu
 have e2:=Em s.d hn.2 hd
 cases R0:Al s.u with
 |
  none =>
  rw[R0,Gc] at e1
  have bad:=bad (by unfold hJ;rw[if_pos zY,R0])
  cases wV:Al s.d with
  |
   none =>
   rw[wV,Gc] at e2
   simp only[gE,eH,A3,h1,h6,he,e1,e2,Kv,ld,kA,List.getElem?_cons_zero,List.getElem?_cons_succ,Nat.zero_add,List.nil_append,List.length_nil,ne_eq,not_true_eq_false,decide_false,Bool.not_true,Bool.not_false,gB,VX,Nat.reduceEqDiff,Nat.reduceAdd,Nat.reduceLeDiff,Nat.reduceLT,Nat.reduceSub]
   exact bad _
  |
   some d =>
   rw[wV,F6] at e2
   simp only[gE,eH,A3,h1,h6,he,e1,e2,Kv,ld,kA,List.getElem?_cons_zero,List.getElem?_cons_succ,Nat.zero_add,List.nil_append,List.length_nil,ne_eq,not_true_eq_false,decide_false,Bool.not_true,Bool.not_false,gB,VX,Nat.reduceEqDiff,Nat.reduceAdd,Nat.reduceLeDiff,Nat.reduceLT,Nat.reduceSub]
   exact bad _
 |
  some u =>
  rw[R0,F6] at e1
  obtain⟨hub,Pl,ayL⟩:=uT R0
  cases wV:Al s.d with
  |
   none =>
   rw[wV,Gc] at e2
   have bad:=bad (by unfold hJ;rw[if_pos zY,R0,wV])
   simp only[gE,eH,A3,h1,h6,he,e1,e2,Kv,ld,kA,List.getElem?_cons_zero,List.getElem?_cons_succ,Nat.zero_add,List.nil_append,List.length_nil,ne_eq,not_true_eq_false,decide_false,Bool.not_true,Bool.not_false,gB,VX,Nat.reduceEqDiff,Nat.reduceAdd,Nat.reduceLeDiff,Nat.reduceLT,Nat.reduceSub]
   exact bad _
  |
   some d =>
   rw[wV,F6] at e2
   obtain⟨hdb,Uv,avV⟩:=uT wV
   have e3:=CX u (by omega)
   have e4:=CX d (by omega)
   cases hau:u.any (fun q=>decide (q≤0)) with
   |
    true =>
    rw[K6,hau] at e3
    have bad:=bad (by unfold hJ;rw[if_pos zY,R0,wV];exact if_neg (fun h=>by rw[hau] at h;cases h.1))
    simp only[gE,eH,A3,h1,h6,he,e1,e2,e3,Kv,ld,kA,List.getElem?_cons_zero,List.getElem?_cons_succ,Nat.zero_add,List.nil_append,List.length_nil,ne_eq,not_true_eq_false,decide_false,Bool.not_true,Bool.not_false,gB,VX,Nat.reduceEqDiff,Nat.reduceAdd,Nat.reduceLeDiff,Nat.reduceLT,Nat.reduceSub]
    exact bad _
   |
    false =>
    rw[K6,hau] at e3
    cases had:d.any (fun q=>decide (q≤0)) with
    |
     true =>
     rw[K6,had] at e4
     have bad:=bad (by unfold hJ;rw[if_pos zY,R0,wV];exact if_neg (fun h=>by rw[had] at h;cases h.2))
     simp only[gE,eH,A3,h1,h6,he,e1,e2,e3,e4,Kv,ld,kA,List.getElem?_cons_zero,List.getElem?_cons_succ,Nat.zero_add,List.nil_append,List.length_nil,ne_eq,not_true_eq_false,decide_false,Bool.not_true,Bool.not_false,gB,VX,Nat.reduceEqDiff,Nat.reduceAdd,Nat.reduceLeDiff,Nat.reduceLT,Nat.reduceSub]
     exact bad _
    |
     false =>
     rw[K6,had] at e4
     have uU:Kr s = .dR [.agg [aK aH u,aK aH d],VB true]:=by
      have:hJ s=some (u,d):=by unfold hJ;rw[if_pos zY,R0,wV];exact if_pos ⟨hau,had⟩
      unfold Kr
      rw[this]
     rw[uU]
     simp only[gE,eH,A3,h1,h6,he,e1,e2,e3,e4,st,ld,kA,List.getElem?_cons_zero,List.getElem?_cons_succ,Nat.zero_add,List.nil_append,List.length_nil,ne_eq,not_true_eq_false,decide_false,Bool.not_true,Bool.not_false,gB,VX,Nat.reduceEqDiff,Nat.reduceAdd,Nat.reduceLeDiff,Nat.reduceLT,Nat.reduceSub]
     exact aL (rO (rO (zT u) (zT d)) rfl)
end Go.PM
namespace Go.PM
theorem zS (q:Rat):(aB (aH q)).all bY=true:=rfl
def N7 (d:List Rat):Nat→Rat
 | 0=>0
 | n+1=>d.getD n 0
theorem pF {lo k:Nat} {H K:aA} {x:VV} {q:Rat} (h:lo≤H.length) (hK:K[k]? = some (.row 0 [x] 3 true)):bI lo 3 (.ptr (H.length+k) 0 0 0) (aH q) (H++K)=some (H++K.set k (.row 0 [aH q] 3 true)):=by
 have hr:aF (H++K) (H.length+k) 0=some ([x],3,true):=by
  rw[cK,List.getElem?_append_right (by omega),Nat.add_sub_cancel_left]
  exact hK
 rw[bO (e:=3) hr (by exact Nat.zero_lt_one) (by omega) (qF q) (zS q),List.set_append_right _ _ (by omega),Nat.add_sub_cancel_left]
 rfl
theorem Cr {k:Nat} {H K:aA} {q:Rat} (hK:K[k]? = some (.row 0 [aH q] 3 true)):bX true 3 (.ptr (H.length+k) 0 0 0) (H++K)=some (aH q):=by
 have hr:aF (H++K) (H.length+k) 0=some ([aH q],3,true):=by
  rw[cK,List.getElem?_append_right (by omega),Nat.add_sub_cancel_left]
  exact hK
 rw[bM,hr]
 exact iM q
set_option maxHeartbeats 4000000 in
set_option maxRecDepth 20000 in
theorem CQ {lo b:Nat} {H:aA} {w:Bool} (u d:List Rat) (n:Nat) (hr:aF H b 0=some ([.agg [aK aH u,aK aH d]],2,w)) (dP:lo≤H.length) (hn:n≤u.length) (hd:d.length=u.length) (hl:u.length≤1000000) :
  jC 78 [.ptr b 0 0 0,VI n] lo H (L5 (fun _ _ _ r=>r = .dR [aH (u.getD n 0),aH (N7 d n)]) H):=by
 refine jC.walk ⟨true,false⟩ KC (Nat.le_of_ble_eq_true rfl) ?_
 have e0:=Ac
 have hrk:∀K,aF (H++K) b 0=some ([.agg [aK aH u,aK aH d]],2,w):=fun K=>bN hr
 have fa:∀K,yU 0 (.ptr b 0 0 0) (H++K)=some (.ptr b 0 0 0):=fun K=>by rw[LB (hrk K)]
 have fb:∀K,yU 1 (.ptr b 0 0 0) (H++K)=some (.ptr b 0 0 1):=fun K=>by rw[LB (hrk K)]
 have la:∀K,bX false 1 (.ptr b 0 0 0) (H++K)=some (aK aH u):=fun K=>by rw[bM,hrk K];rfl
 have lb:∀K,bX false 1 (.ptr b 0 0 1) (H++K)=some (aK aH d):=fun K=>by rw[bM,hrk K];rfl
 have ck:∀K,TG (.ptr b 0 0 0) (H++K)=some (.ptr b 0 0 0):=fun K=>by rw[TG,hrk K];rfl
 have s6:bI lo 3 (.ptr (H.length+2) 0 0 0) (aH 0) (H++[cell0,cell0,cell0])=some (H++[cell0,cell0,.row 0 [aH 0] 3 true]):=pF dP rfl
 have s7:bI lo 3 (.ptr (H.length+3) 0 0 0) (aH 0) (H++[cell0,cell0,.row 0 [aH 0] 3 true,cell0])=some (H++[cell0,cell0,.row 0 [aH 0] 3 true,.row 0 [aH 0] 3 true]):=pF dP rfl
 have s6':∀p q,bI lo 3 (.ptr (H.length+2) 0 0 0) (aH p) (H++[cell0,cell0,.row 0 [aH 0] 3 true,.row 0 [aH q] 3 true])=some (H++[cell0,cell0,.row 0 [aH p] 3 true,.row 0 [aH q] 3 true]):=fun p q=>pF dP rfl
 have s7':∀p q,bI lo 3 (.ptr (H.length+3) 0 0 0) (aH q) (H++[cell0,cell0,.row 0 [aH p] 3 true,.row 0 [aH 0] 3 true])=some (H++[cell0,cell0,.row 0 [aH p] 3 true,.row 0 [aH q] 3 true]):=fun p q=>pF dP rfl
 have l6:∀p q,bX true 3 (.ptr (H.length+2) 0 0 0) (H++[cell0,cell0,.row 0 [aH p] 3 true,.row 0 [aH q] 3 true])=some (aH p):=fun p q=>Cr rfl
 have l7:∀p q,bX true 3 (.ptr (H.length+3) 0 0 0) (H++[cell0,cell0,.row 0 [aH p] 3 true,.row 0 [aH q] 3 true])=some (aH q):=fun p q=>Cr rfl
 have s4:∀p q,bI lo 3 (.ptr H.length 0 0 0) (aH p) (H++[cell0,cell0,.row 0 [aH p] 3 true,.row 0 [aH q] 3 true])=some (H++[.row 0 [aH p] 3 true,cell0,.row 0 [aH p] 3 true,.row 0 [aH q] 3 true]):=fun p q=>pF (k:=0) dP rfl
 have s5:∀p q,bI lo 3 (.ptr (H.length+1) 0 0 0) (aH q) (H++[.row 0 [aH p] 3 true,cell0,.row 0 [aH p] 3 true,.row 0 [aH q] 3 true])=some (H++[.row 0 [aH p] 3 true,.row 0 [aH q] 3 true,.row 0 [aH p] 3 true,.row 0 [aH q] 3 true]):=fun p q=>pF dP rfl
 have l4:∀p q,bX true 3 (.ptr H.length 0 0 0) (H++[.row 0 [aH p] 3 true,.row 0 [aH q] 3 true,.row 0 [aH p] 3 true,.row 0 [aH q] 3 true])=some (aH p):=fun p q=>Cr (k:=0) rfl
 have l5:∀p q,bX true 3 (.ptr (H.length+1) 0 0 0) (H++[.row 0 [aH p] 3 true,.row 0 [aH q] 3 true,.row 0 [aH p] 3 true,.row 0 [aH q] 3 true])=some (aH q):=fun p q=>Cr rfl
 have kf:∀p q,GL (H++[cell0,cell0,.row 0 [aH p] 3 true,.row 0 [aH q] 3 true]) (.ptr (H.length+3) 0 0 0) (.ptr H.length 0 0 0)=true:=fun p q=>by
  simp[GL,Gs,aF]
 by_cases h1:(n:Int)<(u.length:Int)
 ·obtain⟨q,hq⟩:∃q,u[n]? = some q:=⟨_,List.getElem?_eq_getElem (by omega)⟩
  have hqd:u.getD n 0=q:=by rw[List.getD_eq_getElem?_getD,hq];rfl
  have a1:=fun H=>aJ (f:=aH) (t := .op) (H:=H) (size:=3) (k := .i64) hq rfl
  rw[hqd]
  by_cases h2:(0:Int)<(n:Int)
  ·obtain⟨m,rfl⟩:∃m,n=m+1:=⟨n-1,by omega⟩
   have wm:IntKind.i64.wrap (((m+1:Nat):Int)-1)=(m:Int):=by rw[show ((m+1:Nat):Int)-1=(m:Int) by omega];exact wrap64 (by omega) (by omega)
   obtain⟨p,hp⟩:∃p,d[m]? = some p:=⟨_,List.getElem?_eq_getElem (by omega)⟩
   have a2:=fun H=>aJ (f:=aH) (t := .op) (H:=H) (size:=3) (k := .i64) hp rfl
   have hpd:N7 d (m+1)=p:=by show d.getD m 0=p;rw[List.getD_eq_getElem?_getD,hp];rfl
   rw[hpd]
   simp only[qU,nH,e0,h1,h2,a1,a2,wm,ck,fa,fb,la,lb,s6,s7,s6',s7',l6,l7,s4,s5,l4,l5,kf,iM,zC,J1,List.all_cons,List.all_nil,Bool.and_true,List.append_assoc,List.cons_append,List.nil_append,List.length_append,List.length_cons,List.length_nil,Nat.zero_add,gB,VX,Nat.reduceEqDiff,Nat.reduceAdd,Nat.reduceLeDiff,Nat.reduceLT,Nat.reduceSub]
   exact⟨List.prefix_append _ _,rfl⟩
  ·have UP:n=0:=by omega
   subst UP
   simp only[qU,nH,e0,h1,h2,a1,ck,fa,fb,la,lb,s6,s7,s6',s7',l6,l7,s4,s5,l4,l5,kf,iM,zC,J1,List.all_cons,List.all_nil,Bool.and_true,List.append_assoc,List.cons_append,List.nil_append,List.length_append,List.length_cons,List.length_nil,Nat.zero_add,gB,VX,Nat.reduceEqDiff,Nat.reduceAdd,Nat.reduceLeDiff,Nat.reduceLT,Nat.reduceSub]
   exact⟨List.prefix_append _ _,rfl⟩
 ·have hq:u.getD n 0=0:=by rw[List.getD_eq_getElem?_getD,List.getElem?_eq_none (by omega)];rfl
  rw[hq]
  by_cases h2:(0:Int)<(n:Int)
  ·obtain⟨m,rfl⟩:∃m,n=m+1:=⟨n-1,by omega⟩
   have wm:IntKind.i64.wrap (((m+1:Nat):Int)-1)=(m:Int):=by rw[show ((m+1:Nat):Int)-1=(m:Int) by omega];exact wrap64 (by omega) (by omega)
   obtain⟨p,hp⟩:∃p,d[m]? = some p:=⟨_,List.getElem?_eq_getElem (by omega)⟩
   have a2:=fun H=>aJ (f:=aH) (t := .op) (H:=H) (size:=3) (k := .i64) hp rfl
   have hpd:N7 d (m+1)=p:=by show d.getD m 0=p;rw[List.getD_eq_getElem?_getD,hp];rfl
   rw[hpd]
   simp only[qU,nH,e0,h1,h2,a2,wm,ck,fa,fb,la,lb,s6,s7,s6',s7',l6,l7,s4,s5,l4,l5,kf,iM,zC,J1,List.all_cons,List.all_nil,Bool.and_true,List.append_assoc,List.cons_append,List.nil_append,List.length_append,List.length_cons,List.length_nil,Nat.zero_add,gB,VX,Nat.reduceEqDiff,Nat.reduceAdd,Nat.reduceLeDiff,Nat.reduceLT,Nat.reduceSub]
   exact⟨List.prefix_append _ _,rfl⟩
  ·have UP:n=0:=by omega
   subst UP
   simp only[qU,nH,e0,h1,h2,ck,fa,fb,la,lb,s6,s7,s6',s7',l6,l7,s4,s5,l4,l5,kf,iM,zC,J1,List.all_cons,List.all_nil,Bool.and_true,List.append_assoc,List.cons_append,List.nil_append,List.length_append,List.length_cons,List.length_nil,Nat.zero_add,gB,VX,Nat.reduceEqDiff,Nat.reduceAdd,Nat.reduceLeDiff,Nat.reduceLT,Nat.reduceSub]
   exact⟨List.prefix_append _ _,rfl⟩
end Go.PM
namespace Go.PM
theorem Ta {n:Nat} {f:Nat→Rat}:gY (vec n f)=Sg f n:=by
 induction n with
 | zero=>rfl
 |
  succ n ih =>
  rw[adX,Sg,←ih]
  unfold gY
  rw[List.foldl_append]
  rfl
def sE (u d:List Rat) (i j:Nat):Rat:=if j=i+1 then u.getD i 0 else if i=j+1 then d.getD j 0 else 0
def oH (u d:List Rat):List (List Rat):=Uq (u.length+1) (u.length+1) (sE u d)
theorem Pc {u d:List Rat} {i:Nat} (hd:d.length=u.length) (hi:i≤u.length):Sg (sE u d i) (u.length+1)=u.getD i 0+N7 d i:=by
 have e:Sg (sE u d i) (u.length+1)=Sg (fun j=>if j=i+1 then u.getD i 0 else 0) (u.length+1)+Sg (fun j=>if i=j+1 then d.getD j 0 else 0) (u.length+1):=by
  rw[←aqQ]
  refine GO fun j _ => ?_
  unfold sE
  by_cases h1:j=i+1
  ·rw[if_pos h1,if_pos h1,if_neg (by omega)]
   grind
  ·rw[if_neg h1,if_neg h1]
   grind
 have e1:Sg (fun j=>if j=i+1 then u.getD i 0 else 0) (u.length+1)=u.getD i 0:=by
  by_cases h:i<u.length
  ·rw[Qf (k:=i+1) (by omega) fun j _ hj=>if_neg hj]
   exact if_pos rfl
  ·rw[Qx fun j hj=>if_neg (by omega)]
   rw[List.getD_eq_getElem?_getD,List.getElem?_eq_none (by omega)]
   rfl
 have e2:Sg (fun j=>if i=j+1 then d.getD j 0 else 0) (u.length+1)=N7 d i:=by
  cases i with
  |
   zero =>
   rw[Qx fun j hj=>if_neg (by omega)]
   rfl
  |
   succ k =>
   rw[Qf (k:=k) (by omega) fun j _ hj=>if_neg (by omega)]
   exact if_pos rfl
 rw[e,e1,e2]
theorem ID {u d:List Rat} {i:Nat} (hi:i≤u.length):(oH u d)[i]? = some (vec (u.length+1) (sE u d i)):=WM (by omega)
theorem Zy {u d:List Rat} {i:Nat} (hd:d.length=u.length) (hi:i≤u.length):gY (vec (u.length+1) (sE u d i))=u.getD i 0+N7 d i:=by
 rw[Ta,Pc hd hi]
theorem Qr {u d:List Rat} {i:Nat} (D:Rat) (hd:d.length=u.length) (hi:i≤u.length) :
  rL D i (vec (u.length+1) (sE u d i))=vec (u.length+1) fun j=>if j=i then 1-(u.getD i 0+N7 d i) / D else sE u d i j / D:=by
 unfold rL
 rw[ajY,Qw,Ta]
 have e:Sg (fun j=>sE u d i j / D) (u.length+1)=(u.getD i 0+N7 d i) / D:=by
  rw[←Pc hd hi]
  have:=aoN D⁻¹ (sE u d i) (u.length+1)
  rw[Rat.div_def,Rat.mul_comm,←this]
  exact GO fun j _=>by rw[Rat.div_def,Rat.mul_comm]
 rw[e]
end Go.PM