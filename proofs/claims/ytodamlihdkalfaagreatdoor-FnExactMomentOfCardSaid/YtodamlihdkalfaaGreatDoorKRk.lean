/- Texts of a claim, in one: part 11. -/
import Derived.Test.YtodamlihdkalfaaGreatDoorKRj
set_option linter.unusedSimpArgs false
set_option linter.unusedVariables false
namespace Go.PM
open Go.Lib
abbrev bV (b:UInt8):VV := .sc (.int .u8 (b.toNat:Int))
theorem IU:∀bs:List UInt8,Fh (bs.map bV)=some bs
 | []=>rfl
 |
  b::bs=>by
  rw[List.map_cons]
  show (Fh (bs.map bV)).map (UInt8.ofNat ((b.toNat:Int)).toNat :: ·)=_
  rw[IU bs]
  simp
structure DW (v:VV) (H:aA) (bs:List UInt8):Prop where
 len:oG v H=some (VI bs.length)
 src:eX 1 v H=some (bs.map bV)
 nsc:∀x,v ≠ .sc x
theorem DW.str {v:VV} {H:aA} {bs:List UInt8} (h:DW v H bs) {fl:Fl} {lo:Nat} {x:Operand} {ρ:cR} (hx:dI ρ x=v):vop fl lo (.b2s x) ρ H=some (aS bs,H):=by
 have h1:=h.nsc
 have h2:=h.src
 unfold vop
 dsimp only
 rw[hx]
 cases v with
 | sc x=>exact absurd rfl (h1 x)
 | _=>simp only[h2,IU,Option.map_some]
theorem T4 {bs:List UInt8} {k:TK} {H:aA}:eX 1 (.tree (bs.map bV) k) H=some (bs.map bV):=by
 have:((bs.map bV).all fun x=>(aB x).length == 1&&(aB x).all cH)=true:=by
  rw[List.all_eq_true]
  intro x hx
  obtain⟨d,_,rfl⟩:=List.mem_map.1 hx
  rfl
 simp only[eX,this,if_true]
theorem DW.tree {bs:List UInt8} {k:TK} {H:aA}:DW (.tree (bs.map bV) k) H bs:=⟨dP,T4,fun x=>by simp⟩
theorem DW.row {bs:List UInt8} {H:aA} {b g:Nat} {w:Bool} (h:aQ H b g=some (bs.map bV,1,w)):DW (.ref b g 0 bs.length bs.length) H bs:=by
 refine⟨gK h,?_,fun x=>by simp⟩
 have kA:(((bs.map bV).drop 0).take bs.length).all (fun x=>(aB x).all cH)=true:=by
  rw[List.all_eq_true]
  intro x hx
  obtain⟨d,_,rfl⟩:=List.mem_map.1 (List.mem_of_mem_drop (List.mem_of_mem_take hx))
  rfl
 simp only[eX,h]
 rw[if_pos ⟨trivial,by simp,kA⟩,List.drop_zero,List.take_of_length_le (by simp)]
theorem DW.cons {v:VV} {H:aA} {bs:List UInt8} (h:DW v H bs) (x:UInt8) (hl:bs.length≤1000000) (lo:Nat):∃v' H',gH lo 1 1 (.tree [bV x] (.cl 1)) (bs.map bV) H=some (v',H')∧DW v' H' (x::bs):=by
 by_cases hb:bs=[]
 ·subst hb
  exact⟨_,_,rfl,DW.tree (bs:=[x])⟩
 ·have eW:bs.length≠0:=fun h=>hb (List.length_eq_zero_iff.1 h)
  refine⟨.ref H.length 0 0 (x::bs).length (x::bs).length,H++[.row 0 ((x::bs).map bV) 1 true],?_,DW.row (Nj rfl)⟩
  simp only[gH,List.length_map]
  rw[if_pos ⟨by decide,by decide⟩,if_pos trivial,if_neg eW,if_pos (by simp;omega)]
  simp[Nat.add_comm]
theorem RW (r:Int):cX .rem (.int .i64 r) (.int .i64 10)=some (.int .i64 (r.tmod 10)):=rfl
theorem afM (r:Int) (h0 : -9223372036854775808≤r) (h1:r≤9223372036854775807):cX .quo (.int .i64 r) (.int .i64 10)=some (.int .i64 (r.tdiv 10)):=by
 show some (Value.int .i64 (IntKind.i64.wrap (r.tdiv 10)))=_
 have h2:(r.tdiv 10).natAbs=r.natAbs / 10:=by rw[Int.natAbs_tdiv];rfl
 rw[wrap64 (by omega) (by omega)]
theorem UD {d:Nat} (h:d<10):(d10 d).toNat=48+d:=by
 unfold d10
 simp
 omega
theorem KT {n r:Nat} {bs:List UInt8} (h:decDigits n=decDigits r++bs):decDigits n=oV (r / 10)++d10 (r % 10)::bs:=by
 rw[h]
 by_cases hr:r<10
 ·rw[gR hr,oV,if_pos (by omega),Nat.mod_eq_of_lt hr];rfl
 ·rw[xK hr,oV,if_neg (by omega),List.append_assoc];rfl
theorem J1 (n:Int) (h0 : -9223372036854775808≤n) (h1:n≤9223372036854775807):TC 235 [VI n] (aS ((if n<0 then [45] else [])++decDigits n.natAbs)):=by
 refine TC.walk ⟨true,false⟩ JR rfl (Nat.le_of_ble_eq_true rfl) rfl rfl ?_
 have e0:∀lr,rN lr [.int .u8 0] 0 [] []=some (.ref 0 0 0 0 0,[.row 0 (([]:List UInt8).map bV) 1 true]):=fun lr=>oC (H:=[]) rfl
 have e1:∀(x:UInt8) (H:aA),rN false [.int .u8 0] 1 [(0,bV x)] H=some (.tree [bV x] (.cl 1),H):=fun x H=>sK rfl rfl rfl
 have hdl:=Ai n.natAbs 19 (by omega)
 simp only[Gz,CM,e0,VX,Nat.reduceEqDiff,Nat.reduceAdd]
 refine aY (fun(s:Int×List UInt8) ρ H => -9223372036854775808≤s.1∧s.1≤9223372036854775807∧(s.2=[]→s.1=n)∧(s.2≠[]→decDigits n.natAbs=oV s.1.natAbs++s.2)∧DW (ρ 3) H s.2∧ρ 0=VI n∧ρ 4=VI s.1) (fun s=>s.1.natAbs+(if s.2=[] then 1 else 0)) (n,[]) ⟨h0,h1,fun _=>rfl,fun h=>absurd rfl h,by simp only[VX,Nat.reduceEqDiff,Nat.reduceAdd];exact DW.row (bs:=[]) bT,rfl,rfl⟩ ?_
 rintro⟨r,bs⟩ ρ H ⟨Nb,Na,hn,hd,ho,g0,g4⟩
 simp only at Nb Na hn hd ho g4
 generalize Zg:ρ 3=v3 at ho
 have hlen:=ho.len
 have xY:=ho.src
 by_cases IM:bs≠[]∧r=0
 ·obtain⟨hb,hr⟩:=IM
  subst hr
  have hl:¬(bs.length:Int)=0:=by have:=List.length_pos_iff.2 hb;omega
  have Wf:=hd hb
  simp only[oV,Int.natAbs_zero,if_true,List.nil_append] at Wf
  by_cases lP:n<0
  ·obtain⟨v',H',ap,W5⟩:=ho.cons 45 (by rw[←Wf];omega) 0
   have RM:rN false [.int .u8 0] 1 [(0,.sc (.int .u8 45))] H=some (.tree [bV 45] (.cl 1),H):=e1 45 H
   have bs2:=fun aW (h:dI aW (.tmp 34)=v')=>W5.str (fl:=⟨true,false⟩) (lo:=0) h
   simp only[iT,g0,g4,Zg,hlen,hl,VX,Nat.reduceEqDiff,Nat.reduceAdd]
   simp only[g0,lP,Zg,RM,xY,ap,Rt,VX,Nat.reduceEqDiff,Nat.reduceAdd]
   rw[bs2 _ (by rfl)]
   simp only[VX,Nat.reduceEqDiff,Nat.reduceAdd]
   rw[Wf]
   exact aG rfl
  ·have bs2:=fun aW (h:dI aW (.tmp 34)=v3)=>ho.str (fl:=⟨true,false⟩) (lo:=0) h
   simp only[iT,g0,g4,Zg,hlen,hl,VX,Nat.reduceEqDiff,Nat.reduceAdd]
   simp only[g0,lP,Zg,Rt,VX,Nat.reduceEqDiff,Nat.reduceAdd]
   rw[bs2 _ (by simp only[VX,Nat.reduceEqDiff,Nat.reduceAdd];try exact Zg)]
   simp only[VX,Nat.reduceEqDiff,Nat.reduceAdd]
   rw[Wf]
   exact aG rfl
 ·have hm:r.tmod 10=if r<0 then -((r.natAbs % 10:Nat):Int) else ((r.natAbs % 10:Nat):Int):=by
   have:=Int.tmod_eq_emod_of_nonneg (a:=r) (b:=10)
   by_cases h:r<0
   ·rw[if_pos h]
    have h2:=Int.neg_tmod (-r) 10
    rw[Int.neg_neg] at h2
    rw[h2,Int.tmod_eq_emod_of_nonneg (by omega)]
    omega
   ·rw[if_neg h,this (by omega)]
    omega
  have hq:(r.tdiv 10).natAbs=r.natAbs / 10:=by rw[Int.natAbs_tdiv];rfl
  have hmd:=Nat.mod_lt r.natAbs (show 0<10 by decide)
  have q1:=afM r Nb Na
  have sW:bs.length≤19:=by
   by_cases hb:bs=[]
   ·subst hb;simp
   ·have h2:=hd hb
    have h3:=congrArg List.length h2
    rw[List.length_append] at h3
    have h4:r≠0:=fun h=>IM ⟨hb,h⟩
    have h5:=List.length_pos_iff.2 (Mi r.natAbs)
    rw[oV,if_neg (by omega)] at h3
    omega
  obtain⟨v',H',ap,W5⟩:=ho.cons (d10 (r.natAbs % 10)) (by omega) 0
  have w2:IntKind.i64.wrap (48+((r.natAbs % 10:Nat):Int))=((48+r.natAbs % 10:Nat):Int):=wrapN _ (by omega) (by omega)
  have w3:IntKind.u8.wrap ((48+r.natAbs % 10:Nat):Int)=((48+r.natAbs % 10:Nat):Int):=by
   simp[IntKind.wrap,IntKind.bits,IntKind.signed]
   omega
  have hx:VV.sc (.int .u8 ((48+r.natAbs % 10:Nat):Int))=bV (d10 (r.natAbs % 10)):=by rw[bV,UD hmd]
  have RM:=e1 (d10 (r.natAbs % 10)) H
  rw[←hx] at RM ap
  have next:∃s':Int×List UInt8,s'.1.natAbs+(if s'.2=[] then 1 else 0)<r.natAbs+(if bs=[] then 1 else 0) ∧ -9223372036854775808≤s'.1∧s'.1≤9223372036854775807∧(s'.2=[]→s'.1=n)∧(s'.2≠[]→decDigits n.natAbs=oV s'.1.natAbs++s'.2)∧DW v' H' s'.2∧r.tdiv 10=s'.1:=by
   refine⟨(r.tdiv 10,d10 (r.natAbs % 10)::bs),?_,by simp only;omega,by simp only;omega,fun h=>(by simp at h),fun _ => ?_,W5,rfl⟩
   ·simp only[hq,List.cons_ne_nil,if_false]
    by_cases hb:bs=[]
    ·rw[if_pos hb];omega
    ·have h4:r≠0:=fun h=>IM ⟨hb,h⟩
     rw[if_neg hb];omega
   ·simp only[hq]
    by_cases hb:bs=[]
    ·subst hb
     refine KT ?_
     rw[hn rfl,List.append_nil]
    ·have h4:r≠0:=fun h=>IM ⟨hb,h⟩
     have h2:=hd hb
     rw[oV,if_neg (by omega)] at h2
     exact KT h2
  by_cases hrn:r.tmod 10<0
  ·have w1:IntKind.i64.wrap (0-r.tmod 10)=((r.natAbs % 10:Nat):Int):=by
    have:r.tmod 10 = -((r.natAbs % 10:Nat):Int):=by
     by_cases h:r<0
     ·rw[if_pos h] at hm;exact hm
     ·rw[if_neg h] at hm;omega
    rw[this]
    exact wrapN _ (by omega) (by omega)
   by_cases hb:bs=[]
   ·have hl:(bs.length:Int)=0:=by rw[hb];rfl
    simp only[iT,g0,g4,Zg,hlen,hl,RW,q1,hrn,w1,w2,w3,RM,xY,ap,VX,Nat.reduceEqDiff,Nat.reduceAdd]
    obtain⟨s',n1,n2,n3,n4,n5,n6,n7⟩:=next
    exact⟨s',n1,n2,n3,n4,n5,n6,by rw[n7]⟩
   ·have hl:¬(bs.length:Int)=0:=by have:=List.length_pos_iff.2 hb;omega
    have hr:¬r=0:=fun h=>IM ⟨hb,h⟩
    simp only[iT,g0,g4,Zg,hlen,hl,hr,RW,q1,hrn,w1,w2,w3,RM,xY,ap,VX,Nat.reduceEqDiff,Nat.reduceAdd]
    obtain⟨s',n1,n2,n3,n4,n5,n6,n7⟩:=next
    exact⟨s',n1,n2,n3,n4,n5,n6,by rw[n7]⟩
  ·have hmm:r.tmod 10=((r.natAbs % 10:Nat):Int):=by
    rw[hm] at hrn ⊢
    split
    ·rename_i h;rw[if_pos h] at hrn;omega
    ·rfl
   have agU:¬((r.natAbs % 10:Nat):Int)<0:=by omega
   by_cases hb:bs=[]
   ·have hl:(bs.length:Int)=0:=by rw[hb];rfl
    simp only[iT,g0,g4,Zg,hlen,hl,RW,hmm,q1,agU,w2,w3,RM,xY,ap,VX,Nat.reduceEqDiff,Nat.reduceAdd]
    obtain⟨s',n1,n2,n3,n4,n5,n6,n7⟩:=next
    exact⟨s',n1,n2,n3,n4,n5,n6,by rw[n7]⟩
   ·have hl:¬(bs.length:Int)=0:=by have:=List.length_pos_iff.2 hb;omega
    have hr:¬r=0:=fun h=>IM ⟨hb,h⟩
    simp only[iT,g0,g4,Zg,hlen,hl,hr,RW,hmm,q1,agU,w2,w3,RM,xY,ap,VX,Nat.reduceEqDiff,Nat.reduceAdd]
    obtain⟨s',n1,n2,n3,n4,n5,n6,n7⟩:=next
    exact⟨s',n1,n2,n3,n4,n5,n6,by rw[n7]⟩
end Go.PM
namespace Go.PM
abbrev chV (c:List (List ByteArray)):VV := .agg [FJ c]
def A0 (n:Nat) (H:aA) (bare:Bool) (c:List (List ByteArray)) (r:VV):Prop:=∃c0,r = .agg [c0]∧uQ n H bare c c0
theorem A0.eZ {n:Nat} {H H':aA} {bare:Bool} {s:List (List ByteArray)} {c:VV} (h:A0 n H bare s c) (hk:∀b g x,n<b→aQ H b g=some x→aQ H' b g=some x):A0 n H' bare s c:=by
 obtain⟨c0,rfl,h0⟩:=h
 exact⟨c0,rfl,h0.eZ hk⟩
theorem A0.pre {n:Nat} {H H':aA} {bare:Bool} {s:List (List ByteArray)} {c:VV} (h:A0 n H bare s c) (hh:H <+: H'):A0 n H' bare s c:=h.eZ fun _ _ _ _=>lI hh
theorem A0.fz {n:Nat} {H:aA} {bare:Bool} {s:List (List ByteArray)} {c:VV} (h:A0 n H bare s c):PM.fz depth H c=some (chV s):=by
 obtain⟨c0,rfl,h0⟩:=h
 have f0:=h0.fz (d:=4)
 have e:PM.fz (7+1) H (.agg [c0])=if aR (.agg [c0])=true then some (.agg [c0]) else ([c0].mapM (PM.fz 7 H)).map .agg:=rfl
 show PM.fz (7+1) H (.agg [c0])=_
 rw[e]
 by_cases hp:aR (.agg [c0])=true
 ·rw[if_pos hp]
  have hu:aR c0=true:=by simpa[aR,aJ] using hp
  rw[aH hu] at f0
  cases f0
  rfl
 ·rw[if_neg hp,List.mapM_cons,f0]
  rfl
end Go.PM
namespace Go.PM
open Go.Lib
theorem Xt {α:Type} {l:List α} (h:l.Nodup) {i j:Nat} {x:α} (hi:l[i]? = some x) (hj:l[j]? = some x):i=j:=by
 obtain⟨hi,AX⟩:=List.getElem?_eq_some_iff.1 hi
 obtain⟨hj,hj'⟩:=List.getElem?_eq_some_iff.1 hj
 have h:=List.pairwise_iff_getElem.1 h
 rcases Nat.lt_trichotomy i j with aX | heq | hgt
 ·exact absurd (AX.trans hj'.symm) (h i j hi hj aX)
 ·exact heq
 ·exact absurd (hj'.trans AX.symm) (h j i hj hi hgt)
section
variable {α:Type} {f:α→VV} {e lo hi:Nat} {H H':aA} {v:VV}
def mE (lo hi:Nat) (H H':aA):Prop:=∀b g x,lo≤b→b<hi→aQ H b g=some x→aQ H' b g=some x
theorem mE.pre (h:H <+: H'):mE lo hi H H':=fun _ _ _ _ _=>lI h
theorem mE.refl:mE lo hi H H:=fun _ _ _ _ _ h=>h
theorem mE.trans {Y4:aA} (h:mE lo hi H H') (h':mE lo hi H' Y4):mE lo hi H Y4:=fun b g x h1 h2 h3=>h' b g x h1 h2 (h b g x h1 h2 h3)
theorem mE.sub {l h':Nat} (h:mE lo hi H H') (hl:lo≤l) (hh:h'≤hi):mE l h' H H':=fun b g x h1 h2=>h b g x (by omega) (by omega)
theorem mE.set {b:Nat} {x:iY} (hb:b<lo∨hi≤b):mE lo hi H (H.set b x):=fun _ _ _ h1 h2=>nA (by omega)
theorem mE.move {L:aA}:mE H.length hi (List.replicate H.length .dead++L) (H++L):=fun _ _ _ h1 _=>TU h1
def VH (f:α→VV) (e:Nat) (cD:List α) (lo hi:Nat) (H:aA) (v:VV):Prop :=
 (v = .tree [] .nil∧cD=[])∨∃b g c,lo≤b∧b<hi∧v = .ref b g 0 cD.length c∧cD.length≤c∧aQ H b g=some (cD.map f,e,true)
theorem VH.eZ {cD:List α} (h:VH f e cD lo hi H v) (hk:mE lo hi H H'):VH f e cD lo hi H' v:=by
 rcases h with h | ⟨b,g,c,h1,h2,h3,h4,h5⟩
 ·exact .inl h
 ·exact .inr ⟨b,g,c,h1,h2,h3,h4,hk _ _ _ h1 h2 h5⟩
theorem Ry {d b g c:Nat} {xs:List α} {w:Bool} (hp:∀x,aR (f x)=true) (h:aQ H b g=some (xs.map f,e,w)) (hc:xs.length≤c):fz (d+2) H (.ref b g 0 xs.length c)=some (bL f xs):=by
 have:aR (.ref b g 0 xs.length c)=false:=rfl
 show PM.fz ((d+1)+1) H _=_
 unfold PM.fz
 simp only[this,h,Bool.false_eq_true,if_false]
 rw[if_pos ⟨by simp,hc⟩,List.drop_zero,List.take_of_length_le (by simp),mapM_pure (n:=d) (dQ hp)]
 rfl
theorem VH.fz {d:Nat} {cD:List α} (h:VH f e cD lo hi H v) (hp:∀x,aR (f x)=true):PM.fz (d+2) H v=some (bL f cD):=by
 rcases h with⟨rfl,rfl⟩ | ⟨b,g,c,h1,h2,rfl,h4,h5⟩
 ·exact Ib
 ·exact Ry hp h5 h4
structure EF (α:Type) where
 b:Nat
 g:Nat
 c:Nat
 xs:List α
def K7 (r:EF α):VV := .ref r.b r.g 0 r.xs.length r.c
structure VY (f:α→VV) (e lo hi b:Nat) (H:aA) (rs:List (EF α)):Prop where
 nd:(rs.map (·.b)).Nodup
 row:∀r∈rs,lo≤r.b∧r.b<hi∧r.b≠b∧r.xs.length≤r.c∧aQ H r.b r.g=some (r.xs.map f,e,true)
def RG (f:α→VV) (e:Nat) (cD:List (List α)) (lo hi:Nat) (H:aA) (v:VV):Prop :=
 (v = .tree [] .nil∧cD=[])∨∃b g c rs,lo≤b∧b<hi∧v = .ref b g 0 cD.length c∧cD.length≤c∧aQ H b g=some (rs.map K7,1,true)∧rs.map (·.xs)=cD∧VY f e lo hi b H rs
theorem RG.eZ {cD:List (List α)} (h:RG f e cD lo hi H v) (hk:mE lo hi H H'):RG f e cD lo hi H' v:=by
 rcases h with h | ⟨b,g,c,rs,h1,h2,h3,h4,h5,h6,h7⟩
 ·exact .inl h
 ·exact .inr ⟨b,g,c,rs,h1,h2,h3,h4,hk _ _ _ h1 h2 h5,h6,h7.nd,fun r hr=>by
   obtain⟨k1,k2,k3,k4,k5⟩:=h7.row r hr
   exact⟨k1,k2,k3,k4,hk _ _ _ k1 k2 k5⟩⟩
theorem SU {d b g c lo hi:Nat} {rs:List (EF α)} {w:Bool} (hp:∀x,aR (f x)=true) (h:aQ H b g=some (rs.map K7,1,w)) (hc:rs.length≤c) (hR:VY f e lo hi b H rs) :
  fz (d+3) H (.ref b g 0 rs.length c)=some (bL (bL f) (rs.map (·.xs))):=by
 have:aR (.ref b g 0 rs.length c)=false:=rfl
 show PM.fz ((d+2)+1) H _=_
 unfold PM.fz
 simp only[this,h,Bool.false_eq_true,if_false]
 rw[if_pos ⟨by simp,hc⟩,List.drop_zero,List.take_of_length_le (by simp),mapM_map (f:=K7) (f':=fun r=>bL f r.xs) fun r hr=>Ry hp (hR.row r hr).2.2.2.2 (hR.row r hr).2.2.2.1]
 simp[bL,List.map_map]
theorem RG.fz {d:Nat} {cD:List (List α)} (h:RG f e cD lo hi H v) (hp:∀x,aR (f x)=true):PM.fz (d+3) H v=some (bL (bL f) cD):=by
 rcases h with⟨rfl,rfl⟩ | ⟨b,g,c,rs,h1,h2,rfl,h4,h5,rfl,h7⟩
 ·exact Ib
 ·rw[List.length_map] at h4 ⊢
  exact SU hp h5 h4 h7
theorem Sr {d:Nat} {us Dm:List VV} (h:us.mapM (PM.fz (d+1) H)=some Dm):PM.fz (d+2) H (.agg us)=some (.agg Dm):=by
 have e:PM.fz (d+2) H (.agg us)=if aR (.agg us)=true then some (.agg us) else (us.mapM (PM.fz (d+1) H)).map .agg:=rfl
 rw[e]
 by_cases hq:aR (.agg us)=true
 ·rw[if_pos hq]
  have:us.mapM (PM.fz (d+1) H)=some us:=mapM_pure hq
  rw[this] at h
  cases h
  rfl
 ·rw[if_neg hq,h]
  rfl
end
def Gr (T:VV) (lo hi:Nat) (H:aA) (v:VV):Prop:=∀H',mE lo hi H H'→fz depth H' v=some T
theorem Gr.eZ {T:VV}:∀ {lo hi H H' v},Gr T lo hi H v→mE lo hi H H'→Gr T lo hi H' v:=fun h hk _ h'=>h _ (hk.trans h')
theorem Gr.now {T v:VV} {lo hi:Nat} {H:aA} (h:Gr T lo hi H v):fz depth H v=some T:=h H mE.refl
def CG (cD:List (List ByteArray)) (lo hi:Nat) (H:aA) (v:VV):Prop:=∃c,v = .agg [c]∧RG sV 1 cD lo hi H c
theorem CG.eZ {cD:List (List ByteArray)}:∀ {lo hi H H' v},CG cD lo hi H v→mE lo hi H H'→CG cD lo hi H' v:=by
 rintro lo hi H H' v ⟨c,h1,h2⟩ hk
 exact⟨c,h1,h2.eZ hk⟩
theorem CG.fz {cD:List (List ByteArray)} {lo hi:Nat} {H:aA} {v:VV} (h:CG cD lo hi H v):PM.fz depth H v=some (chV cD):=by
 obtain⟨c,rfl,h⟩:=h
 refine Sr (d:=6) ?_
 rw[List.mapM_cons,h.fz (d:=4) fun _=>rfl]
 rfl
theorem CG.seen {cD:List (List ByteArray)} {lo hi:Nat} {H:aA} {v:VV} (h:CG cD lo hi H v):Gr (chV cD) lo hi H v:=fun _ hk=>(h.eZ hk).fz
def SvG (s:Wn) (lo hi:Nat) (H:aA) (v:VV):Prop:=∃a b c m1 m2,v = .agg [a,b,c]∧lo≤m1∧m1≤m2∧m2≤hi∧VH sV 1 s.b lo m1 H a∧RG sV 1 s.g m1 m2 H b∧VH sV 1 s.e m2 hi H c
theorem SvG.eZ {s:Wn}:∀ {lo hi H H' v},SvG s lo hi H v→mE lo hi H H'→SvG s lo hi H' v:=by
 rintro lo hi H H' v ⟨a,b,c,m1,m2,h1,k1,k2,k3,h2,h3,h4⟩ hk
 exact⟨a,b,c,m1,m2,h1,k1,k2,k3,h2.eZ (hk.sub (by omega) (by omega)),h3.eZ (hk.sub (by omega) (by omega)),h4.eZ (hk.sub (by omega) (by omega))⟩
theorem abC {s:Wn} {l1 h1 l2 h2 l3 h3:Nat} {H:aA} {a b c:VV} (ha:VH sV 1 s.b l1 h1 H a) (hb:RG sV 1 s.g l2 h2 H b) (hc:VH sV 1 s.e l3 h3 H c):PM.fz depth H (.agg [a,b,c])=some (svV s):=by
 refine Sr (d:=6) ?_
 rw[List.mapM_cons,ha.fz (d:=5) fun _=>rfl]
 rw[List.mapM_cons,hb.fz (d:=4) fun _=>rfl]
 rw[List.mapM_cons,hc.fz (d:=5) fun _=>rfl]
 rfl
theorem SvG.fz {s:Wn} {lo hi:Nat} {H:aA} {v:VV} (h:SvG s lo hi H v):PM.fz depth H v=some (svV s):=by
 obtain⟨a,b,c,m1,m2,rfl,k1,k2,k3,h2,h3,h4⟩:=h
 exact abC h2 h3 h4
theorem SvG.seen {s:Wn} {lo hi:Nat} {H:aA} {v:VV} (h:SvG s lo hi H v):Gr (svV s) lo hi H v:=fun _ hk=>(h.eZ hk).fz
theorem VH.seen {cD:List ByteArray} {lo hi:Nat} {H:aA} {v:VV} (h:VH sV 1 cD lo hi H v):Gr (fU cD) lo hi H v:=fun _ hk=>(h.eZ hk).fz (d:=6) fun _=>rfl
end Go.PM
namespace Go.PM
section
variable {α:Type} {f:α→VV} {e:Nat}
structure Rd (f:α→VV) (e:Nat) (xs:List α) (H:aA) (v:VV):Prop where
 len:∀H',H <+: H'→oG v H'=some (VI xs.length)
 get:∀H',H <+: H'→∀(i:Nat) x,xs[i]? = some x→∃p,bE e v (VI i) H'=some p∧∀ag,dU ag e p H'=dW ag e (f x) 0
 cell:aB v=[v]∧cH v=true∧isAny v=false
theorem Rd.pre {xs:List α} {H H':aA} {v:VV} (h:Rd f e xs H v) (hh:H <+: H'):Rd f e xs H' v:=⟨fun H2 h2=>h.len H2 (hh.trans h2),fun H2 h2=>h.get H2 (hh.trans h2),h.cell⟩
theorem Rd.tree {xs:List α} {H:aA} {t:TK} (hs:∀x,(aB (f x)).length=e):Rd f e xs H (.tree (xs.map f) t) :=
 ⟨fun _ _=>dP,fun _ _ i x hx=>⟨_,aM hx (hs x),fun ag=>Ma⟩,rfl,rfl,rfl⟩
theorem Rd.row {xs:List α} {H:aA} {b g n c:Nat} {w:Bool} (h:aQ H b g=some (xs.map f,e,w)) (hn:n=xs.length):Rd f e xs H (.ref b g 0 n c):=by
 subst hn
 refine⟨fun H' hh=>gK (lI hh h),fun H' hh i x hx => ?_,rfl,rfl,rfl⟩
 have hi:=(List.getElem?_eq_some_iff.1 hx).1
 have e1:=bB (o:=0) (n:=xs.length) (c:=c) (i:=i) (k := .i64) (lI hh h) hi
 rw[Nat.zero_add] at e1
 exact⟨_,e1,fun ag=>rL (f:=f) (lI hh h) hx⟩
structure MG (f:α→VV) (e lo hi b g:Nat) (H:aA) (rs:List (EF α)):Prop where
 out:aQ H b g=some (rs.map K7,1,true)
 blo:lo≤b
 bhi:b<hi
 rows:VY f e lo hi b H rs
variable {lo hi b g:Nat} {H H':aA} {rs:List (EF α)}
theorem MG.eZ (h:MG f e lo hi b g H rs) (hk:mE lo hi H H'):MG f e lo hi b g H' rs :=
 ⟨hk _ _ _ h.blo h.bhi h.out,h.blo,h.bhi,h.rows.nd,fun r hr=>by
  obtain⟨k1,k2,k3,k4,k5⟩:=h.rows.row r hr
  exact⟨k1,k2,k3,k4,hk _ _ _ k1 k2 k5⟩⟩
theorem MG.pre (h:MG f e lo hi b g H rs) (hh:H <+: H'):MG f e lo hi b g H' rs:=h.eZ (mE.pre hh)
theorem MG.len {n c:Nat} (h:MG f e lo hi b g H rs):oG (.ref b g 0 n c) H=some (VI n):=gK h.out
theorem MG.cell {i:Nat} {r:EF α} (h:MG f e lo hi b g H rs) (hr:rs[i]? = some r):dU false 1 (.ptr b g i 0) H=some (.ref r.b r.g 0 r.xs.length r.c):=by
 rw[rL (f:=K7) h.out hr]
 rfl
theorem MG.row {i:Nat} {r:EF α} (h:MG f e lo hi b g H rs) (hr:rs[i]? = some r):aQ H r.b r.g=some (r.xs.map f,e,true):=(h.rows.row r (List.mem_of_getElem? hr)).2.2.2.2
theorem MG.at {i j n c:Nat} {r:EF α} (h:MG f e lo hi b g H rs) (hr:rs[i]? = some r) (hj:j<n):bE e (.ref r.b r.g 0 n c) (VI j) H=some (.ptr r.b r.g j 0):=by
 have:=bB (o:=0) (n:=n) (c:=c) (i:=j) (k := .i64) (h.row hr) hj
 rwa [Nat.zero_add] at this
theorem MG.get {i j:Nat} {ag:Bool} {r:EF α} {x:α} (h:MG f e lo hi b g H rs) (hr:rs[i]? = some r) (hx:r.xs[j]? = some x):dU ag e (.ptr r.b r.g j 0) H=dW ag e (f x) 0:=rL (f:=f) (h.row hr) hx
theorem MG.inj {i j:Nat} {r s:EF α} (h:MG f e lo hi b g H rs) (hr:rs[i]? = some r) (hs:rs[j]? = some s) (he:r.b=s.b):i=j:=by
 have h1:(rs.map (·.b))[i]? = some r.b:=by simp[hr]
 have h2:(rs.map (·.b))[j]? = some r.b:=by simp[hs,he]
 exact Xt h.rows.nd h1 h2
theorem IS {β γ:Type} {F:β→γ} {l:List β} {i:Nat} {x y:β} (hx:l[i]? = some x) (he:F y=F x):(l.set i y).map F=l.map F:=by
 apply List.ext_getElem?
 intro j
 rw[List.getElem?_map,List.getElem?_map,List.getElem?_set]
 split
 ·rename_i PV
  subst PV
  split
  ·rw[hx,Option.map_some,Option.map_some,he]
  ·rename_i hn
   rw[(List.getElem?_eq_none (by omega))] at hx
   cases hx
 ·rfl
theorem MG.set {i:Nat} {r:EF α} {ys:List α} (h:MG f e lo hi b g H rs) (hr:rs[i]? = some r) (hl:ys.length=r.xs.length):MG f e lo hi b g (H.set r.b (.row r.g (ys.map f) e true)) (rs.set i { r with xs:=ys }):=by
 have hrm:=h.rows.row r (List.mem_of_getElem? hr)
 refine⟨?_,h.blo,h.bhi,?_,fun s hs => ?_⟩
 ·rw[IS hr (by simp[K7,hl])]
  exact nA hrm.2.2.1 h.out
 ·rw[IS (F:=fun r:EF α=>r.b) (y:={ r with xs:=ys }) hr rfl]
  exact h.rows.nd
 ·obtain⟨j,hj⟩:=List.getElem?_of_mem hs
  rw[List.getElem?_set] at hj
  split at hj
  ·rename_i PV
   split at hj
   ·cases hj
    exact⟨hrm.1,hrm.2.1,hrm.2.2.1,by rw[hl];exact hrm.2.2.2.1,sN hrm.2.2.2.2⟩
   ·cases hj
  ·rename_i PV
   have Ya:=h.rows.row s (List.mem_of_getElem? hj)
   exact⟨Ya.1,Ya.2.1,Ya.2.2.1,Ya.2.2.2.1,nA (fun he=>PV (h.inj hr hj he)) Ya.2.2.2.2⟩
theorem MG.put {i j zX:Nat} {r:EF α} {y:α} (h:MG f e lo hi b g H rs) (hr:rs[i]? = some r) (hj:j<r.xs.length) (gF:zX≤lo) (hv:(aB (f y)).length=e) (hs:(aB (f y)).all cH=true) :
  cQ zX e (.ptr r.b r.g j 0) (f y) H=some (H.set r.b (.row r.g ((r.xs.set j y).map f) e true)) :=
 fH (f:=f) (h.row hr) hj (Nat.le_trans gF (h.rows.row r (List.mem_of_getElem? hr)).1) hv hs
theorem MG.lt {i:Nat} {r:EF α} (h:MG f e lo hi b g H rs) (hr:rs[i]? = some r):lo≤r.b∧r.b<hi∧r.b<H.length:=⟨(h.rows.row r (List.mem_of_getElem? hr)).1,(h.rows.row r (List.mem_of_getElem? hr)).2.1,LC (h.row hr)⟩
theorem MG.cD {c:Nat} (h:MG f e lo hi b g H rs) (hc:rs.length≤c):RG f e (rs.map (·.xs)) lo hi H (.ref b g 0 rs.length c) := .inr ⟨b,g,c,rs,h.blo,h.bhi,by rw[List.length_map],by rw[List.length_map];exact hc,h.out,rfl,h.rows⟩
theorem MG.fz {d c:Nat} (h:MG f e lo hi b g H rs) (hc:rs.length≤c) (hp:∀x,aR (f x)=true):PM.fz (d+3) H (.ref b g 0 rs.length c)=some (bL (bL f) (rs.map (·.xs))):=SU hp h.out hc h.rows
end
theorem VEX:type_of% (And.intro @An<|And.intro @zP<|And.intro @mD.eq_1<|And.intro @oT.eq_1<|And.intro @oT.eq_2<|And.intro @CS.eq_1<|And.intro @CS.eq_2<|And.intro @vH.eq_1<|And.intro @vH.eq_2<|And.intro @Ej<|And.intro @zN<|And.intro @Cf<|And.intro @Cj<|And.intro @List.take_zero.{0}<|And.intro @List.take_succ_cons.{0}<|And.intro @List.take_nil.{0}<|And.intro @List.drop_zero.{0}<|And.intro @List.drop_succ_cons.{0}<|And.intro @List.drop_nil.{0}<|And.intro @List.append_nil.{0} <| @Nat.le_refl):=And.intro @An<|And.intro @zP<|And.intro @mD.eq_1<|And.intro @oT.eq_1<|And.intro @oT.eq_2<|And.intro @CS.eq_1<|And.intro @CS.eq_2<|And.intro @vH.eq_1<|And.intro @vH.eq_2<|And.intro @Ej<|And.intro @zN<|And.intro @Cf<|And.intro @Cj<|And.intro @List.take_zero.{0}<|And.intro @List.take_succ_cons.{0}<|And.intro @List.take_nil.{0}<|And.intro @List.drop_zero.{0}<|And.intro @List.drop_succ_cons.{0}<|And.intro @List.drop_nil.{0}<|And.intro @List.append_nil.{0} <| @Nat.le_refl
def Vd (P:Nat→Nat→aA→VV→Prop) (H:aA) (r:VV) (H':aA):Prop:=H <+: H'∧P H.length H'.length H' r
theorem Di {F lo:Nat} {args:List VV} {P:Nat→Nat→aA→VV→Prop} {H:aA} {K:VV→aA→Prop} (xU:CC.contains F=true) (h:qX F args lo H (Vd P H)) (hk:∀r L,P H.length (H++L).length (H++L) r→K r (H++L)):dD F args lo H K:=by
 refine nN xU (h.mono ?_)
 rintro r H' ⟨⟨L,rfl⟩,hP⟩
 exact hk r L hP
end Go.PM
namespace Go.PM
open Go.Lib
theorem Kz {k b g j o:Nat} (h:b<k):C0 k (.ptr b g j o) = .ptr b g j o:=Dg (by simp[below,h])
abbrev cell0:iY := .row 0 [.agg [VB false,.tree [] .nil,.tree [] .nil]] 3 true
theorem OM {k:Nat} {K:aA}:fZ k (cell0::K)=fZ k K:=uC rfl
theorem PF {k:Nat} {q:Rat} {K:aA}:fZ k (.row 0 [bX q] 3 true::K)=fZ k K:=uC (kM _ (by simp only[aJ,fN];rfl))
def sU (qs:List Rat):Rat:=qs.foldl (· + ·) 0
theorem KG {qs:List Rat} {i:Nat} {q:Rat} (h:qs[i]? = some q):sU (qs.take (i+1))=sU (qs.take i)+q:=by
 rw[F8 h,sU,List.foldl_append];rfl
theorem Lx {B:Nat}:∀ {qs:List Rat},(∀q∈qs,cE q≤B)→∀a:Rat,cE (qs.foldl (· + ·) a)≤qs.length*(B+1)+cE a
 | [],_,a=>by simp
 |
  q::qs,h,a=>by
  have h1:=Lx (fun x hx=>h x (List.mem_cons_of_mem _ hx)) (a+q)
  have h2:=KK a q
  have h3:=h q List.mem_cons_self
  rw[List.foldl_cons,List.length_cons,Nat.succ_mul]
  omega
theorem Aa {B:Nat} {qs:List Rat} (h:∀q∈qs,cE q≤B) (i:Nat):cE (sU (qs.take i))≤qs.length*(B+1)+1:=by
 have h1:=Lx (qs:=qs.take i) (fun q hq=>h q (List.mem_of_mem_take hq)) 0
 have h2:(qs.take i).length*(B+1)≤qs.length*(B+1):=Nat.mul_le_mul_right _ (by rw[List.length_take];omega)
 rw[IZ] at h1
 unfold sU
 omega
set_option maxHeartbeats 1000000 in
abbrev rz:VV := .agg [VB false,.tree [] .nil,.tree [] .nil]
theorem Eh {H H1:aA} {b:Nat} {x:iY} (h:H <+: H1) (hb:H.length≤b):H <+: H1.set b x:=by
 obtain⟨L,rfl⟩:=h
 rw[List.set_append_right _ _ hb]
 exact List.prefix_append _ _
theorem Vk {H H1 L:aA} (h:H <+: H1):H <+: H1++L:=h.trans (List.prefix_append _ _)
theorem Nz {lo:Nat} {H:aA} {q:Rat} (h:lo≤H.length):cQ lo 3 (.ptr H.length 0 0 0) (bX q) (H++[cell0])=some (H++[.row 0 [bX q] 3 true]):=by
 rw[kX (g:=0) (e:=3) (j:=0) Km (by exact Nat.zero_lt_one) h rfl rfl,N3]
 rfl
theorem Zu {H K:aA} {q:Rat}:dU true 3 (.ptr H.length 0 0 0) (H ++ .row 0 [bX q] 3 true::K)=some (bX q):=by
 rw[kP,MF,bT]
 exact cY _
theorem P0 {lo:Nat} {H:aA} {v:VV} (qs:List Rat) {B:Nat} (hv:Rd bX 3 qs H v) (gF:lo≤H.length) (hb:∀q∈qs,cE q≤B) (hk:qs.length*(B+1)+1≤1099511627776) (hB:B≤1099511627776) (hn:qs.length≤1000000000) :
  qX 148 [v] lo H (Vd (fun _ _ _ r=>r=bX (sU qs)) H):=by
 refine qX.walk ⟨true,false⟩ Q2 (Nat.le_of_ble_eq_true rfl) ?_
 have e1:TC 97 [VI 0] (bX 0):=nE 0 (by decide) (by decide)
 have e2:=hv.len (H++[cell0,.row 0 [bX 0] 3 true]) (List.prefix_append _ _)
 have s0:cQ lo 3 (.ptr (H.length+1) 0 0 0) (bX 0) (H++[cell0,cell0])=some (H++[cell0,.row 0 [bX 0] 3 true]):=by
  have:=Nz (lo:=lo) (H:=H++[cell0]) (q:=0) (by rw[List.length_append];omega)
  simpa only[List.length_append,List.length_cons,List.length_nil,Nat.zero_add,List.append_assoc,List.cons_append,List.nil_append] using this
 simp only[Px,IA,e1,e2,s0,List.length_append,List.length_cons,List.length_nil,List.append_assoc,List.cons_append,List.nil_append,VEX,VX,Nat.reduceEqDiff,Nat.reduceAdd,Nat.reduceLeDiff,Nat.reduceLT,Nat.reduceSub]
 refine aY (fun(i:Nat) ρ H1=>i≤qs.length∧H <+: H1∧aQ H1 H.length 0=some ([rz],3,true)∧aQ H1 (H.length+1) 0=some ([bX (sU (qs.take i))],3,true)∧ρ 2 = .ptr H.length 0 0 0∧ρ 3 = .ptr (H.length+1) 0 0 0∧ρ 7=v∧ρ 8=VI qs.length∧ρ 9=VI i) (fun i=>qs.length-i) 0 ⟨Nat.zero_le _,List.prefix_append _ _,MF.trans bT,Ss.trans (B2.trans bT),rfl,rfl,rfl,rfl,rfl⟩ ?_
 rintro i ρ H1 ⟨hi,hp,Nb,Na,g2,g3,g7,g8,g9⟩
 have DJ:=LC Na
 by_cases dA:(i:Int)<(qs.length:Int)
 ·obtain⟨q,hq⟩:∃q,qs[i]? = some q:=⟨_,List.getElem?_eq_getElem (by omega)⟩
  obtain⟨p,a1,a2⟩:=hv.get H1 hp i q hq
  have a2':=(a2 true).trans (cY _)
  have wi:IntKind.i64.wrap ((i:Int)+1)=((i+1:Nat):Int):=wrapN (i+1) (by omega) (by omega)
  have h1:=Aa hb i
  have h2:=hb q (List.mem_of_getElem? hq)
  have h3:(i+1)*(B+1)≤qs.length*(B+1):=Nat.mul_le_mul_right _ (by omega)
  have e3:=A1 (sU (qs.take i)) q (by omega) (by omega)
  rw[←KG hq] at e3
  have s1:=Nz (lo:=lo) (H:=H1) (q:=q) (by omega)
  have s2:=Zu (H:=H1) (K:=[]) (q:=q)
  have s3:dU true 3 (.ptr (H.length+1) 0 0 0) (H1++[.row 0 [bX q] 3 true])=some (bX (sU (qs.take i))):=by
   rw[kP,Bp Na]
   exact cY _
  have s4:=kX (lo:=lo) (v:=bX (sU (qs.take (i+1)))) (j:=0) (Bp (L:=[.row 0 [bX q] 3 true]) Na) (by exact Nat.zero_lt_one) (by omega) rfl rfl
  rw[List.set_cons_zero] at s4
  simp only[Bs,g2,g3,g7,g8,g9,dA,a1,a2',e3,s1,s2,s3,s4,wi,cY,VEX,VX,Nat.reduceEqDiff,Nat.reduceAdd,Nat.reduceLeDiff,Nat.reduceLT,Nat.reduceSub]
  exact⟨i+1,by omega,by omega,Eh (Vk hp) (by omega),nA (by omega) (Bp Nb),sN (Bp Na),by (repeat' apply And.intro)<;>first | rfl | trivial | assumption⟩
 ·have rS:i=qs.length:=by omega
  subst rS
  rw[List.take_length] at Na
  have s3:dU true 3 (.ptr (H.length+1) 0 0 0) H1=some (bX (sU qs)):=by
   rw[kP,Na]
   exact cY _
  have s4:=kX (lo:=lo) (v:=bX (sU qs)) (j:=0) Nb (by exact Nat.zero_lt_one) gF rfl rfl
  rw[List.set_cons_zero] at s4
  have s5:dU true 3 (.ptr H.length 0 0 0) (H1.set H.length (.row 0 [bX (sU qs)] 3 true))=some (bX (sU qs)):=by
   rw[kP,sN Nb]
   exact cY _
  simp only[Bs,g2,g3,g8,g9,dA,s3,s4,s5,VEX,VX,Nat.reduceEqDiff,Nat.reduceAdd,Nat.reduceLeDiff,Nat.reduceLT,Nat.reduceSub]
  exact⟨Eh hp (Nat.le_refl _),rfl⟩
theorem Kh {q:Rat}:jJ q<0↔q<0:=by
 have e:q.num<0↔q<0:=by rw[←Int.not_le,Rat.num_nonneg];constructor<;>intro h<;>grind
 rw[←e]
 rcases Int.lt_trichotomy q.num 0 with h | h | h
 ·rw[nG h];omega
 ·rw[jH h];omega
 ·rw[nQ h];omega
theorem It (q:Rat):TC 147 [bX q] (VB (decide (q<0))):=by
 refine TC.walk ⟨true,false⟩ IQ rfl (Nat.le_of_ble_eq_true rfl) (by simp[aJ,fN]) rfl ?_
 have e1:=hC q
 by_cases h:jJ q<0
 ·rw[decide_eq_true (Kh.1 h)]
  simp only[Ae,vN,e1,h,aF,bR,cY,aO,aN,aI,iA,Nat.reduceLeDiff,Nat.reduceLT,Nat.reduceSub,mT,cB,cP,gJ,kJ,nW,bne_iff_ne,ne_eq,not_false_eq_true,not_true_eq_false,VX,Nat.reduceEqDiff,Nat.reduceAdd]
  exact aG rfl
 ·rw[decide_eq_false (mt Kh.2 h)]
  simp only[Ae,vN,e1,h,aF,bR,cY,aO,aN,aI,iA,Nat.reduceLeDiff,Nat.reduceLT,Nat.reduceSub,mT,cB,cP,gJ,kJ,nW,bne_iff_ne,ne_eq,not_false_eq_true,not_true_eq_false,VX,Nat.reduceEqDiff,Nat.reduceAdd]
  exact aG rfl
theorem Aj (xs:List Rat) (g:Nat) (p:Rat→Bool) (hg:∀x∈xs,TC g [bX x] (VB (p x))) (hn:xs.length≤1000000000) :
  ∃k:Int,(0≤k↔xs.any p=true)∧TC 205 [bL bX xs,.sY g []] (VI k):=by
 refine⟨match xs.findIdx? p with | some i=>i | none => -1,?_,?_⟩
 ·cases h:xs.findIdx? p with
  |
   none =>
   rw[List.findIdx?_eq_none_iff] at h
   simp only[List.any_eq_true]
   constructor
   ·intro h';omega
   ·rintro⟨x,hx,hp⟩;rw[h x hx] at hp;cases hp
  |
   some i =>
   simp only[List.any_eq_true]
   obtain⟨hi,hp,_⟩:=List.findIdx?_eq_some_iff_getElem.1 h
   exact⟨fun _=>⟨_,List.getElem_mem hi,hp⟩,fun _=>by omega⟩
 ·refine TC.walk ⟨true,false⟩ mI rfl (Nat.le_of_ble_eq_true rfl) (by simp[aJ,uS];rfl) rfl ?_
  simp only[gQ,gC,VX,Nat.reduceEqDiff,Nat.reduceAdd]
  refine aY (fun(i:Nat) ρ H=>i≤xs.length∧H=[]∧(∀j x,j<i→xs[j]? = some x→p x=false)∧ρ 0=bL bX xs∧ρ 1 = .sY g []∧ρ 7=VI xs.length∧ρ 8=VI i) (fun i=>xs.length-i) 0 ⟨Nat.zero_le _,rfl,fun j x h=>by omega,rfl,rfl,rfl,rfl⟩ ?_
  rintro i ρ H ⟨hi,rfl,kA,h0,h1,h7,h8⟩
  by_cases dA:(i:Int)<(xs.length:Int)
  ·obtain⟨x,hx⟩:∃x,xs[i]? = some x:=⟨_,List.getElem?_eq_getElem (by omega)⟩
   have e1:=aM (f:=bX) (t := .op) (H:=[]) (size:=3) (k := .i64) hx rfl
   have wi:IntKind.i64.wrap ((i:Int)+1)=((i+1:Nat):Int):=wrapN (i+1) (by omega) (by omega)
   have e2:=hg x (List.mem_of_getElem? hx)
   cases hp:p x with
   |
    false =>
    rw[hp] at e2
    simp only[cC,h0,h1,h7,h8,dA,e1,e2,wi,Ak,List.append_nil,aF,bR,cY,aO,aN,aI,VX,Nat.reduceEqDiff,Nat.reduceAdd]
    refine⟨i+1,by omega,by omega,fun j y hj hy => ?_,by (repeat' apply And.intro)<;>first | rfl | trivial⟩
    rcases Nat.lt_or_ge j i with Kd | Kd
    ·exact kA j y Kd hy
    ·have:j=i:=by omega
     subst this
     rw[hx] at hy
     injection hy with hy
     exact hy▸hp
   |
    true =>
    rw[hp] at e2
    simp only[cC,h0,h1,h7,h8,dA,e1,e2,wi,Ak,List.append_nil,aF,bR,cY,aO,aN,aI,VX,Nat.reduceEqDiff,Nat.reduceAdd]
    have:xs.findIdx? p=some i:=by
     rw[List.findIdx?_eq_some_iff_getElem]
     obtain⟨aX,Cv⟩:=List.getElem?_eq_some_iff.1 hx
     exact⟨aX,by rw[Cv];exact hp,fun j hj=>by
      have:=kA j _ hj (List.getElem?_eq_getElem (by omega))
      simp[this]⟩
    rw[this]
    exact aG rfl
  ·simp only[cC,h0,h1,h7,h8,dA,VX,Nat.reduceEqDiff,Nat.reduceAdd]
   have:xs.findIdx? p=none:=by
    rw[List.findIdx?_eq_none_iff]
    intro x hx
    obtain⟨j,hj⟩:=List.getElem?_of_mem hx
    exact kA j x (by have:=(List.getElem?_eq_some_iff.1 hj).1;omega) hj
   rw[this]
   exact aG rfl
theorem wL (xs:List Rat) (g:Nat) (p:Rat→Bool) (hg:∀x∈xs,TC g [bX x] (VB (p x))) (hn:xs.length≤1000000000):TC 146 [bL bX xs,.sY g []] (VB (xs.any p)):=by
 refine TC.walk ⟨true,false⟩ kY rfl (Nat.le_of_ble_eq_true rfl) (by simp[aJ,uS];rfl) rfl ?_
 obtain⟨k,hk,hc⟩:=Aj xs g p hg hn
 have e:decide (0≤k)=xs.any p:=by
  cases h:xs.any p with
  | true=>rw[decide_eq_true (hk.2 h)]
  | false=>rw[decide_eq_false fun h'=>by rw[hk.1 h'] at h;cases h]
 simp only[fS,fF,hc,e,VX,Nat.reduceEqDiff,Nat.reduceAdd]
 exact aG rfl
def jD (qs:List Rat):Bool := !(qs.any fun q=>decide (q<0))&&decide (sU qs=1)
def qA (xs:List ByteArray):Option (List Rat):=match AN xs with
 | some qs=>if jD qs=true then some qs else none
 | none=>none
theorem JS {xs:List ByteArray} {qs:List Rat} (h:qA xs=some qs):AN xs=some qs∧jD qs=true:=by
 unfold qA at h
 split at h
 ·rename_i ps hp
  split at h
  ·rename_i hw
   cases h
   exact⟨hp,hw⟩
  ·cases h
 ·cases h
theorem Jm {n:Nat} (h:n≤300):n*(665+1)+1≤1099511627776:=by omega
theorem G1 {xs:List ByteArray} {qs:List Rat} (h:AN xs=some qs):qA xs=if jD qs=true then some qs else none:=by unfold qA;rw[h]
theorem Gt {xs:List ByteArray} (h:AN xs=none):qA xs=none:=by unfold qA;rw[h]
theorem vZ:Ku none = .eQ [bL bX [],VB false]:=rfl
theorem DI (qs:List Rat):Ku (some qs) = .eQ [bL bX qs,VB true]:=rfl
set_option maxHeartbeats 1000000 in
theorem FT (xs:List ByteArray) (hn:xs.length≤1000000000) (hs:∀s∈xs,s.size≤1000000000):TC 114 [fU xs] (Ku (qA xs)):=by
 refine TC.walk ⟨true,false⟩ Fq rfl (Nat.le_of_ble_eq_true rfl) (by simp[aJ,eI]) (KX _) ?_
 have e1:=NI xs hn hs
 cases h:AN xs with
 |
  none =>
  rw[h,vZ] at e1
  rw[Gt h,vZ]
  simp only[mN,jX,e1,VX,Nat.reduceEqDiff,Nat.reduceAdd]
  exact DF
 |
  some qs =>
  rw[h,DI] at e1
  rw[G1 h]
  obtain⟨hb,hl,_⟩:=DK h
  have e2:=wL qs 147 (fun q=>decide (q<0)) (fun q _=>It q) (by omega)
  have hm:qs.length*666≤199800:=by omega
  have e3:=fun(K:aA)=>P0 (lo:=0) (H:=K) (v:=bL bX qs) qs (B:=665) (Rd.tree Fz) (Nat.zero_le _) hb (Jm hl) (by decide) (by omega)
  have UP:=Aa hb qs.length
  rw[List.take_length] at UP
  have e4:=FI (sU qs) (by omega)
  cases Hv:qs.any (fun q=>decide (q<0)) with
  |
   true =>
   rw[Hv] at e2
   have hw:¬jD qs=true:=by unfold jD;rw[Hv];simp
   rw[if_neg hw,vZ]
   simp only[mN,jX,e1,e2,VX,Nat.reduceEqDiff,Nat.reduceAdd]
   exact DF
  |
   false =>
   rw[Hv] at e2
   by_cases T9:sU qs=1
   ·rw[decide_eq_true T9] at e4
    have hw:jD qs=true:=by unfold jD;rw[Hv,decide_eq_true T9];rfl
    rw[if_pos hw,DI]
    simp only[mN,jX,e1,e2,VX,Nat.reduceEqDiff,Nat.reduceAdd]
    refine Di rfl (e3 _) fun r L hr => ?_
    subst hr
    simp only[e4,VX,Nat.reduceEqDiff,Nat.reduceAdd]
    exact aG (UA (uS _) rfl)
   ·rw[decide_eq_false T9] at e4
    have hw:¬jD qs=true:=by unfold jD;rw[Hv,decide_eq_false T9];simp
    rw[if_neg hw,vZ]
    simp only[mN,jX,e1,e2,VX,Nat.reduceEqDiff,Nat.reduceAdd]
    refine Di rfl (e3 _) fun r L hr => ?_
    subst hr
    simp only[e4,VX,Nat.reduceEqDiff,Nat.reduceAdd]
    exact DF
end Go.PM
namespace Go.PM
open Go.Lib
def nS (qs:List Rat) (n:Nat):Nat→Rat
 | 0=>0
 | i+1=>nS qs n i+qs.getD i 0*(i:Rat)^n
theorem Bb {i:Nat} (h:i≤300) (n:Nat) (hn:n≤10):cE (((i:Int):Rat))≤9∧cE (((i:Int):Rat)^n)≤91:=by
 have h1:=UG (i:Int)
 have h2:bl (i:Int).natAbs≤9:=by rw[Int.natAbs_natCast];exact CT (by omega)
 have h3:cE (((i:Int):Rat))≤9:=by omega
 have h4:=Cl (((i:Int):Rat)) n
 have h5:n*cE (((i:Int):Rat))≤10*9:=Nat.mul_le_mul hn h3
 exact⟨h3,by omega⟩
theorem BS {qs:List Rat} {n:Nat} (hb:∀q∈qs,cE q≤665) (hl:qs.length≤300) (hn:n≤10):∀i,i≤qs.length→cE (nS qs n i)≤1000*i+1
 | 0,_=>by rw[nS,IZ];omega
 |
  i+1,hi=>by
  have h1:=BS hb hl hn i (by omega)
  have hq:qs[i]? = some qs[i]:=List.getElem?_eq_getElem (by omega)
  have h2:=hb _ (List.getElem_mem (by omega:i<qs.length))
  have h3:=(Bb (i:=i) (by omega) n hn).2
  have h4:=Ck qs[i] (((i:Int):Rat)^n)
  have h5:=KK (nS qs n i) (qs[i]*((i:Int):Rat)^n)
  have e:((i:Nat):Rat)=((i:Int):Rat):=rfl
  rw[nS,List.getD_eq_getElem?_getD,hq,Option.getD_some,e]
  omega
set_option maxHeartbeats 1000000 in
theorem JX (qs:List Rat) (n:Nat) (hb:∀q∈qs,cE q≤665) (hl:qs.length≤300) (hn:n≤10):TC 120 [bL bX qs,VI n] (bX (nS qs n qs.length)):=by
 refine TC.walk ⟨true,false⟩ Kf rfl (Nat.le_of_ble_eq_true rfl) (by simp only[aJ,uS];rfl) (sI _) ?_
 have e1:TC 97 [VI 0] (bX 0):=nE 0 (by decide) (by decide)
 simp only[Gg,CP,e1,aF,bR,cY,aO,aN,aI,iA,Nat.reduceLeDiff,Nat.reduceLT,Nat.reduceSub,mT,cB,cP,gJ,kJ,nW,bne_iff_ne,ne_eq,not_false_eq_true,not_true_eq_false,VX,Nat.reduceEqDiff,Nat.reduceAdd]
 refine I6 (fun(i:Nat) ρ H=>i≤qs.length∧H=[cell0,.row 0 [bX (nS qs n i)] 3 true]∧ρ 1=VI n∧ρ 4 = .ptr 0 0 0 0∧ρ 5 = .ptr 1 0 0 0∧ρ 9=bL bX qs∧ρ 10=VI qs.length∧ρ 11=VI i) (fun i=>qs.length-i) 0 ⟨Nat.zero_le _,rfl,rfl,rfl,rfl,rfl,rfl,rfl⟩ ?_
 rintro i ρ H ⟨hi,rfl,g1,g4,g5,g9,g10,g11⟩
 by_cases dA:(i:Int)<(qs.length:Int)
 ·obtain⟨q,hq⟩:∃q,qs[i]? = some q:=⟨_,List.getElem?_eq_getElem (by omega)⟩
  have e2:=fun H=>aM (f:=bX) (t := .op) (H:=H) (size:=3) (k := .i64) hq rfl
  have wi:IntKind.i64.wrap ((i:Int)+1)=((i+1:Nat):Int):=wrapN (i+1) (by omega) (by omega)
  have h1:=BS hb hl hn i hi
  have h2:=hb q (List.mem_of_getElem? hq)
  obtain⟨h3,h4⟩:=Bb (i:=i) (by omega) n hn
  have h5:=Ck q (((i:Int):Rat)^n)
  have e3:=nE (i:Int) (by omega) (by omega)
  have e4:=F0 ((i:Int):Rat) n (by omega) (by omega)
  have e5:=BY q (((i:Int):Rat)^n) (by omega) (by omega)
  have e6:=A1 (nS qs n i) (q*((i:Int):Rat)^n) (by omega) (by omega)
  have e7:nS qs n i+q*((i:Int):Rat)^n=nS qs n (i+1):=by
   rw[nS,List.getD_eq_getElem?_getD,hq,Option.getD_some]
   rfl
  rw[e7] at e6
  simp only[vK,g1,g4,g5,g9,g10,g11,dA,e2,e3,e4,e5,e6,wi,aF,bR,cY,aO,aN,aI,iA,Nat.reduceLeDiff,Nat.reduceLT,Nat.reduceSub,mT,cB,cP,gJ,kJ,nW,bne_iff_ne,ne_eq,not_false_eq_true,not_true_eq_false,VX,Nat.reduceEqDiff,Nat.reduceAdd]
  refine⟨i+1,by omega,by rw[OM,PF,FB],by omega,rfl,?_⟩
  simp only[fD,g1,g4,g5,g9,g10,vP (uS _),Kz (by decide:0<2),Kz (by decide:1<2),VX,Nat.reduceEqDiff,Nat.reduceAdd,List.take_zero,fZ,List.all_nil,List.length_nil,fD,Je,vP]
 ·have rS:i=qs.length:=by omega
  subst rS
  simp only[vK,g1,g4,g5,g9,g10,g11,dA,aF,bR,cY,aO,aN,aI,iA,Nat.reduceLeDiff,Nat.reduceLT,Nat.reduceSub,mT,cB,cP,gJ,kJ,nW,bne_iff_ne,ne_eq,not_false_eq_true,not_true_eq_false,VX,Nat.reduceEqDiff,Nat.reduceAdd]
  exact aG (fN _)
def PK (xs:List ByteArray) (n:Int):VV:=match qA xs with
 | some qs=>if 0≤n∧n≤10 then EK (nS qs n.toNat qs.length) else .eQ [aS [],VB false]
 | none => .eQ [aS [],VB false]
theorem PD (xs:List ByteArray) (n:Int):gO (PK xs n)=true:=by
 unfold PK
 split
 ·split
  ·exact F7 _
  ·rfl
 ·rfl
theorem XF (xs:List ByteArray) (n:Int):∃s k,PK xs n = .eQ [aS s,VB k]:=by
 unfold PK
 split
 ·split
  ·exact Ff _
  ·exact⟨_,_,rfl⟩
 ·exact⟨_,_,rfl⟩
theorem Ht (xs:List ByteArray) (n:Int) (hn:xs.length≤1000000000) (hs:∀s∈xs,s.size≤1000000000):TC 47 [fU xs,VI n] (PK xs n):=by
 refine TC.walk ⟨true,false⟩ Hm rfl (Nat.le_of_ble_eq_true rfl) (by simp only[aJ,eI];rfl) (PD _ _) ?_
 have e1:=FT xs hn hs
 have e2:=S7 n 0 10
 unfold PK
 cases h:qA xs with
 |
  none =>
  rw[h,vZ] at e1
  simp only[]
  simp only[sF,oP,e1,VX,Nat.reduceEqDiff,Nat.reduceAdd]
  exact aG rfl
 |
  some qs =>
  rw[h,DI] at e1
  simp only[]
  by_cases hk:0≤n∧n≤10
  ·obtain⟨m,rfl⟩:∃m:Nat,n=m:=⟨n.toNat,by omega⟩
   rw[decide_eq_true hk] at e2
   rw[if_pos hk,Int.toNat_natCast]
   obtain⟨hb,hl,_⟩:=DK (JS h).1
   have e3:=JX qs m hb hl (by omega)
   have h3:=BS (n:=m) hb hl (by omega) qs.length (Nat.le_refl _)
   have e4:=Nk (nS qs m qs.length) (by omega)
   obtain⟨s,k,hsk⟩:=Ff (nS qs m qs.length)
   rw[hsk] at e4 ⊢
   simp only[sF,oP,e1,e2,e3,e4,VX,Nat.reduceEqDiff,Nat.reduceAdd]
   exact aG rfl
  ·rw[decide_eq_false hk] at e2
   rw[if_neg hk]
   simp only[sF,oP,e1,e2,VX,Nat.reduceEqDiff,Nat.reduceAdd]
   exact aG rfl
end Go.PM
namespace Go.PM
open Go.Lib
theorem Xd (d:Nat) (h:d≤9223372036854775807):TC 235 [VI (d:Int)] (aS (decDigits d)):=by
 have:=J1 (d:Int) (by omega) (by omega)
 rw[if_neg (by omega),List.nil_append,Int.natAbs_natCast] at this
 exact this
theorem U7 {n i:Nat} (hi:i+1=(aC 1000000000 n).length):n / 1000000000^i=n / 1000000000^i % 1000000000:=by
 have h1:=Ur (b:=1000000000) (by decide) n (i+1)
 rw[List.drop_of_length_le (by omega)] at h1
 have h2:=(jV (b:=1000000000) (by decide)).1 h1.symm
 rw[qI] at h2
 rcases Nat.div_eq_zero_iff.1 h2 with h | h
 ·exact absurd h (by decide)
 ·exact(Nat.mod_eq_of_lt h).symm
theorem Gj (l:List UInt8) (a b:Nat):(⟨l.toArray⟩:ByteArray).extract a b=⟨((l.drop a).take (b-a)).toArray⟩:=by
 rw[ByteArray.ext_iff,ByteArray.data_extract]
 simp[List.extract_toArray,List.extract_eq_take_drop]
theorem Xg (l:List UInt8) {a b:Nat} (h:a≤b) (hb:b≤l.length):sS (aS l) (some (VI (a:Int))) (some (VI (b:Int)))=some (aS ((l.drop a).take (b-a))):=by
 have hs:(⟨l.toArray⟩:ByteArray).size=l.length:=by simp[ByteArray.size]
 have e1:(0:Int)≤b∧(b:Int)≤(l.length:Int):=by omega
 have e2:(0:Int)≤a∧(a:Int)≤(b:Int):=by omega
 simp only[sS,D5,xF,hs,dR,e1,e2,and_self,if_true,Int.toNat_natCast,Gj]
theorem KM (l:List UInt8) {a:Nat} (h:a≤l.length):sS (aS l) (some (VI (a:Int))) none=some (aS (l.drop a)):=by
 have hs:(⟨l.toArray⟩:ByteArray).size=l.length:=by simp[ByteArray.size]
 have e2:(0:Int)≤a∧(a:Int)≤(l.length:Int):=by omega
 simp only[sS,D5,xF,hs,dR,e2,and_self,if_true,Int.toNat_natCast,Gj]
 rw[List.take_of_length_le (by simp)]
theorem aiQ (l:List UInt8) (h:1≤l.length):sS (aS l) (some (VI 1)) none=some (aS (l.drop 1)):=KM l h
theorem Ux {a:Nat} (h:a<1000000000):IntKind.i64.wrap ((a:Int)+1000000000)=((a+1000000000:Nat):Int):=wrapN _ (by omega) (by omega)
theorem lY (n:Nat) (hn:bl n≤2199023255552):TC 212 [bN n] (aS (decDigits n)):=by
 refine TC.walk ⟨true,false⟩ D8 rfl (Nat.le_of_ble_eq_true rfl) (by simp[aJ,bU]) rfl ?_
 by_cases h0:n=0
 ·subst h0
  have hl:(((aC 1000000000 0).length:Nat):Int)=0:=by rw[bQ];rfl
  simp only[sZ,qQ,cK,hl,VX,Nat.reduceEqDiff,Nat.reduceAdd]
  rw[gR (by decide)]
  exact aG rfl
 have hl:¬(((aC 1000000000 n).length:Nat):Int)=0:=by have:=(wH (n:=n)).2 h0;omega
 obtain⟨L,hL⟩:∃L,(aC 1000000000 n).length=L+1:=⟨(aC 1000000000 n).length-1,by omega⟩
 have Bf:=mY (n:=n) (by omega)
 have hlT:=ZQ n
 have hdl:=zE n
 have w1:IntKind.i64.wrap (((L+1:Nat):Int)-1)=(L:Int):=wrapN _ (by omega) (by omega)
 have w2:IntKind.i64.wrap (((L+1:Nat):Int)-2)=(L:Int)-1:=by rw[wrap64 (by omega) (by omega)];omega
 have at':∀i,i≤L→bE 1 (bN n) (VI (i:Int)) []=some (.cO (tV (n / 1000000000^i % 1000000000)) 0):=fun i hi=>aM (f:=tV) (t := .op) (H:=[]) (size:=1) (k := .i64) (I4 (b:=1000000000) (by decide) (n:=n) (i:=i) (by omega)) rfl
 have eL:=at' L (Nat.le_refl _)
 have Xl:=U7 (n:=n) (i:=L) (by omega)
 rw[←Xl] at eL
 have Kc:n / 1000000000^L≠0:=(Cp (b:=1000000000) (by decide)).1 (by omega)
 have hqT:n / 1000000000^L<1000000000:=by rw[Xl];exact Nat.mod_lt _ (by decide)
 have c1:=Xd (n / 1000000000^L) (by omega)
 rw[hL] at hl
 simp only[sZ,qQ,cK,hL,hl,w1,w2,eL,c1,VX,Nat.reduceEqDiff,Nat.reduceAdd]
 refine aY (fun(j:Nat) ρ H=>j≤L∧H=[]∧ρ 0=bN n∧ρ 3=aS (decDigits (n / 1000000000^j))∧ρ 4=VI ((j:Int)-1)) (fun j=>j) L ⟨Nat.le_refl _,rfl,rfl,rfl,rfl⟩ ?_
 rintro j ρ H ⟨hj,rfl,g0,g3,g4⟩
 by_cases hz:(0:Int)≤(j:Int)-1
 ·obtain⟨i,rfl⟩:∃i,j=i+1:=⟨j-1,by omega⟩
  have Kd:((i+1:Nat):Int)-1=(i:Int):=by omega
  rw[Kd] at g4 hz
  have e1:=at' i (by omega)
  have hm:=Nat.mod_lt (n / 1000000000^i) (show 0<1000000000 by decide)
  have hq1:n / 1000000000^(i+1)≠0:=(Cp (b:=1000000000) (by decide)).1 (by omega)
  have hdm:=Nat.mod_add_div (n / 1000000000^i) 1000000000
  rw[←qI] at hdm
  have hch:=E2 (Nat.pos_of_ne_zero hq1) hm
  have hle:n / 1000000000^i≤n:=Nat.div_le_self _ _
  have Wt:=zE (n / 1000000000^i)
  have hbi:=jI hle
  rw[show n / 1000000000^(i+1)*1000000000+n / 1000000000^i % 1000000000=n / 1000000000^i by omega] at hch
  generalize hAA:n / 1000000000^i=A at *
  generalize n / 1000000000^(i+1)=B at *
  have w4:IntKind.i64.wrap ((i:Int)-1)=(i:Int)-1:=wrap64 (by omega) (by omega)
  have c2:=Xd (A % 1000000000+1000000000) (by omega)
  rw[YU hm] at c2
  have e2:=aiQ (d10 1::AT 9 (A % 1000000000)) (by simp)
  rw[List.drop_succ_cons,List.drop_zero] at e2
  have hlen:=congrArg List.length hch
  rw[List.length_append] at hlen
  have a1:=sC (decDigits B) (AT 9 (A % 1000000000)) (by omega)
  rw[←hch] at a1
  have amS:i≤L:=by omega
  have hmu:i<i+1:=by omega
  have w3:=Ux hm
  simp only[oW,g0,g3,g4,hz,e1,w3,w4,c2,e2,a1,VX,Nat.reduceEqDiff,Nat.reduceAdd]
  refine⟨i,hmu,amS,?_⟩
  rw[hAA]
  exact⟨rfl,rfl⟩
 ·have Qq:j=0:=by omega
  subst Qq
  rw[Nat.pow_zero,Nat.div_one] at g3
  simp only[oW,g0,g3,g4,hz,VX,Nat.reduceEqDiff,Nat.reduceAdd]
  exact aG rfl
theorem IJ (q:Rat) (hk:cE q≤1099511627776):TC 176 [cG q] (VB (Bx q)):=by
 refine TC.walk ⟨true,false⟩ JB rfl (Nat.le_of_ble_eq_true rfl) (by simp[aJ,uI]) rfl ?_
 have la:=rC hk
 have lb:=rE hk
 have t1:=lY q.num.natAbs (by omega)
 have t2:=lY q.den (by omega)
 have hf:Bx q=(decide (((decDigits q.num.natAbs).length:Int)≤200)&&decide (((decDigits q.den).length:Int)≤200)):=by
  unfold Bx
  congr 1<;>exact decide_eq_decide.2 (by omega)
 rw[hf]
 by_cases hl:((decDigits q.num.natAbs).length:Int)≤200
 ·simp only[zQ,vG,t1,t2,hl,bC,bP,kB,mW,mJ,aK,iA,Nat.reduceLeDiff,Nat.reduceLT,Nat.reduceSub,VX,Nat.reduceEqDiff,Nat.reduceAdd]
  exact aG rfl
 ·simp only[zQ,vG,t1,t2,hl,bC,bP,kB,mW,mJ,aK,iA,Nat.reduceLeDiff,Nat.reduceLT,Nat.reduceSub,VX,Nat.reduceEqDiff,Nat.reduceAdd]
  exact aG rfl
theorem I8 (q:Rat) (hk:cE q≤1099511627776):TC 163 [cG q] (aS (Ju q)):=by
 refine TC.walk ⟨true,false⟩ Jk rfl (Nat.le_of_ble_eq_true rfl) (by simp[aJ,uI]) rfl ?_
 have la:=rC hk
 have lb:=rE hk
 have t1:=lY q.num.natAbs (by omega)
 have t2:=lY q.den (by omega)
 have d1:=zE q.num.natAbs
 have d2:=zE q.den
 have c1:∀lo H K,_:=fun lo H K=>HN (n:=q.den) (lo:=lo) (H:=H) (K:=K) (Nat.le_of_lt (mY (by omega)))
 have a1:cX .add (.string ⟨#[45]⟩) (.string ⟨(decDigits q.num.natAbs).toArray⟩)=some (.string ⟨(45::decDigits q.num.natAbs).toArray⟩):=sC [45] _ (by simp only[List.length_cons,List.length_nil];omega)
 have a2:cX .add (.string ⟨#[47]⟩) (.string ⟨(decDigits q.den).toArray⟩)=some (.string ⟨(47::decDigits q.den).toArray⟩):=sC [47] (decDigits q.den) (by simp only[List.length_cons,List.length_nil];omega)
 have a3:=sC (45::decDigits q.num.natAbs) (47::decDigits q.den) (by simp only[List.length_cons];omega)
 have a4:=sC (decDigits q.num.natAbs) (47::decDigits q.den) (by simp only[List.length_cons];omega)
 have hs:Ju q=(if q.num<0 then (45::decDigits q.num.natAbs) else decDigits q.num.natAbs)++(if q.den=1 then [] else 47::decDigits q.den):=by
  unfold Ju
  by_cases hn:q.num<0
  ·rw[if_pos hn,if_pos hn];rfl
  ·rw[if_neg hn,if_neg hn];rfl
 rw[hs]
 by_cases hd:dY q.den 1=0
 ·rw[if_pos (uA.1 hd),List.append_nil]
  by_cases hn:q.num<0
  all_goals
   simp only[Af,wF,t1,t2,a1,a2,a3,a4,c1,hd,hn,dC,bP,kB,mW,mJ,aK,iA,Nat.reduceLeDiff,Nat.reduceLT,Nat.reduceSub,VX,Nat.reduceEqDiff,Nat.reduceAdd]
   exact aG rfl
 ·rw[if_neg (mt uA.2 hd)]
  by_cases hn:q.num<0
  all_goals
   simp only[Af,wF,t1,t2,a1,a2,a3,a4,c1,hd,hn,dC,bP,kB,mW,mJ,aK,iA,Nat.reduceLeDiff,Nat.reduceLT,Nat.reduceSub,VX,Nat.reduceEqDiff,Nat.reduceAdd]
   exact aG rfl
theorem HS (q:Rat) (hk:cE q≤1099511627776):TC 93 [cG q] (EK q):=by
 refine TC.walk ⟨true,false⟩ H6 rfl (Nat.le_of_ble_eq_true rfl) (by simp[aJ,uI]) (F7 q) ?_
 have t1:=IJ q hk
 have t2:=I8 q hk
 unfold EK
 by_cases h:Bx q=true
 ·rw[h] at t1
  rw[if_pos h]
  simp only[Aq,uW,t1,t2,bP,gW,dE,aK,iA,Nat.reduceLeDiff,Nat.reduceLT,Nat.reduceSub,VX,Nat.reduceEqDiff,Nat.reduceAdd]
  exact aG rfl
 ·have h':Bx q=false:=by simpa using h
  rw[h'] at t1
  rw[if_neg h]
  simp only[Aq,uW,t1,bP,gW,dE,aK,iA,Nat.reduceLeDiff,Nat.reduceLT,Nat.reduceSub,VX,Nat.reduceEqDiff,Nat.reduceAdd]
  exact aG rfl
end Go.PM
namespace Go.PM
open Go.Lib
def fV (c:UInt8):List UInt8→List (List UInt8)
 | []=>[[]]
 |
  x::r=>if x=c then []::fV c r else match fV c r with
  | []=>[[x]]
  | a::t=>(x::a)::t
theorem IF {c:UInt8} {r:List UInt8}:∀ {a:List UInt8},c∉a→fV c (a++c::r)=a::fV c r:=by
 intro a
 induction a with
 | nil=>intro _;rw[List.nil_append,fV,if_pos rfl]
 |
  cons x a ih =>
  intro h
  rw[List.mem_cons,not_or] at h
  rw[List.cons_append,fV,if_neg (fun he=>h.1 he.symm),ih h.2]
theorem DE {c:UInt8}:∀ {a:List UInt8},c∉a→fV c a=[a]:=by
 intro a
 induction a with
 | nil=>intro _;rfl
 |
  cons x a ih =>
  intro h
  rw[List.mem_cons,not_or] at h
  rw[fV,if_neg (fun he=>h.1 he.symm),ih h.2]
theorem QR {c:UInt8} (l:List UInt8):fV c l≠[]:=by
 cases l with
 | nil=>simp[fV]
 |
  cons x r =>
  rw[fV]
  split
  ·simp
  ·split<;>simp
theorem N9 {c:UInt8} {l:List UInt8} (h:(kE c l).2=none):fV c l=[l]:=DE (xZ h).2.2
theorem G2 {c:UInt8} {l r:List UInt8} (h:(kE c l).2=some r):fV c l=(kE c l).1::fV c r:=by
 obtain⟨_,h2,h3⟩:=E3 h
 have:=IF (r:=r) h3
 rw[←h2] at this
 exact this
theorem Oy {c:UInt8} {l:List UInt8} (h:c∈l):2≤(fV c l).length:=by
 cases hc:(kE c l).2 with
 | none=>exact absurd h (xZ hc).2.2
 |
  some r =>
  rw[G2 hc,List.length_cons]
  have:=List.length_pos_iff.2 (QR (c:=c) r)
  omega
theorem TM {l:List UInt8} {i:Nat} (h:i<l.length):(l.take (i+1)).all gL=((l.take i).all gL&&gL (l.getD i 0)):=by
 rw[List.take_add_one,List.all_append]
 have:l[i]? = some (l.getD i 0):=by rw[List.getElem?_eq_getElem h,List.getD_eq_getElem?_getD,List.getElem?_eq_getElem h];rfl
 rw[this]
 simp
set_option maxHeartbeats 1000000 in
theorem nO (l:List UInt8) (hl:l.length≤1000000000000):TC 223 [aS l] (VB (gD l)):=by
 refine TC.walk ⟨true,false⟩ FR rfl (Nat.le_of_ble_eq_true rfl) rfl rfl ?_
 simp only[A8,yP,VX,Nat.reduceEqDiff,Nat.reduceAdd]
 refine aY (fun(i:Nat) ρ H=>i≤l.length∧H=[]∧(l.take i).all gL=true∧ρ 0=aS l∧ρ 3=VI i) (fun i=>l.length-i) 0 ⟨Nat.zero_le _,rfl,rfl,rfl,rfl⟩ ?_
 rintro i ρ H ⟨hi,rfl,hd,g0,g3⟩
 by_cases dA:(i:Int)<(l.length:Int)
 ·have QH:i<l.length:=by omega
  have e1:=BO l QH
  have wi:IntKind.i64.wrap ((i:Int)+1)=((i+1:Nat):Int):=wrapN (i+1) (by omega) (by omega)
  have ht:=TM QH
  rw[hd,Bool.true_and] at ht
  have Rp:gL (l.getD i 0)=(decide (48≤(l.getD i 0).toNat)&&decide ((l.getD i 0).toNat≤57)):=rfl
  have kA:gL (l.getD i 0)=false→gD l=false:=by
   intro h
   rw[h] at ht
   have:l.all gL=false:=by rw[←List.take_append_drop (i+1) l,List.all_append,ht,Bool.false_and]
   unfold gD
   rw[this]
   rfl
  generalize (l.getD i 0).toNat=c at *
  by_cases q1:(c:Int)<48
  ·rw[kA (by rw[Rp,decide_eq_false (by omega)];rfl)]
   simp only[cZ,g0,g3,bC,dA,e1,q1,VX,Nat.reduceEqDiff,Nat.reduceAdd]
   exact aG rfl
  ·by_cases q2:(57:Int)<(c:Int)
   ·rw[kA (by rw[Rp,decide_eq_false (show ¬c≤57 by omega),Bool.and_false])]
    simp only[cZ,g0,g3,bC,dA,e1,q1,q2,VX,Nat.reduceEqDiff,Nat.reduceAdd]
    exact aG rfl
   ·rw[Rp,decide_eq_true (by omega),decide_eq_true (by omega),Bool.and_self] at ht
    simp only[cZ,g0,g3,bC,dA,e1,q1,q2,wi,VX,Nat.reduceEqDiff,Nat.reduceAdd]
    exact⟨i+1,by omega,by omega,ht,rfl⟩
 ·have rS:i=l.length:=by omega
  subst rS
  rw[List.take_length] at hd
  by_cases h1:(1:Int)≤(l.length:Int)
  ·by_cases h2:(l.length:Int)≤200
   ·by_cases h3:(l.length:Int)=1
    ·rw[iM.2 ⟨hd,by omega,by omega,.inl (by omega)⟩]
     simp only[cZ,g0,g3,bC,dA,ge_iff_le,h1,h2,h3,Int.reduceLE,Int.reduceLT,VX,Nat.reduceEqDiff,Nat.reduceAdd]
     exact aG rfl
    ·have e1:=FW l (by omega)
     by_cases h4:(((l.getD 0 0).toNat:Int)=48)
     ·have hk:gD l=false:=by
       cases h:gD l with
       | false=>rfl
       |
        true =>
        rcases(iM.1 h).2.2.2 with h5 | h5
        ·omega
        ·exact absurd (UInt8.toNat_inj.1 (by rw[show (48:UInt8).toNat=48 from rfl];omega)) h5
      rw[hk]
      simp only[cZ,g0,g3,bC,dA,ge_iff_le,h1,h2,h3,h4,e1,VX,Nat.reduceEqDiff,Nat.reduceAdd]
      exact aG rfl
     ·have h5:l.getD 0 0≠48:=fun h=>h4 (by rw[h];rfl)
      rw[iM.2 ⟨hd,by omega,by omega,.inr h5⟩]
      simp only[cZ,g0,g3,bC,dA,ge_iff_le,h1,h2,h3,h4,e1,VX,Nat.reduceEqDiff,Nat.reduceAdd]
      exact aG rfl
   ·have hk:gD l=false:=by
     cases h:gD l with
     | false=>rfl
     | true=>have:=(iM.1 h).2.2.1;omega
    rw[hk]
    simp only[cZ,g0,g3,bC,dA,ge_iff_le,h1,h2,VX,Nat.reduceEqDiff,Nat.reduceAdd]
    exact aG rfl
  ·have hk:gD l=false:=by
    cases h:gD l with
    | false=>rfl
    | true=>have:=(iM.1 h).2.1;omega
   rw[hk]
   simp only[cZ,g0,g3,bC,dA,ge_iff_le,h1,VX,Nat.reduceEqDiff,Nat.reduceAdd]
   exact aG rfl
set_option maxHeartbeats 1000000 in
theorem CY (l:List UInt8) (c:UInt8) (hl:l.length≤1000000000000):TC 222 [aS l,.sc (.int .u8 (c.toNat:Int))] (bL aS (fV c l)):=by
 refine TC.walk ⟨true,false⟩ JN rfl (Nat.le_of_ble_eq_true rfl) rfl (By (size:=1) (fun _=>rfl) (fun _=>rfl) fun _=>rfl) ?_
 have e3:∀lr,rN lr [.string ⟨#[]⟩] 0 [] []=some (.ref 0 0 0 0 0,[.row 0 (([]:List (List UInt8)).map aS) 1 true]):=fun lr=>oC (H:=[]) (lr:=lr) (z:=[.string ⟨#[]⟩]) rfl
 have e4:∀(x:List UInt8) (H:aA),rN false [.string ⟨#[]⟩] 1 [(0,aS x)] H=some (.tree [aS x] (.cl 1),H):=fun x H=>sK (z:=[.string ⟨#[]⟩]) rfl rfl rfl
 have e5:∀(x:List UInt8) (H:aA),eX 1 (.tree [aS x] (.cl 1)) H=some [aS x]:=fun x H=>pJ rfl rfl
 simp only[GG,CV,e3,VX,Nat.reduceEqDiff,Nat.reduceAdd]
 refine aY (fun(s:List (List UInt8)×Nat×Nat) ρ H=>H=[.row s.1.length (s.1.map aS) 1 true]∧s.2.1≤s.2.2∧s.2.2≤l.length+1∧s.1.length≤s.2.1 ∧
  ((s.2.2≤l.length∧fV c l=s.1++fV c (l.drop s.2.1)∧c∉(l.drop s.2.1).take (s.2.2-s.2.1))∨(s.2.2=l.length+1∧fV c l=s.1)) ∧
  ρ 0=aS l∧ρ 1 = .sc (.int .u8 (c.toNat:Int))∧ρ 5 = .ref 0 s.1.length 0 s.1.length s.1.length∧ρ 6=VI s.2.1∧ρ 7=VI s.2.2) (fun s=>l.length+1-s.2.2) ([],0,0) ⟨rfl,Nat.zero_le _,Nat.zero_le _,Nat.zero_le _,.inl ⟨Nat.zero_le _,rfl,by simp⟩,rfl,rfl,rfl,rfl,rfl⟩ ?_
 rintro⟨out,fr,i⟩ ρ H ⟨rfl,hfi,hi,iF,FM,g0,g1,g5,g6,g7⟩
 simp only at hfi hi iF FM g5 g6 g7
 by_cases dA:(i:Int)≤(l.length:Int)
 ·have QH:i≤l.length:=by omega
  obtain⟨hp,hc⟩:fV c l=out++fV c (l.drop fr)∧c∉(l.drop fr).take (i-fr):=by
   rcases FM with⟨_,h1,h2⟩ | ⟨h,_⟩
   ·exact⟨h1,h2⟩
   ·omega
  have wi:IntKind.i64.wrap ((i:Int)+1)=((i+1:Nat):Int):=wrapN (i+1) (by omega) (by omega)
  have e2:=Xg l hfi QH
  have eP:=pK (f:=aS) (xs:=out) (x:=(l.drop fr).take (i-fr)) (lo:=0) (b:=0) (g:=out.length) (n:=out.length) (e:=1) (bytes:=16) (H:=[.row out.length (out.map aS) 1 true]) bT rfl (Nat.zero_le _) (by decide) (by decide) (by omega)
  have Fa:([.row out.length (out.map aS) 1 true]:aA).set 0 (.row (out.length+1) ((out++[(l.drop fr).take (i-fr)]).map aS) 1 true)=[.row (out.length+1) ((out++[(l.drop fr).take (i-fr)]).map aS) 1 true]:=rfl
  rw[Fa] at eP
  by_cases q1:i=l.length
  ·subst q1
   have Wj:fV c l=out++[(l.drop fr).take (l.length-fr)]:=by
    rw[hp]
    have:(l.drop fr).take (l.length-fr)=l.drop fr:=List.take_of_length_le (by rw[List.length_drop];omega)
    rw[this] at hc ⊢
    rw[DE hc]
   simp only[mU,g0,g1,g5,g6,g7,bC,dA,eq_self,e2,e4,e5,eP,wi,VX,Nat.reduceEqDiff,Nat.reduceAdd]
   refine⟨(out++[(l.drop fr).take (l.length-fr)],l.length+1,l.length+1),by simp only;omega,?_,by simp only;omega,by simp only;omega,?_,.inr ⟨rfl,Wj⟩,?_⟩
   ·simp
   ·simp only[List.length_append,List.length_cons,List.length_nil];omega
   ·simp
  ·have Zv:i<l.length:=by omega
   have q1':¬(i:Int)=(l.length:Int):=by omega
   have e1:=BO l Zv
   have Z0:l.drop i=l.getD i 0::l.drop (i+1):=by rw[List.drop_eq_getElem_cons Zv,List.getD_eq_getElem?_getD,List.getElem?_eq_getElem Zv];rfl
   by_cases q2:l.getD i 0=c
   ·have q2':((l.getD i 0).toNat:Int)=(c.toNat:Int):=by rw[q2]
    have Wj:fV c l=(out++[(l.drop fr).take (i-fr)])++fV c (l.drop (i+1)):=by
     have Ps:l.drop fr=(l.drop fr).take (i-fr)++c::l.drop (i+1):=by
      have h1:(l.drop fr).drop (i-fr)=l.drop i:=by rw[List.drop_drop];congr 1;omega
      conv=>lhs;rw[←List.take_append_drop (i-fr) (l.drop fr),h1,Z0,q2]
     rw[hp]
     conv=>lhs;rw[Ps]
     rw[IF hc,List.append_assoc]
     rfl
    simp only[mU,g0,g1,g5,g6,g7,bC,dA,q1',e1,q2',eq_self,e2,e4,e5,eP,wi,VX,Nat.reduceEqDiff,Nat.reduceAdd]
    refine⟨(out++[(l.drop fr).take (i-fr)],i+1,i+1),by simp only;omega,?_,by simp only;omega,by simp only;omega,?_,.inl ⟨by simp only;omega,Wj,by simp⟩,?_⟩
    ·simp
    ·simp only[List.length_append,List.length_cons,List.length_nil];omega
    ·simp
   ·have q2':¬((l.getD i 0).toNat:Int)=(c.toNat:Int):=fun h=>q2 (UInt8.toNat_inj.1 (by omega))
    simp only[mU,g0,g1,g5,g6,g7,bC,dA,q1',e1,q2',wi,VX,Nat.reduceEqDiff,Nat.reduceAdd]
    refine⟨(out,fr,i+1),by simp only;omega,rfl,by simp only;omega,by simp only;omega,iF,.inl ⟨by simp only;omega,hp,?_⟩,rfl,rfl,rfl⟩
    simp only
    rw[show i+1-fr=(i-fr)+1 by omega,List.take_add_one,List.mem_append,not_or]
    refine⟨hc,?_⟩
    have:(l.drop fr)[i-fr]? = some (l.getD i 0):=by
     rw[List.getElem?_drop,show fr+(i-fr)=i by omega,List.getD_eq_getElem?_getD,List.getElem?_eq_getElem Zv]
     rfl
    rw[this]
    simp
    exact fun h=>q2 h.symm
 ·have Wj:fV c l=out:=by
   rcases FM with⟨h,_⟩ | ⟨_,h⟩
   ·omega
   ·exact h
  rw[Wj]
  simp only[mU,g0,g5,g7,bC,dA,VX,Nat.reduceEqDiff,Nat.reduceAdd]
  exact DB (es:=out.map aS) bT (by simp) (Nat.le_refl _) (dQ fun _=>rfl)
theorem Wi {l:List UInt8} (h:l.all gL=true) {i:Nat} (hi:i<l.length):48≤(l.getD i 0).toNat∧(l.getD i 0).toNat≤57:=by
 have:=List.all_eq_true.1 h (l.getD i 0) (by rw[List.getD_eq_getElem?_getD,List.getElem?_eq_getElem hi];exact List.getElem_mem hi)
 simpa[gL] using this
theorem HP {l:List UInt8} (hd:l.all gL=true) (hl:l.length≤1000000000000) {fr tq:Nat} (hft:fr≤tq) (h9:tq-fr≤9) (htl:tq≤l.length) {H:aA} {lo:Nat} {ρ:cR} {Q:VQ} (h0:ρ 0=aS l) (h4:ρ 4=VI tq) (h6:ρ 6=VI 0) (h7:ρ 7=VI fr)
  (hQ:∀aW,(∀t,t<6→aW t=ρ t)→aW 6=VI (bK ((l.drop fr).take (tq-fr)))→Q .normal aW H):VW ⟨true,false⟩ lo (.loop kS) (xT 2 Q) ρ H:=by
 refine aY (fun(i:Nat) aW H'=>fr≤i∧i≤tq∧H'=H∧(∀t,t<6→aW t=ρ t)∧aW 6=VI (bK ((l.drop fr).take (i-fr)))∧aW 7=VI i) (fun i=>tq-i) fr ⟨Nat.le_refl _,hft,rfl,fun _ _=>rfl,by rw[h6,Nat.sub_self];rfl,h7⟩ ?_
 rintro i aW H' ⟨hfi,hi,rfl,hk,g6,g7⟩
 have g0:=(hk 0 (by decide)).trans h0
 have g4:=(hk 4 (by decide)).trans h4
 by_cases dA:(i:Int)<(tq:Int)
 ·have QH:i<l.length:=by omega
  have e1:=BO l QH
  obtain⟨c1,c2⟩:=Wi hd QH
  have wi:IntKind.i64.wrap ((i:Int)+1)=((i+1:Nat):Int):=wrapN (i+1) (by omega) (by omega)
  have hcd:((l.drop fr).take (i-fr)).all gL=true:=by
   rw[List.all_eq_true] at hd ⊢
   exact fun x hx=>hd x (List.mem_of_mem_drop (List.mem_of_mem_take hx))
  have aX:=Ea hcd
  rw[List.length_take,List.length_drop,Nat.min_eq_left (by omega)] at aX
  have hp9:10^(i-fr)≤10^8:=Nat.pow_le_pow_right (by decide) (by omega)
  have e8:(10:Nat)^8=100000000:=by decide
  have qZ:bK ((l.drop fr).take (i+1-fr))=bK ((l.drop fr).take (i-fr))*10+dv (l.getD i 0):=by
   have:(l.drop fr)[i-fr]? = some (l.getD i 0):=by
    rw[List.getElem?_drop,show fr+(i-fr)=i by omega,List.getD_eq_getElem?_getD,List.getElem?_eq_getElem QH]
    rfl
   rw[show i+1-fr=(i-fr)+1 by omega,List.take_add_one,this]
   exact TF _ _
  have hdv:dv (l.getD i 0)=(l.getD i 0).toNat-48:=rfl
  rw[hdv] at qZ
  generalize (l.getD i 0).toNat=c at *
  generalize bK ((l.drop fr).take (i-fr))=D at *
  have w1:IntKind.i64.wrap (10*(D:Int))=((10*D:Nat):Int):=wrapN _ (by omega) (by omega)
  have w2:IntKind.u8.wrap ((c:Int)-48)=((c-48:Nat):Int):=by
   simp[IntKind.wrap,IntKind.bits,IntKind.signed]
   omega
  have w3:IntKind.i64.wrap ((c-48:Nat):Int)=((c-48:Nat):Int):=wrapN _ rfl (by omega)
  have w4:IntKind.i64.wrap (((10*D:Nat):Int)+((c-48:Nat):Int))=((D*10+(c-48):Nat):Int):=wrapN _ (by omega) (by omega)
  simp only[kS,g0,g4,g6,g7,dA,e1,w1,w2,w3,w4,wi,VX,Nat.reduceEqDiff,Nat.reduceAdd]
  refine⟨i+1,by omega,by omega,by omega,fun t ht => ?_,by rw[qZ],rfl⟩
  try simp only[sQ]
  repeat rw[if_neg (by omega)]
  exact hk t ht
 ·have rS:i=tq:=by omega
  subst rS
  simp only[kS,g4,g7,dA,VX,Nat.reduceEqDiff,Nat.reduceAdd]
  refine hQ _ (fun t ht => ?_) ?_
  ·try simp only[sQ]
   repeat rw[if_neg (by omega)]
   exact hk t ht
  ·simp only[g6,VX,Nat.reduceEqDiff,Nat.reduceAdd]
set_option maxHeartbeats 1000000 in
theorem qL (l:List UInt8) (hd:l.all gL=true) (hl:l.length≤1000000000):TC 224 [aS l] (bN (bK l)):=by
 refine TC.walk ⟨true,false⟩ Ee rfl (Nat.le_of_ble_eq_true rfl) rfl (lE _) ?_
 have e3:∀lr,rN lr [.int .i64 0] 0 [] []=some (.ref 0 0 0 0 0,[.row 0 (([]:List Nat).map tV) 1 true]):=fun lr=>oC (H:=[]) (lr:=lr) (z:=[.int .i64 0]) rfl
 have e4:∀(x:Nat) (H:aA),rN false [.int .i64 0] 1 [(0,tV x)] H=some (.tree [tV x] (.cl 1),H):=fun x H=>sK (z:=[.int .i64 0]) rfl rfl rfl
 have e5:∀(x:Nat) (H:aA),eX 1 (.tree [tV x] (.cl 1)) H=some [tV x]:=fun x H=>pJ rfl rfl
 simp only[AA,xE,e3,bC,VX,Nat.reduceEqDiff,Nat.reduceAdd]
 refine aY (fun(s:List Nat×Int) ρ H=>H=[.row s.1.length (s.1.map tV) 1 true]∧s.2≤l.length ∧ -9≤s.2∧s.1.length+s.2.toNat≤l.length∧(∀d∈s.1,d<1000000000)∧bK l=val 1000000000 s.1+1000000000^s.1.length*bK (l.take s.2.toNat) ∧
  ρ 0=aS l∧ρ 3 = .ref 0 s.1.length 0 s.1.length s.1.length∧ρ 4=VI s.2) (fun s=>s.2.toNat) ([],(l.length:Int)) ⟨rfl,Int.le_refl _,by simp only;omega,by simp,by simp,?_,rfl,rfl,rfl⟩ ?_
 ·simp only[Int.toNat_natCast,List.take_length,List.length_nil,Nat.pow_zero,Nat.one_mul,val,Nat.zero_add]
 rintro⟨out,z⟩ ρ H ⟨rfl,hz,hz9,iF,hds,hv,g0,g3,g4⟩
 simp only at hz hz9 iF hds hv g3 g4
 by_cases jO:0<z
 ·obtain⟨tq,rfl⟩:∃tq:Nat,z=tq:=⟨z.toNat,by omega⟩
  rw[Int.toNat_natCast] at iF hv
  have hto:0<tq:=by omega
  have key:∀fr:Nat,fr≤tq→tq-fr≤9→bK (l.take tq)=bK (l.take fr)*10^(tq-fr)+bK ((l.drop fr).take (tq-fr))∧bK ((l.drop fr).take (tq-fr))<1000000000:=by
   intro fr h1 h2
   have hcd:((l.drop fr).take (tq-fr)).all gL=true:=by
    rw[List.all_eq_true] at hd ⊢
    exact fun x hx=>hd x (List.mem_of_mem_drop (List.mem_of_mem_take hx))
   have hlen:((l.drop fr).take (tq-fr)).length=tq-fr:=by rw[List.length_take,List.length_drop];omega
   constructor
   ·have:=List.take_add (l:=l) (i:=fr) (j:=tq-fr)
    rw[show fr+(tq-fr)=tq by omega] at this
    rw[this,JG,hlen]
   ·have:=Ea hcd
    rw[hlen] at this
    exact Nat.lt_of_lt_of_le this (Nat.le_trans (Nat.pow_le_pow_right (by decide) h2) (by decide))
  have eP:=fun X=>pK (f:=tV) (xs:=out) (x:=X) (lo:=0) (b:=0) (g:=out.length) (n:=out.length) (e:=1) (bytes:=8) (H:=[.row out.length (out.map tV) 1 true]) bT rfl (Nat.zero_le _) (by decide) (by decide) (by omega)
  have Fa:∀X,([.row out.length (out.map tV) 1 true]:aA).set 0 (.row (out.length+1) ((out++[X]).map tV) 1 true)=[.row (out.length+1) ((out++[X]).map tV) 1 true]:=fun _=>rfl
  simp only[Fa] at eP
  by_cases h9:(9:Int)<(tq:Int)
  ·obtain⟨k1,k2⟩:=key (tq-9) (by omega) (by omega)
   have wz:IntKind.i64.wrap ((tq:Int)-9)=((tq-9:Nat):Int):=wrapN _ (by omega) (by omega)
   rw[show tq-(tq-9)=9 by omega] at k1 k2
   rw[show (10:Nat)^9=1000000000 by decide] at k1
   simp only[lC,g0,g3,g4,jO,h9,wz,VX,Nat.reduceEqDiff,Nat.reduceAdd]
   refine HP (l:=l) hd (by omega) (fr:=tq-9) (tq:=tq) (by omega) (by omega) (by omega) ?_ ?_ ?_ ?_ fun uG q q6 => ?_
   all_goals first | (simp only[g0,g4,VX,Nat.reduceEqDiff,Nat.reduceAdd];done) | skip
   rw[show tq-(tq-9)=9 by omega] at q6
   have u3:uG 3 = .ref 0 out.length 0 out.length out.length:=by rw[q 3 (by decide)];simp only[g3,VX,Nat.reduceEqDiff,Nat.reduceAdd]
   have u0:uG 0=aS l:=by rw[q 0 (by decide)];simp only[g0,VX,Nat.reduceEqDiff,Nat.reduceAdd]
   have u4:uG 4=VI tq:=by rw[q 4 (by decide)];simp only[g4,VX,Nat.reduceEqDiff,Nat.reduceAdd]
   generalize bK ((l.drop (tq-9)).take 9)=X at *
   have e4:=e4 X
   have e5:=e5 X
   have eP:=eP X
   simp only[u0,u3,u4,q6,e4,e5,eP,wz,VX,Nat.reduceEqDiff,Nat.reduceAdd]
   refine⟨(out++[X],((tq-9:Nat):Int)),by simp only;omega,?_,by simp only;omega,by simp only;omega,?_,?_,?_,?_⟩
   ·simp
   ·simp only[List.length_append,List.length_cons,List.length_nil];omega
   ·intro d hdm
    rcases List.mem_append.1 hdm with h | h
    ·exact hds d h
    ·rw[List.mem_singleton] at h;omega
   ·simp only[Int.toNat_natCast]
    rw[hv,k1,qB,List.length_append,List.length_singleton,Nat.pow_succ]
    grind
   ·simp
  ·obtain⟨k1,k2⟩:=key 0 (by omega) (by omega)
   rw[List.take_zero,Jx,Nat.zero_mul,Nat.zero_add,Nat.sub_zero] at k1
   rw[Nat.sub_zero] at k2
   have wz:IntKind.i64.wrap ((tq:Int)-9)=(tq:Int)-9:=wrap64 (by omega) (by omega)
   simp only[lC,g0,g3,g4,jO,h9,VX,Nat.reduceEqDiff,Nat.reduceAdd]
   refine HP (l:=l) hd (by omega) (fr:=0) (tq:=tq) (by omega) (by omega) (by omega) ?_ ?_ ?_ ?_ fun uG q q6 => ?_
   all_goals first | (simp only[g0,g4,VX,Nat.reduceEqDiff,Nat.reduceAdd];done) | (simp only[VX,Nat.reduceEqDiff,Nat.reduceAdd];rfl) | skip
   rw[Nat.sub_zero] at q6
   have u3:uG 3 = .ref 0 out.length 0 out.length out.length:=by rw[q 3 (by decide)];simp only[g3,VX,Nat.reduceEqDiff,Nat.reduceAdd]
   have u0:uG 0=aS l:=by rw[q 0 (by decide)];simp only[g0,VX,Nat.reduceEqDiff,Nat.reduceAdd]
   have u4:uG 4=VI tq:=by rw[q 4 (by decide)];simp only[g4,VX,Nat.reduceEqDiff,Nat.reduceAdd]
   generalize bK ((l.drop 0).take tq)=X at *
   have e4:=e4 X
   have e5:=e5 X
   have eP:=eP X
   simp only[u0,u3,u4,q6,e4,e5,eP,wz,VX,Nat.reduceEqDiff,Nat.reduceAdd]
   refine⟨(out++[X],(tq:Int)-9),by simp only;omega,?_,by simp only;omega,by simp only;omega,?_,?_,?_,?_⟩
   ·simp
   ·simp only[List.length_append,List.length_cons,List.length_nil];omega
   ·intro d hdm
    rcases List.mem_append.1 hdm with h | h
    ·exact hds d h
    ·rw[List.mem_singleton] at h;omega
   ·simp only
    rw[show ((tq:Int)-9).toNat=0 by omega,List.take_zero,Jx,Nat.mul_zero,Nat.add_zero,hv,k1,qB]
   ·simp
 ·have h0:z.toNat=0:=by omega
  rw[h0,List.take_zero,Jx,Nat.mul_zero,Nat.add_zero] at hv
  rw[hv]
  have ct:=TC.Y9 (f:=tV) (xs:=out) (size:=1) (e:=1) (w:=true) (H:=[.row out.length (out.map tV) 1 true]) (b:=0) (gn:=out.length) (n:=out.length) (c:=out.length) (qH out hds (by show out.length≤70368744177664;omega)) bT rfl (Nat.le_refl _) Dr (fun _=>rfl) rfl rfl
  simp only[lC,g0,g3,g4,jO,ct,VX,Nat.reduceEqDiff,Nat.reduceAdd]
  exact aG (bU _)
end Go.PM
namespace Go.PM
open Go.Lib
def Bn (l:List UInt8):VV:=match uZ l with
 | some q => .eQ [cG q,VB true]
 | none => .eQ [Jg,VB false]
theorem pB (q:Rat):aR (cG q)=true:=by simp[cG,aR,aJ,bU,lS]
theorem BZ (q:Rat):gO (cG q)=true:=by simp[cG,gO,pM,lE,lS]
theorem Qy (l:List UInt8):gO (Bn l)=true:=by
 unfold Bn
 split<;>simp[gO,pM,BZ,OH,lS]
theorem H9 {neg:Bool} {t b:Nat} (hb:b≠0) (hg:Nat.gcd t b=1) (hn:¬(neg=true∧t=0)):cG (mkRat (jB neg t) b) = .agg [VB neg,bN t,bN b]:=by
 obtain⟨e1,e2⟩:=Gk (neg:=neg) hb hg
 refine MN ?_ (by rw[e1,mG]) e2
 rw[e1]
 cases neg with
 | false=>unfold jB;simp
 |
  true =>
  have:t≠0:=fun h=>hn ⟨rfl,h⟩
  unfold jB
  simp
  omega
theorem B5 {n:Nat}:(((aC 1000000000 n).length:Nat):Int)=0↔n=0:=by
 rw[←jV (b:=1000000000) (n:=n) (by decide),←List.length_eq_zero_iff]
 omega
theorem NB {neg:Bool} {d t:List UInt8} (h:(47:UInt8)∈t):mM neg d (some t)=none:=by
 have ht:gD t=false:=by
  cases hk:gD t with
  | false=>rfl
  | true=>exact absurd h (XE (iM.1 hk).1)
 unfold mM
 split
 ·rfl
 ·simp only
  rw[if_neg (fun h=>by rw[ht] at h;exact absurd h.1 (by decide))]
theorem at_one (x:List UInt8) (H:aA):bE 1 (bL aS [x]) (VI 0) H=some (.cO (aS x) 0):=aM (f:=aS) (t := .op) (H:=H) (size:=1) (k := .i64) (xs:=[x]) (i:=0) rfl rfl
theorem Zx (x y:List UInt8) (H:aA):bE 1 (bL aS [x,y]) (VI 0) H=some (.cO (aS x) 0):=aM (f:=aS) (t := .op) (H:=H) (size:=1) (k := .i64) (xs:=[x,y]) (i:=0) rfl rfl
theorem Yo (x y:List UInt8) (H:aA):bE 1 (bL aS [x,y]) (VI 1) H=some (.cO (aS y) 0):=aM (f:=aS) (t := .op) (H:=H) (size:=1) (k := .i64) (xs:=[x,y]) (i:=1) rfl rfl
theorem Sn (x:List UInt8) (H:aA):oG (bL aS [x]) H=some (VI 1):=dP (f:=aS) (xs:=[x])
theorem Yu (x y:List UInt8) (H:aA):oG (bL aS [x,y]) H=some (VI 2):=dP (f:=aS) (xs:=[x,y])
set_option maxRecDepth 100000 in
set_option maxHeartbeats 4000000 in
theorem Hq (l:List UInt8) (hl:l.length≤1000000000):TC 175 [aS l] (Bn l):=by
 refine TC.walk ⟨true,false⟩ Hf rfl (Nat.le_of_ble_eq_true rfl) rfl (Qy l) ?_
 by_cases xX:l=[]
 ·subst xX
  have eC:TC 222 [.sc (.string ⟨#[]⟩),.sc (.int .u8 47)] (bL aS [[]]):=CY [] 47 (by simp)
  have eD:TC 223 [.sc (.string ⟨#[]⟩)] (VB false):=nO [] (by simp)
  have e1:yD (.string ⟨#[]⟩)=some (.int .i64 0):=rfl
  have a1:=at_one []
  have a2:=Sn []
  simp only[bO,aZ,e1,eC,eD,a1,a2,Int.reduceLT,Int.reduceLE,aF,iA,Nat.reduceLeDiff,Nat.reduceLT,Nat.reduceSub,VX,Nat.reduceEqDiff,Nat.reduceAdd]
  exact bG (d:=6) fJ (aH (v:=VB false) rfl)
 have hp:0<l.length:=List.length_pos_iff.2 xX
 have jO:(0:Int)<(l.length:Int):=by omega
 have e0:=FW l hp
 unfold Bn
 unfold uZ
 have lP:isNeg l=decide (((l.getD 0 0).toNat:Int)=45):=by
  unfold isNeg
  rw[decide_eq_true (show 1≤l.length from hp),Bool.true_and]
  refine decide_eq_decide.2 ⟨fun h=>by rw[h];rfl,fun h=>UInt8.toNat_inj.1 (by rw[show (45:UInt8).toNat=45 from rfl];omega)⟩
 have PO:(if isNeg l=true then l.drop 1 else l).length≤l.length:=by split<;>simp
 have q0:isNeg l=false→¬((l.getD 0 0).toNat:Int)=45:=fun h=>by rw[lP] at h;exact of_decide_eq_false h
 have q9:isNeg l=true→((l.getD 0 0).toNat:Int)=45:=fun h=>by rw[lP] at h;exact of_decide_eq_true h
 have r0:isNeg l=false→(if isNeg l=true then l.drop 1 else l)=l:=fun h=>by rw[h];rfl
 have r9:isNeg l=true→sS (aS l) (some (VI 1)) none=some (aS (if isNeg l=true then l.drop 1 else l)):=fun h=>by rw[h];exact KM l (a:=1) hp
 generalize (if isNeg l=true then l.drop 1 else l)=r at *
 generalize isNeg l=neg at *
 clear lP
 have eC:TC 222 [aS r,.sc (.int .u8 47)] (bL aS (fV 47 r)):=CY r 47 (by omega)
 obtain⟨l1,l2⟩:=OV (c:=47) (l:=r)
 cases hs:(kE 47 r).2 with
 |
  none =>
  have hd:=(xZ hs).2.1
  rw[N9 hs] at eC
  rw[hd]
  have a1:=at_one r
  have a2:=Sn r
  have eD:=nO r (by omega)
  cases hk:gD r with
  |
   false =>
   rw[hk] at eD
   have UR:mM neg r none=none:=if_pos (.inl hk)
   rw[UR]
   cases neg with
   |
    false =>
    have q1:=q0 rfl
    have PO:=r0 rfl
    subst PO
    simp only[bO,aZ,bC,jO,e0,q1,eC,eD,a1,a2,Int.reduceLT,aF,aT,aK,aP,dC,eV,dB,eO,iA,Nat.reduceLeDiff,Nat.reduceLT,Nat.reduceSub,VX,Nat.reduceEqDiff,Nat.reduceAdd]
    exact bG (d:=6) fJ (aH (v:=VB false) rfl)
   |
    true =>
    have q1:=q9 rfl
    have e9:=r9 rfl
    simp only[bO,aZ,bC,jO,e0,q1,eC,eD,a1,a2,Int.reduceLT,e9,aF,aT,aK,aP,dC,eV,dB,eO,iA,Nat.reduceLeDiff,Nat.reduceLT,Nat.reduceSub,VX,Nat.reduceEqDiff,Nat.reduceAdd]
    exact bG (d:=6) fJ (aH (v:=VB false) rfl)
  |
   true =>
   rw[hk] at eD
   have hbt:=vB hk
   have eN:=qL r (iM.1 hk).1 (by omega)
   by_cases hz:neg=true∧bK r=0
   ·have UR:mM neg r none=none:=if_pos (.inr hz)
    rw[UR]
    obtain⟨rfl,EZ⟩:=hz
    have q1:=q9 rfl
    have e9:=r9 rfl
    have Fg:(((aC 1000000000 (bK r)).length:Nat):Int)=0:=B5.2 EZ
    simp only[bO,aZ,bC,jO,e0,q1,eC,eD,a1,a2,eN,e9,cK,Fg,Int.reduceLT,aF,aT,aK,aP,dC,eV,dB,eO,iA,Nat.reduceLeDiff,Nat.reduceLT,Nat.reduceSub,VX,Nat.reduceEqDiff,Nat.reduceAdd]
    exact bG (d:=6) fJ (aH (v:=VB false) rfl)
   ·have CD:neg=true→¬(((aC 1000000000 (bK r)).length:Nat):Int)=0:=fun h h0=>hz ⟨h,B5.1 h0⟩
    have UR:mM neg r none=some (mkRat (jB neg (bK r)) 1):=if_neg (by rw[hk];rintro(h | h);exact absurd h (by decide);exact hz h)
    rw[UR]
    simp only[]
    rw[H9 (by decide) (Nat.gcd_one_right _) hz]
    cases neg with
    |
     false =>
     have q1:=q0 rfl
     have PO:=r0 rfl
     subst PO
     simp only[bO,aZ,bC,jO,e0,q1,eC,eD,a1,a2,eN,Int.reduceLT,Int.reduceEq,aF,aT,aK,aP,dC,eV,dB,eO,iA,Nat.reduceLeDiff,Nat.reduceLT,Nat.reduceSub,VX,Nat.reduceEqDiff,Nat.reduceAdd]
     exact bG (d:=6) (oK (aH (v:=VB false) rfl) (aH (bU _)) MX) (aH (v:=VB true) rfl)
    |
     true =>
     have q1:=q9 rfl
     have e9:=r9 rfl
     have Fg:=CD rfl
     simp only[bO,aZ,bC,jO,e0,q1,eC,eD,a1,a2,eN,Int.reduceLT,Int.reduceEq,e9,cK,Fg,aF,aT,aK,aP,dC,eV,dB,eO,iA,Nat.reduceLeDiff,Nat.reduceLT,Nat.reduceSub,VX,Nat.reduceEqDiff,Nat.reduceAdd]
     exact bG (d:=6) (oK (aH (v:=VB true) rfl) (aH (bU _)) MX) (aH (v:=VB true) rfl)
 |
  some t =>
  have ltt:=l2 t hs
  rw[G2 hs] at eC
  generalize (kE 47 r).1=d at *
  by_cases hm:(47:UInt8)∈t
  ·rw[NB hm]
   have hP:=Oy hm
   generalize hPP:fV 47 t=P at *
   have a2:∀H,oG (bL aS (d::P)) H=some (VI ((d::P).length:Int)):=fun H=>dP (f:=aS) (xs:=d::P)
   have hq3:(2:Int)<((d::P).length:Int):=by rw[List.length_cons];omega
   generalize hQQ:d::P=PP at *
   clear hQQ hPP hP
   cases neg with
   |
    false =>
    have q1:=q0 rfl
    have PO:=r0 rfl
    subst PO
    simp only[bO,aZ,bC,jO,e0,q1,eC,a2,hq3,aF,aT,aK,aP,dC,eV,dB,eO,iA,Nat.reduceLeDiff,Nat.reduceLT,Nat.reduceSub,VX,Nat.reduceEqDiff,Nat.reduceAdd]
    exact bG (d:=6) fJ (aH (v:=VB false) rfl)
   |
    true =>
    have q1:=q9 rfl
    have e9:=r9 rfl
    simp only[bO,aZ,bC,jO,e0,q1,eC,a2,hq3,e9,aF,aT,aK,aP,dC,eV,dB,eO,iA,Nat.reduceLeDiff,Nat.reduceLT,Nat.reduceSub,VX,Nat.reduceEqDiff,Nat.reduceAdd]
    exact bG (d:=6) fJ (aH (v:=VB false) rfl)
  ·rw[DE hm] at eC
   have a1:=Zx d t
   have a3:=Yo d t
   have a2:=Yu d t
   have eD:=nO d (by omega)
   have eF:=nO t (by omega)
   cases hk:gD d with
   |
    false =>
    rw[hk] at eD
    have UR:mM neg d (some t)=none:=if_pos (.inl hk)
    rw[UR]
    cases neg with
    |
     false =>
     have q1:=q0 rfl
     have PO:=r0 rfl
     subst PO
     simp only[bO,aZ,bC,jO,e0,q1,eC,eD,a1,a2,Int.reduceLT,aF,aT,aK,aP,dC,eV,dB,eO,iA,Nat.reduceLeDiff,Nat.reduceLT,Nat.reduceSub,VX,Nat.reduceEqDiff,Nat.reduceAdd]
     exact bG (d:=6) fJ (aH (v:=VB false) rfl)
    |
     true =>
     have q1:=q9 rfl
     have e9:=r9 rfl
     simp only[bO,aZ,bC,jO,e0,q1,eC,eD,a1,a2,Int.reduceLT,e9,aF,aT,aK,aP,dC,eV,dB,eO,iA,Nat.reduceLeDiff,Nat.reduceLT,Nat.reduceSub,VX,Nat.reduceEqDiff,Nat.reduceAdd]
     exact bG (d:=6) fJ (aH (v:=VB false) rfl)
   |
    true =>
    rw[hk] at eD
    have hbt:=vB hk
    have eN:=qL d (iM.1 hk).1 (by omega)
    by_cases hz:neg=true∧bK d=0
    ·have UR:mM neg d (some t)=none:=if_pos (.inr hz)
     rw[UR]
     obtain⟨rfl,EZ⟩:=hz
     have q1:=q9 rfl
     have e9:=r9 rfl
     have Fg:(((aC 1000000000 (bK d)).length:Nat):Int)=0:=B5.2 EZ
     simp only[bO,aZ,bC,jO,e0,q1,eC,eD,a1,a2,eN,e9,cK,Fg,Int.reduceLT,aF,aT,aK,aP,dC,eV,dB,eO,iA,Nat.reduceLeDiff,Nat.reduceLT,Nat.reduceSub,VX,Nat.reduceEqDiff,Nat.reduceAdd]
     exact bG (d:=6) fJ (aH (v:=VB false) rfl)
    ·have CD:neg=true→¬(((aC 1000000000 (bK d)).length:Nat):Int)=0:=fun h h0=>hz ⟨h,B5.1 h0⟩
     have UR:mM neg d (some t)=if gD t=true∧1<bK t∧Nat.gcd (bK d) (bK t)=1 then some (mkRat (jB neg (bK d)) (bK t)) else none:=if_neg (by rw[hk];rintro(h | h);exact absurd h (by decide);exact hz h)
     rw[UR]
     clear UR
     cases ht:gD t with
     |
      false =>
      rw[ht] at eF
      rw[if_neg (fun h=>absurd h.1 (by decide))]
      cases neg with
      |
       false =>
       have q1:=q0 rfl
       have PO:=r0 rfl
       subst PO
       simp only[bO,aZ,bC,jO,e0,q1,eC,eD,eF,a1,a2,a3,eN,Int.reduceLT,Int.reduceEq,aF,aT,aK,aP,dC,eV,dB,eO,iA,Nat.reduceLeDiff,Nat.reduceLT,Nat.reduceSub,VX,Nat.reduceEqDiff,Nat.reduceAdd]
       exact bG (d:=6) fJ (aH (v:=VB false) rfl)
      |
       true =>
       have q1:=q9 rfl
       have e9:=r9 rfl
       have Fg:=CD rfl
       simp only[bO,aZ,bC,jO,e0,q1,eC,eD,eF,a1,a2,a3,eN,Int.reduceLT,Int.reduceEq,e9,cK,Fg,aF,aT,aK,aP,dC,eV,dB,eO,iA,Nat.reduceLeDiff,Nat.reduceLT,Nat.reduceSub,VX,Nat.reduceEqDiff,Nat.reduceAdd]
       exact bG (d:=6) fJ (aH (v:=VB false) rfl)
     |
      true =>
      rw[ht] at eF
      have IY:=vB ht
      have eM:=qL t (iM.1 ht).1 (by omega)
      have c2:∀lo H K,_:=fun lo H K=>HN (n:=bK t) (lo:=lo) (H:=H) (K:=K) (Nat.le_of_lt (mY (by omega)))
      have c3:=Da (bK d) (bK t) (mY (by omega)) (mY (by omega))
      by_cases h1:dY (bK t) 1≤0
      ·have hle:¬1<bK t:=fun h=>by unfold dY at h1;rw[if_neg (by omega),if_neg (by omega)] at h1;exact absurd h1 (by decide)
       rw[if_neg (fun h=>hle h.2.1)]
       cases neg with
       |
        false =>
        have q1:=q0 rfl
        have PO:=r0 rfl
        subst PO
        simp only[bO,aZ,bC,jO,e0,q1,eC,eD,eF,a1,a2,a3,eN,eM,c2,h1,Int.reduceLT,Int.reduceEq,aF,aT,aK,aP,dC,eV,dB,eO,iA,Nat.reduceLeDiff,Nat.reduceLT,Nat.reduceSub,VX,Nat.reduceEqDiff,Nat.reduceAdd]
        exact bG (d:=6) fJ (aH (v:=VB false) rfl)
       |
        true =>
        have q1:=q9 rfl
        have e9:=r9 rfl
        have Fg:=CD rfl
        simp only[bO,aZ,bC,jO,e0,q1,eC,eD,eF,a1,a2,a3,eN,eM,c2,h1,Int.reduceLT,Int.reduceEq,e9,cK,Fg,aF,aT,aK,aP,dC,eV,dB,eO,iA,Nat.reduceLeDiff,Nat.reduceLT,Nat.reduceSub,VX,Nat.reduceEqDiff,Nat.reduceAdd]
        exact bG (d:=6) fJ (aH (v:=VB false) rfl)
      ·have aX:1<bK t:=by
        rcases Nat.lt_or_ge 1 (bK t) with h | h
        ·exact h
        ·exfalso
         apply h1
         unfold dY
         split<;>(try split)<;>first | decide | omega
       have X1:bl (Nat.gcd (bK d) (bK t))≤665:=Nat.le_trans (jI (Nat.le_of_dvd (by omega) (Nat.gcd_dvd_right _ _))) IY
       have c4:∀lo H K,_:=fun lo H K=>HN (n:=Nat.gcd (bK d) (bK t)) (lo:=lo) (H:=H) (K:=K) (Nat.le_of_lt (mY (by omega)))
       by_cases hg:Nat.gcd (bK d) (bK t)=1
       ·have h4:dY (Nat.gcd (bK d) (bK t)) 1=0:=by rw[hg];rfl
        rw[if_pos ⟨rfl,aX,hg⟩]
        simp only[]
        rw[H9 (by omega) hg hz]
        cases neg with
        |
         false =>
         have q1:=q0 rfl
         have PO:=r0 rfl
         subst PO
         simp only[bO,aZ,bC,jO,e0,q1,eC,eD,eF,a1,a2,a3,eN,eM,c2,c3,c4,h1,h4,Int.reduceLT,Int.reduceEq,aF,aT,aK,aP,dC,eV,dB,eO,iA,Nat.reduceLeDiff,Nat.reduceLT,Nat.reduceSub,VX,Nat.reduceEqDiff,Nat.reduceAdd]
         exact bG (d:=6) (oK (aH (v:=VB false) rfl) (aH (bU _)) (aH (bU _))) (aH (v:=VB true) rfl)
        |
         true =>
         have q1:=q9 rfl
         have e9:=r9 rfl
         have Fg:=CD rfl
         simp only[bO,aZ,bC,jO,e0,q1,eC,eD,eF,a1,a2,a3,eN,eM,c2,c3,c4,h1,h4,Int.reduceLT,Int.reduceEq,e9,cK,Fg,aF,aT,aK,aP,dC,eV,dB,eO,iA,Nat.reduceLeDiff,Nat.reduceLT,Nat.reduceSub,VX,Nat.reduceEqDiff,Nat.reduceAdd]
         exact bG (d:=6) (oK (aH (v:=VB true) rfl) (aH (bU _)) (aH (bU _))) (aH (v:=VB true) rfl)
       ·have h4:¬dY (Nat.gcd (bK d) (bK t)) 1=0:=by
         unfold dY
         split<;>(try split)<;>first | decide | omega
        rw[if_neg (fun h=>hg h.2.2)]
        cases neg with
        |
         false =>
         have q1:=q0 rfl
         have PO:=r0 rfl
         subst PO
         simp only[bO,aZ,bC,jO,e0,q1,eC,eD,eF,a1,a2,a3,eN,eM,c2,c3,c4,h1,h4,Int.reduceLT,Int.reduceEq,aF,aT,aK,aP,dC,eV,dB,eO,iA,Nat.reduceLeDiff,Nat.reduceLT,Nat.reduceSub,VX,Nat.reduceEqDiff,Nat.reduceAdd]
         exact bG (d:=6) fJ (aH (v:=VB false) rfl)
        |
         true =>
         have q1:=q9 rfl
         have e9:=r9 rfl
         have Fg:=CD rfl
         simp only[bO,aZ,bC,jO,e0,q1,eC,eD,eF,a1,a2,a3,eN,eM,c2,c3,c4,h1,h4,Int.reduceLT,Int.reduceEq,e9,cK,Fg,aF,aT,aK,aP,dC,eV,dB,eO,iA,Nat.reduceLeDiff,Nat.reduceLT,Nat.reduceSub,VX,Nat.reduceEqDiff,Nat.reduceAdd]
         exact bG (d:=6) fJ (aH (v:=VB false) rfl)
end Go.PM
namespace Go.PM
open Go.Lib
end Go.PM
namespace Go.PM
open Go.Lib
theorem Pj {l:List UInt8} {q:Rat} (h:uZ l=some q):Bn l = .eQ [cG q,VB true]:=by unfold Bn;rw[h]
theorem Oi {l:List UInt8} (h:uZ l=none):Bn l = .eQ [Jg,VB false]:=by unfold Bn;rw[h]
end Go.PM