/- Texts of a claim, in one: part 11. -/
import Derived.Test.YtodamlihdkalfaaGreatDoorKQj
set_option linter.unusedSimpArgs false
set_option linter.unusedVariables false
namespace Go.PM
open Go.Lib
abbrev bV (b:UInt8):VV := .sc (.int .u8 (b.toNat:Int))
theorem IY:∀bs:List UInt8,FY (bs.map bV)=some bs
 | []=>rfl
 |
  b::bs=>by
  rw[List.map_cons]
  show (FY (bs.map bV)).map (UInt8.ofNat ((b.toNat:Int)).toNat :: ·)=_
  rw[IY bs]
  simp
structure Ew (v:VV) (H:aA) (bs:List UInt8):Prop where
 len:oB v H=some (VI bs.length)
 src:eW 1 v H=some (bs.map bV)
 nsc:∀x,v ≠ .sc x
theorem Ew.str {v:VV} {H:aA} {bs:List UInt8} (h:Ew v H bs) {fl:Fl} {lo:Nat} {x:Operand} {ρ:cR} (hx:dI ρ x=v):vop fl lo (.b2s x) ρ H=some (aS bs,H):=by
 have h1:=h.nsc
 have h2:=h.src
 unfold vop
 dsimp only
 rw[hx]
 cases v with
 | sc x=>exact absurd rfl (h1 x)
 | _=>simp only[h2,IY,Option.map_some]
theorem Ux {bs:List UInt8} {k:TK} {H:aA}:eW 1 (.tree (bs.map bV) k) H=some (bs.map bV):=by
 have:((bs.map bV).all fun x=>(aB x).length == 1&&(aB x).all cH)=true:=by
  rw[List.all_eq_true]
  intro x hx
  obtain⟨d,_,rfl⟩:=List.mem_map.1 hx
  rfl
 simp only[eW,this,if_true]
theorem Ew.tree {bs:List UInt8} {k:TK} {H:aA}:Ew (.tree (bs.map bV) k) H bs:=⟨dP,Ux,fun x=>by simp⟩
theorem Ew.row {bs:List UInt8} {H:aA} {b g:Nat} {w:Bool} (h:aQ H b g=some (bs.map bV,1,w)):Ew (.ref b g 0 bs.length bs.length) H bs:=by
 refine⟨gK h,?_,fun x=>by simp⟩
 have kA:(((bs.map bV).drop 0).take bs.length).all (fun x=>(aB x).all cH)=true:=by
  rw[List.all_eq_true]
  intro x hx
  obtain⟨d,_,rfl⟩:=List.mem_map.1 (List.mem_of_mem_drop (List.mem_of_mem_take hx))
  rfl
 simp only[eW,h]
 rw[if_pos ⟨trivial,by simp,kA⟩,List.drop_zero,List.take_of_length_le (by simp)]
theorem Ew.cons {v:VV} {H:aA} {bs:List UInt8} (h:Ew v H bs) (x:UInt8) (hl:bs.length≤1000000) (lo:Nat):∃v' H',gE lo 1 1 (.tree [bV x] (.cl 1)) (bs.map bV) H=some (v',H')∧Ew v' H' (x::bs):=by
 by_cases hb:bs=[]
 ·subst hb
  exact⟨_,_,rfl,Ew.tree (bs:=[x])⟩
 ·have eX:bs.length≠0:=fun h=>hb (List.length_eq_zero_iff.1 h)
  refine⟨.ref H.length 0 0 (x::bs).length (x::bs).length,H++[.row 0 ((x::bs).map bV) 1 true],?_,Ew.row (N8 rfl)⟩
  simp only[gE,List.length_map]
  rw[if_pos ⟨by decide,by decide⟩,if_pos trivial,if_neg eX,if_pos (by simp;omega)]
  simp[Nat.add_comm]
theorem RN (r:Int):cX .rem (.int .i64 r) (.int .i64 10)=some (.int .i64 (r.tmod 10)):=rfl
theorem aiR (r:Int) (h0 : -9223372036854775808≤r) (h1:r≤9223372036854775807):cX .quo (.int .i64 r) (.int .i64 10)=some (.int .i64 (r.tdiv 10)):=by
 show some (Value.int .i64 (IntKind.i64.wrap (r.tdiv 10)))=_
 have h2:(r.tdiv 10).natAbs=r.natAbs / 10:=by rw[Int.natAbs_tdiv];rfl
 rw[wrap64 (by omega) (by omega)]
theorem Ud {d:Nat} (h:d<10):(d10 d).toNat=48+d:=by
 unfold d10
 simp
 omega
theorem Lz {n r:Nat} {bs:List UInt8} (h:decDigits n=decDigits r++bs):decDigits n=oS (r / 10)++d10 (r % 10)::bs:=by
 rw[h]
 by_cases hr:r<10
 ·rw[gW hr,oS,if_pos (by omega),Nat.mod_eq_of_lt hr];rfl
 ·rw[wS hr,oS,if_neg (by omega),List.append_assoc];rfl
theorem JM (n:Int) (h0 : -9223372036854775808≤n) (h1:n≤9223372036854775807):TC 235 [VI n] (aS ((if n<0 then [45] else [])++decDigits n.natAbs)):=by
 refine TC.walk ⟨true,false⟩ J8 rfl (Nat.le_of_ble_eq_true rfl) rfl rfl ?_
 have e0:∀lr,rC lr [.int .u8 0] 0 [] []=some (.ref 0 0 0 0 0,[.row 0 (([]:List UInt8).map bV) 1 true]):=fun lr=>oC (H:=[]) rfl
 have e1:∀(x:UInt8) (H:aA),rC false [.int .u8 0] 1 [(0,bV x)] H=some (.tree [bV x] (.cl 1),H):=fun x H=>sS rfl rfl rfl
 have hdl:=Ab n.natAbs 19 (by omega)
 simp only[Gs,CZ,e0,VX,Nat.reduceEqDiff,Nat.reduceAdd]
 refine aY (fun(s:Int×List UInt8) ρ H => -9223372036854775808≤s.1∧s.1≤9223372036854775807∧(s.2=[]→s.1=n)∧(s.2≠[]→decDigits n.natAbs=oS s.1.natAbs++s.2)∧Ew (ρ 3) H s.2∧ρ 0=VI n∧ρ 4=VI s.1) (fun s=>s.1.natAbs+(if s.2=[] then 1 else 0)) (n,[]) ⟨h0,h1,fun _=>rfl,fun h=>absurd rfl h,by simp only[VX,Nat.reduceEqDiff,Nat.reduceAdd];exact Ew.row (bs:=[]) bT,rfl,rfl⟩ ?_
 rintro⟨r,bs⟩ ρ H ⟨M8,M7,hn,hd,ho,g0,g4⟩
 simp only at M8 M7 hn hd ho g4
 generalize Zx:ρ 3=v3 at ho
 have hlen:=ho.len
 have zB:=ho.src
 by_cases Jz:bs≠[]∧r=0
 ·obtain⟨hb,hr⟩:=Jz
  subst hr
  have hl:¬(bs.length:Int)=0:=by have:=List.length_pos_iff.2 hb;omega
  have Vg:=hd hb
  simp only[oS,Int.natAbs_zero,if_true,List.nil_append] at Vg
  by_cases lQ:n<0
  ·obtain⟨v',H',ap,VA⟩:=ho.cons 45 (by rw[←Vg];omega) 0
   have R0:rC false [.int .u8 0] 1 [(0,.sc (.int .u8 45))] H=some (.tree [bV 45] (.cl 1),H):=e1 45 H
   have bs2:=fun aW (h:dI aW (.tmp 34)=v')=>VA.str (fl:=⟨true,false⟩) (lo:=0) h
   simp only[iQ,g0,g4,Zx,hlen,hl,VX,Nat.reduceEqDiff,Nat.reduceAdd]
   simp only[g0,lQ,Zx,R0,zB,ap,Sb,VX,Nat.reduceEqDiff,Nat.reduceAdd]
   rw[bs2 _ (by rfl)]
   simp only[VX,Nat.reduceEqDiff,Nat.reduceAdd]
   rw[Vg]
   exact aH rfl
  ·have bs2:=fun aW (h:dI aW (.tmp 34)=v3)=>ho.str (fl:=⟨true,false⟩) (lo:=0) h
   simp only[iQ,g0,g4,Zx,hlen,hl,VX,Nat.reduceEqDiff,Nat.reduceAdd]
   simp only[g0,lQ,Zx,Sb,VX,Nat.reduceEqDiff,Nat.reduceAdd]
   rw[bs2 _ (by simp only[VX,Nat.reduceEqDiff,Nat.reduceAdd];try exact Zx)]
   simp only[VX,Nat.reduceEqDiff,Nat.reduceAdd]
   rw[Vg]
   exact aH rfl
 ·have hm:r.tmod 10=if r<0 then -((r.natAbs % 10:Nat):Int) else ((r.natAbs % 10:Nat):Int):=by
   have:=Int.tmod_eq_emod_of_nonneg (a:=r) (b:=10)
   by_cases h:r<0
   ·rw[if_pos h]
    have h2:=Int.neg_tmod (-r) 10
    rw[Int.neg_neg] at h2
    rw[h2,Int.tmod_eq_emod_of_nonneg (by omega)]
    omega
   ·rw[if_neg h,this (by omega)]
    omega
  have hq:(r.tdiv 10).natAbs=r.natAbs / 10:=by rw[Int.natAbs_tdiv];rfl
  have hmd:=Nat.mod_lt r.natAbs (show 0<10 by decide)
  have q1:=aiR r M8 M7
  have sU:bs.length≤19:=by
   by_cases hb:bs=[]
   ·subst hb;simp
   ·have h2:=hd hb
    have h3:=congrArg List.length h2
    rw[List.length_append] at h3
    have h4:r≠0:=fun h=>Jz ⟨hb,h⟩
    have h5:=List.length_pos_iff.2 (Mm r.natAbs)
    rw[oS,if_neg (by omega)] at h3
    omega
  obtain⟨v',H',ap,VA⟩:=ho.cons (d10 (r.natAbs % 10)) (by omega) 0
  have w2:IntKind.i64.wrap (48+((r.natAbs % 10:Nat):Int))=((48+r.natAbs % 10:Nat):Int):=wrapN _ (by omega) (by omega)
  have w3:IntKind.u8.wrap ((48+r.natAbs % 10:Nat):Int)=((48+r.natAbs % 10:Nat):Int):=by
   simp[IntKind.wrap,IntKind.bits,IntKind.signed]
   omega
  have hx:VV.sc (.int .u8 ((48+r.natAbs % 10:Nat):Int))=bV (d10 (r.natAbs % 10)):=by rw[bV,Ud hmd]
  have R0:=e1 (d10 (r.natAbs % 10)) H
  rw[←hx] at R0 ap
  have next:∃s':Int×List UInt8,s'.1.natAbs+(if s'.2=[] then 1 else 0)<r.natAbs+(if bs=[] then 1 else 0) ∧ -9223372036854775808≤s'.1∧s'.1≤9223372036854775807∧(s'.2=[]→s'.1=n)∧(s'.2≠[]→decDigits n.natAbs=oS s'.1.natAbs++s'.2)∧Ew v' H' s'.2∧r.tdiv 10=s'.1:=by
   refine⟨(r.tdiv 10,d10 (r.natAbs % 10)::bs),?_,by simp only;omega,by simp only;omega,fun h=>(by simp at h),fun _ => ?_,VA,rfl⟩
   ·simp only[hq,List.cons_ne_nil,if_false]
    by_cases hb:bs=[]
    ·rw[if_pos hb];omega
    ·have h4:r≠0:=fun h=>Jz ⟨hb,h⟩
     rw[if_neg hb];omega
   ·simp only[hq]
    by_cases hb:bs=[]
    ·subst hb
     refine Lz ?_
     rw[hn rfl,List.append_nil]
    ·have h4:r≠0:=fun h=>Jz ⟨hb,h⟩
     have h2:=hd hb
     rw[oS,if_neg (by omega)] at h2
     exact Lz h2
  by_cases hrn:r.tmod 10<0
  ·have w1:IntKind.i64.wrap (0-r.tmod 10)=((r.natAbs % 10:Nat):Int):=by
    have:r.tmod 10 = -((r.natAbs % 10:Nat):Int):=by
     by_cases h:r<0
     ·rw[if_pos h] at hm;exact hm
     ·rw[if_neg h] at hm;omega
    rw[this]
    exact wrapN _ (by omega) (by omega)
   by_cases hb:bs=[]
   ·have hl:(bs.length:Int)=0:=by rw[hb];rfl
    simp only[iQ,g0,g4,Zx,hlen,hl,RN,q1,hrn,w1,w2,w3,R0,zB,ap,VX,Nat.reduceEqDiff,Nat.reduceAdd]
    obtain⟨s',n1,n2,n3,n4,n5,n6,n7⟩:=next
    exact⟨s',n1,n2,n3,n4,n5,n6,by rw[n7]⟩
   ·have hl:¬(bs.length:Int)=0:=by have:=List.length_pos_iff.2 hb;omega
    have hr:¬r=0:=fun h=>Jz ⟨hb,h⟩
    simp only[iQ,g0,g4,Zx,hlen,hl,hr,RN,q1,hrn,w1,w2,w3,R0,zB,ap,VX,Nat.reduceEqDiff,Nat.reduceAdd]
    obtain⟨s',n1,n2,n3,n4,n5,n6,n7⟩:=next
    exact⟨s',n1,n2,n3,n4,n5,n6,by rw[n7]⟩
  ·have hmm:r.tmod 10=((r.natAbs % 10:Nat):Int):=by
    rw[hm] at hrn ⊢
    split
    ·rename_i h;rw[if_pos h] at hrn;omega
    ·rfl
   have afD:¬((r.natAbs % 10:Nat):Int)<0:=by omega
   by_cases hb:bs=[]
   ·have hl:(bs.length:Int)=0:=by rw[hb];rfl
    simp only[iQ,g0,g4,Zx,hlen,hl,RN,hmm,q1,afD,w2,w3,R0,zB,ap,VX,Nat.reduceEqDiff,Nat.reduceAdd]
    obtain⟨s',n1,n2,n3,n4,n5,n6,n7⟩:=next
    exact⟨s',n1,n2,n3,n4,n5,n6,by rw[n7]⟩
   ·have hl:¬(bs.length:Int)=0:=by have:=List.length_pos_iff.2 hb;omega
    have hr:¬r=0:=fun h=>Jz ⟨hb,h⟩
    simp only[iQ,g0,g4,Zx,hlen,hl,hr,RN,hmm,q1,afD,w2,w3,R0,zB,ap,VX,Nat.reduceEqDiff,Nat.reduceAdd]
    obtain⟨s',n1,n2,n3,n4,n5,n6,n7⟩:=next
    exact⟨s',n1,n2,n3,n4,n5,n6,by rw[n7]⟩
end Go.PM
namespace Go.PM
abbrev chV (c:List (List ByteArray)):VV := .agg [FF c]
def By (n:Nat) (H:aA) (bare:Bool) (c:List (List ByteArray)) (r:VV):Prop:=∃c0,r = .agg [c0]∧uU n H bare c c0
theorem By.fA {n:Nat} {H H':aA} {bare:Bool} {s:List (List ByteArray)} {c:VV} (h:By n H bare s c) (hk:∀b g x,n<b→aQ H b g=some x→aQ H' b g=some x):By n H' bare s c:=by
 obtain⟨c0,rfl,h0⟩:=h
 exact⟨c0,rfl,h0.fA hk⟩
theorem By.pre {n:Nat} {H H':aA} {bare:Bool} {s:List (List ByteArray)} {c:VV} (h:By n H bare s c) (hh:H <+: H'):By n H' bare s c:=h.fA fun _ _ _ _=>lG hh
theorem By.fz {n:Nat} {H:aA} {bare:Bool} {s:List (List ByteArray)} {c:VV} (h:By n H bare s c):PM.fz depth H c=some (chV s):=by
 obtain⟨c0,rfl,h0⟩:=h
 have f0:=h0.fz (d:=4)
 have e:PM.fz (7+1) H (.agg [c0])=if aR (.agg [c0])=true then some (.agg [c0]) else ([c0].mapM (PM.fz 7 H)).map .agg:=rfl
 show PM.fz (7+1) H (.agg [c0])=_
 rw[e]
 by_cases hp:aR (.agg [c0])=true
 ·rw[if_pos hp]
  have hu:aR c0=true:=by simpa[aR,aJ] using hp
  rw[aG hu] at f0
  cases f0
  rfl
 ·rw[if_neg hp,List.mapM_cons,f0]
  rfl
end Go.PM
namespace Go.PM
open Go.Lib
theorem V4 {α:Type} {l:List α} (h:l.Nodup) {i j:Nat} {x:α} (hi:l[i]? = some x) (hj:l[j]? = some x):i=j:=by
 obtain⟨hi,AW⟩:=List.getElem?_eq_some_iff.1 hi
 obtain⟨hj,hj'⟩:=List.getElem?_eq_some_iff.1 hj
 have h:=List.pairwise_iff_getElem.1 h
 rcases Nat.lt_trichotomy i j with aX | heq | hgt
 ·exact absurd (AW.trans hj'.symm) (h i j hi hj aX)
 ·exact heq
 ·exact absurd (hj'.trans AW.symm) (h j i hj hi hgt)
section
variable {α:Type} {f:α→VV} {e lo hi:Nat} {H H':aA} {v:VV}
def mB (lo hi:Nat) (H H':aA):Prop:=∀b g x,lo≤b→b<hi→aQ H b g=some x→aQ H' b g=some x
theorem mB.pre (h:H <+: H'):mB lo hi H H':=fun _ _ _ _ _=>lG h
theorem mB.refl:mB lo hi H H:=fun _ _ _ _ _ h=>h
theorem mB.trans {YY:aA} (h:mB lo hi H H') (h':mB lo hi H' YY):mB lo hi H YY:=fun b g x h1 h2 h3=>h' b g x h1 h2 (h b g x h1 h2 h3)
theorem mB.sub {l h':Nat} (h:mB lo hi H H') (hl:lo≤l) (hh:h'≤hi):mB l h' H H':=fun b g x h1 h2=>h b g x (by omega) (by omega)
theorem mB.set {b:Nat} {x:iY} (hb:b<lo∨hi≤b):mB lo hi H (H.set b x):=fun _ _ _ h1 h2=>mU (by omega)
theorem mB.move {L:aA}:mB H.length hi (List.replicate H.length .dead++L) (H++L):=fun _ _ _ h1 _=>TL h1
def W9 (f:α→VV) (e:Nat) (cD:List α) (lo hi:Nat) (H:aA) (v:VV):Prop :=
 (v = .tree [] .nil∧cD=[])∨∃b g c,lo≤b∧b<hi∧v = .ref b g 0 cD.length c∧cD.length≤c∧aQ H b g=some (cD.map f,e,true)
theorem W9.fA {cD:List α} (h:W9 f e cD lo hi H v) (hk:mB lo hi H H'):W9 f e cD lo hi H' v:=by
 rcases h with h | ⟨b,g,c,h1,h2,h3,h4,h5⟩
 ·exact .inl h
 ·exact .inr ⟨b,g,c,h1,h2,h3,h4,hk _ _ _ h1 h2 h5⟩
theorem R2 {d b g c:Nat} {xs:List α} {w:Bool} (hp:∀x,aR (f x)=true) (h:aQ H b g=some (xs.map f,e,w)) (hc:xs.length≤c):fz (d+2) H (.ref b g 0 xs.length c)=some (bK f xs):=by
 have:aR (.ref b g 0 xs.length c)=false:=rfl
 show PM.fz ((d+1)+1) H _=_
 unfold PM.fz
 simp only[this,h,Bool.false_eq_true,if_false]
 rw[if_pos ⟨by simp,hc⟩,List.drop_zero,List.take_of_length_le (by simp),mapM_pure (n:=d) (dQ hp)]
 rfl
theorem W9.fz {d:Nat} {cD:List α} (h:W9 f e cD lo hi H v) (hp:∀x,aR (f x)=true):PM.fz (d+2) H v=some (bK f cD):=by
 rcases h with⟨rfl,rfl⟩ | ⟨b,g,c,h1,h2,rfl,h4,h5⟩
 ·exact IB
 ·exact R2 hp h5 h4
structure ED (α:Type) where
 b:Nat
 g:Nat
 c:Nat
 xs:List α
def KG (r:ED α):VV := .ref r.b r.g 0 r.xs.length r.c
structure Xt (f:α→VV) (e lo hi b:Nat) (H:aA) (rs:List (ED α)):Prop where
 nd:(rs.map (·.b)).Nodup
 row:∀r∈rs,lo≤r.b∧r.b<hi∧r.b≠b∧r.xs.length≤r.c∧aQ H r.b r.g=some (r.xs.map f,e,true)
def RG (f:α→VV) (e:Nat) (cD:List (List α)) (lo hi:Nat) (H:aA) (v:VV):Prop :=
 (v = .tree [] .nil∧cD=[])∨∃b g c rs,lo≤b∧b<hi∧v = .ref b g 0 cD.length c∧cD.length≤c∧aQ H b g=some (rs.map KG,1,true)∧rs.map (·.xs)=cD∧Xt f e lo hi b H rs
theorem RG.fA {cD:List (List α)} (h:RG f e cD lo hi H v) (hk:mB lo hi H H'):RG f e cD lo hi H' v:=by
 rcases h with h | ⟨b,g,c,rs,h1,h2,h3,h4,h5,h6,h7⟩
 ·exact .inl h
 ·exact .inr ⟨b,g,c,rs,h1,h2,h3,h4,hk _ _ _ h1 h2 h5,h6,h7.nd,fun r hr=>by
   obtain⟨k1,k2,k3,k4,k5⟩:=h7.row r hr
   exact⟨k1,k2,k3,k4,hk _ _ _ k1 k2 k5⟩⟩
theorem Su {d b g c lo hi:Nat} {rs:List (ED α)} {w:Bool} (hp:∀x,aR (f x)=true) (h:aQ H b g=some (rs.map KG,1,w)) (hc:rs.length≤c) (hR:Xt f e lo hi b H rs) :
  fz (d+3) H (.ref b g 0 rs.length c)=some (bK (bK f) (rs.map (·.xs))):=by
 have:aR (.ref b g 0 rs.length c)=false:=rfl
 show PM.fz ((d+2)+1) H _=_
 unfold PM.fz
 simp only[this,h,Bool.false_eq_true,if_false]
 rw[if_pos ⟨by simp,hc⟩,List.drop_zero,List.take_of_length_le (by simp),mapM_map (f:=KG) (f':=fun r=>bK f r.xs) fun r hr=>R2 hp (hR.row r hr).2.2.2.2 (hR.row r hr).2.2.2.1]
 simp[bK,List.map_map]
theorem RG.fz {d:Nat} {cD:List (List α)} (h:RG f e cD lo hi H v) (hp:∀x,aR (f x)=true):PM.fz (d+3) H v=some (bK (bK f) cD):=by
 rcases h with⟨rfl,rfl⟩ | ⟨b,g,c,rs,h1,h2,rfl,h4,h5,rfl,h7⟩
 ·exact IB
 ·rw[List.length_map] at h4 ⊢
  exact Su hp h5 h4 h7
theorem RY {d:Nat} {us Dl:List VV} (h:us.mapM (PM.fz (d+1) H)=some Dl):PM.fz (d+2) H (.agg us)=some (.agg Dl):=by
 have e:PM.fz (d+2) H (.agg us)=if aR (.agg us)=true then some (.agg us) else (us.mapM (PM.fz (d+1) H)).map .agg:=rfl
 rw[e]
 by_cases hq:aR (.agg us)=true
 ·rw[if_pos hq]
  have:us.mapM (PM.fz (d+1) H)=some us:=mapM_pure hq
  rw[this] at h
  cases h
  rfl
 ·rw[if_neg hq,h]
  rfl
end
def GM (T:VV) (lo hi:Nat) (H:aA) (v:VV):Prop:=∀H',mB lo hi H H'→fz depth H' v=some T
theorem GM.fA {T:VV}:∀ {lo hi H H' v},GM T lo hi H v→mB lo hi H H'→GM T lo hi H' v:=fun h hk _ h'=>h _ (hk.trans h')
theorem GM.now {T v:VV} {lo hi:Nat} {H:aA} (h:GM T lo hi H v):fz depth H v=some T:=h H mB.refl
def CG (cD:List (List ByteArray)) (lo hi:Nat) (H:aA) (v:VV):Prop:=∃c,v = .agg [c]∧RG sV 1 cD lo hi H c
theorem CG.fA {cD:List (List ByteArray)}:∀ {lo hi H H' v},CG cD lo hi H v→mB lo hi H H'→CG cD lo hi H' v:=by
 rintro lo hi H H' v ⟨c,h1,h2⟩ hk
 exact⟨c,h1,h2.fA hk⟩
theorem CG.fz {cD:List (List ByteArray)} {lo hi:Nat} {H:aA} {v:VV} (h:CG cD lo hi H v):PM.fz depth H v=some (chV cD):=by
 obtain⟨c,rfl,h⟩:=h
 refine RY (d:=6) ?_
 rw[List.mapM_cons,h.fz (d:=4) fun _=>rfl]
 rfl
theorem CG.seen {cD:List (List ByteArray)} {lo hi:Nat} {H:aA} {v:VV} (h:CG cD lo hi H v):GM (chV cD) lo hi H v:=fun _ hk=>(h.fA hk).fz
def SvG (s:Ww) (lo hi:Nat) (H:aA) (v:VV):Prop:=∃a b c m1 m2,v = .agg [a,b,c]∧lo≤m1∧m1≤m2∧m2≤hi∧W9 sV 1 s.b lo m1 H a∧RG sV 1 s.g m1 m2 H b∧W9 sV 1 s.e m2 hi H c
theorem SvG.fA {s:Ww}:∀ {lo hi H H' v},SvG s lo hi H v→mB lo hi H H'→SvG s lo hi H' v:=by
 rintro lo hi H H' v ⟨a,b,c,m1,m2,h1,k1,k2,k3,h2,h3,h4⟩ hk
 exact⟨a,b,c,m1,m2,h1,k1,k2,k3,h2.fA (hk.sub (by omega) (by omega)),h3.fA (hk.sub (by omega) (by omega)),h4.fA (hk.sub (by omega) (by omega))⟩
theorem adR {s:Ww} {l1 h1 l2 h2 l3 h3:Nat} {H:aA} {a b c:VV} (ha:W9 sV 1 s.b l1 h1 H a) (hb:RG sV 1 s.g l2 h2 H b) (hc:W9 sV 1 s.e l3 h3 H c):PM.fz depth H (.agg [a,b,c])=some (svV s):=by
 refine RY (d:=6) ?_
 rw[List.mapM_cons,ha.fz (d:=5) fun _=>rfl]
 rw[List.mapM_cons,hb.fz (d:=4) fun _=>rfl]
 rw[List.mapM_cons,hc.fz (d:=5) fun _=>rfl]
 rfl
theorem SvG.fz {s:Ww} {lo hi:Nat} {H:aA} {v:VV} (h:SvG s lo hi H v):PM.fz depth H v=some (svV s):=by
 obtain⟨a,b,c,m1,m2,rfl,k1,k2,k3,h2,h3,h4⟩:=h
 exact adR h2 h3 h4
theorem SvG.seen {s:Ww} {lo hi:Nat} {H:aA} {v:VV} (h:SvG s lo hi H v):GM (svV s) lo hi H v:=fun _ hk=>(h.fA hk).fz
theorem W9.seen {cD:List ByteArray} {lo hi:Nat} {H:aA} {v:VV} (h:W9 sV 1 cD lo hi H v):GM (fP cD) lo hi H v:=fun _ hk=>(h.fA hk).fz (d:=6) fun _=>rfl
end Go.PM
namespace Go.PM
section
variable {α:Type} {f:α→VV} {e:Nat}
structure Rd (f:α→VV) (e:Nat) (xs:List α) (H:aA) (v:VV):Prop where
 len:∀H',H <+: H'→oB v H'=some (VI xs.length)
 get:∀H',H <+: H'→∀(i:Nat) x,xs[i]? = some x→∃p,bE e v (VI i) H'=some p∧∀ag,dV ag e p H'=dX ag e (f x) 0
 cell:aB v=[v]∧cH v=true∧isAny v=false
theorem Rd.pre {xs:List α} {H H':aA} {v:VV} (h:Rd f e xs H v) (hh:H <+: H'):Rd f e xs H' v:=⟨fun H2 h2=>h.len H2 (hh.trans h2),fun H2 h2=>h.get H2 (hh.trans h2),h.cell⟩
theorem Rd.tree {xs:List α} {H:aA} {t:TK} (hs:∀x,(aB (f x)).length=e):Rd f e xs H (.tree (xs.map f) t) :=
 ⟨fun _ _=>dP,fun _ _ i x hx=>⟨_,aM hx (hs x),fun ag=>M0⟩,rfl,rfl,rfl⟩
theorem Rd.row {xs:List α} {H:aA} {b g n c:Nat} {w:Bool} (h:aQ H b g=some (xs.map f,e,w)) (hn:n=xs.length):Rd f e xs H (.ref b g 0 n c):=by
 subst hn
 refine⟨fun H' hh=>gK (lG hh h),fun H' hh i x hx => ?_,rfl,rfl,rfl⟩
 have hi:=(List.getElem?_eq_some_iff.1 hx).1
 have e1:=bB (o:=0) (n:=xs.length) (c:=c) (i:=i) (k := .i64) (lG hh h) hi
 rw[Nat.zero_add] at e1
 exact⟨_,e1,fun ag=>qZ (f:=f) (lG hh h) hx⟩
structure MG (f:α→VV) (e lo hi b g:Nat) (H:aA) (rs:List (ED α)):Prop where
 out:aQ H b g=some (rs.map KG,1,true)
 blo:lo≤b
 bhi:b<hi
 rows:Xt f e lo hi b H rs
variable {lo hi b g:Nat} {H H':aA} {rs:List (ED α)}
theorem MG.fA (h:MG f e lo hi b g H rs) (hk:mB lo hi H H'):MG f e lo hi b g H' rs :=
 ⟨hk _ _ _ h.blo h.bhi h.out,h.blo,h.bhi,h.rows.nd,fun r hr=>by
  obtain⟨k1,k2,k3,k4,k5⟩:=h.rows.row r hr
  exact⟨k1,k2,k3,k4,hk _ _ _ k1 k2 k5⟩⟩
theorem MG.pre (h:MG f e lo hi b g H rs) (hh:H <+: H'):MG f e lo hi b g H' rs:=h.fA (mB.pre hh)
theorem MG.len {n c:Nat} (h:MG f e lo hi b g H rs):oB (.ref b g 0 n c) H=some (VI n):=gK h.out
theorem MG.cell {i:Nat} {r:ED α} (h:MG f e lo hi b g H rs) (hr:rs[i]? = some r):dV false 1 (.ptr b g i 0) H=some (.ref r.b r.g 0 r.xs.length r.c):=by
 rw[qZ (f:=KG) h.out hr]
 rfl
theorem MG.row {i:Nat} {r:ED α} (h:MG f e lo hi b g H rs) (hr:rs[i]? = some r):aQ H r.b r.g=some (r.xs.map f,e,true):=(h.rows.row r (List.mem_of_getElem? hr)).2.2.2.2
theorem MG.at {i j n c:Nat} {r:ED α} (h:MG f e lo hi b g H rs) (hr:rs[i]? = some r) (hj:j<n):bE e (.ref r.b r.g 0 n c) (VI j) H=some (.ptr r.b r.g j 0):=by
 have:=bB (o:=0) (n:=n) (c:=c) (i:=j) (k := .i64) (h.row hr) hj
 rwa [Nat.zero_add] at this
theorem MG.get {i j:Nat} {ag:Bool} {r:ED α} {x:α} (h:MG f e lo hi b g H rs) (hr:rs[i]? = some r) (hx:r.xs[j]? = some x):dV ag e (.ptr r.b r.g j 0) H=dX ag e (f x) 0:=qZ (f:=f) (h.row hr) hx
theorem MG.inj {i j:Nat} {r s:ED α} (h:MG f e lo hi b g H rs) (hr:rs[i]? = some r) (hs:rs[j]? = some s) (he:r.b=s.b):i=j:=by
 have h1:(rs.map (·.b))[i]? = some r.b:=by simp[hr]
 have h2:(rs.map (·.b))[j]? = some r.b:=by simp[hs,he]
 exact V4 h.rows.nd h1 h2
theorem Js {β γ:Type} {F:β→γ} {l:List β} {i:Nat} {x y:β} (hx:l[i]? = some x) (he:F y=F x):(l.set i y).map F=l.map F:=by
 apply List.ext_getElem?
 intro j
 rw[List.getElem?_map,List.getElem?_map,List.getElem?_set]
 split
 ·rename_i Q0
  subst Q0
  split
  ·rw[hx,Option.map_some,Option.map_some,he]
  ·rename_i hn
   rw[(List.getElem?_eq_none (by omega))] at hx
   cases hx
 ·rfl
theorem MG.set {i:Nat} {r:ED α} {ys:List α} (h:MG f e lo hi b g H rs) (hr:rs[i]? = some r) (hl:ys.length=r.xs.length):MG f e lo hi b g (H.set r.b (.row r.g (ys.map f) e true)) (rs.set i { r with xs:=ys }):=by
 have hrm:=h.rows.row r (List.mem_of_getElem? hr)
 refine⟨?_,h.blo,h.bhi,?_,fun s hs => ?_⟩
 ·rw[Js hr (by simp[KG,hl])]
  exact mU hrm.2.2.1 h.out
 ·rw[Js (F:=fun r:ED α=>r.b) (y:={ r with xs:=ys }) hr rfl]
  exact h.rows.nd
 ·obtain⟨j,hj⟩:=List.getElem?_of_mem hs
  rw[List.getElem?_set] at hj
  split at hj
  ·rename_i Q0
   split at hj
   ·cases hj
    exact⟨hrm.1,hrm.2.1,hrm.2.2.1,by rw[hl];exact hrm.2.2.2.1,sO hrm.2.2.2.2⟩
   ·cases hj
  ·rename_i Q0
   have Yj:=h.rows.row s (List.mem_of_getElem? hj)
   exact⟨Yj.1,Yj.2.1,Yj.2.2.1,Yj.2.2.2.1,mU (fun he=>Q0 (h.inj hr hj he)) Yj.2.2.2.2⟩
theorem MG.put {i j Af:Nat} {r:ED α} {y:α} (h:MG f e lo hi b g H rs) (hr:rs[i]? = some r) (hj:j<r.xs.length) (gF:Af≤lo) (hv:(aB (f y)).length=e) (hs:(aB (f y)).all cH=true) :
  cQ Af e (.ptr r.b r.g j 0) (f y) H=some (H.set r.b (.row r.g ((r.xs.set j y).map f) e true)) :=
 fD (f:=f) (h.row hr) hj (Nat.le_trans gF (h.rows.row r (List.mem_of_getElem? hr)).1) hv hs
theorem MG.lt {i:Nat} {r:ED α} (h:MG f e lo hi b g H rs) (hr:rs[i]? = some r):lo≤r.b∧r.b<hi∧r.b<H.length:=⟨(h.rows.row r (List.mem_of_getElem? hr)).1,(h.rows.row r (List.mem_of_getElem? hr)).2.1,MR (h.row hr)⟩
theorem MG.cD {c:Nat} (h:MG f e lo hi b g H rs) (hc:rs.length≤c):RG f e (rs.map (·.xs)) lo hi H (.ref b g 0 rs.length c) := .inr ⟨b,g,c,rs,h.blo,h.bhi,by rw[List.length_map],by rw[List.length_map];exact hc,h.out,rfl,h.rows⟩
theorem MG.fz {d c:Nat} (h:MG f e lo hi b g H rs) (hc:rs.length≤c) (hp:∀x,aR (f x)=true):PM.fz (d+3) H (.ref b g 0 rs.length c)=some (bK (bK f) (rs.map (·.xs))):=Su hp h.out hc h.rows
end
theorem VEX:type_of% (And.intro @Am<|And.intro @zO<|And.intro @lW.eq_1<|And.intro @oL.eq_1<|And.intro @oL.eq_2<|And.intro @CJ.eq_1<|And.intro @CJ.eq_2<|And.intro @vN.eq_1<|And.intro @vN.eq_2<|And.intro @Ej<|And.intro @zW<|And.intro @Co<|And.intro @B9<|And.intro @List.take_zero.{0}<|And.intro @List.take_succ_cons.{0}<|And.intro @List.take_nil.{0}<|And.intro @List.drop_zero.{0}<|And.intro @List.drop_succ_cons.{0}<|And.intro @List.drop_nil.{0}<|And.intro @List.append_nil.{0} <| @Nat.le_refl):=And.intro @Am<|And.intro @zO<|And.intro @lW.eq_1<|And.intro @oL.eq_1<|And.intro @oL.eq_2<|And.intro @CJ.eq_1<|And.intro @CJ.eq_2<|And.intro @vN.eq_1<|And.intro @vN.eq_2<|And.intro @Ej<|And.intro @zW<|And.intro @Co<|And.intro @B9<|And.intro @List.take_zero.{0}<|And.intro @List.take_succ_cons.{0}<|And.intro @List.take_nil.{0}<|And.intro @List.drop_zero.{0}<|And.intro @List.drop_succ_cons.{0}<|And.intro @List.drop_nil.{0}<|And.intro @List.append_nil.{0} <| @Nat.le_refl
def WL (P:Nat→Nat→aA→VV→Prop) (H:aA) (r:VV) (H':aA):Prop:=H <+: H'∧P H.length H'.length H' r
theorem DE {F lo:Nat} {args:List VV} {P:Nat→Nat→aA→VV→Prop} {H:aA} {K:VV→aA→Prop} (xL:CA.contains F=true) (h:qT F args lo H (WL P H)) (hk:∀r L,P H.length (H++L).length (H++L) r→K r (H++L)):dE F args lo H K:=by
 refine nK xL (h.mono ?_)
 rintro r H' ⟨⟨L,rfl⟩,hP⟩
 exact hk r L hP
end Go.PM
namespace Go.PM
open Go.Lib
theorem La {k b g j o:Nat} (h:b<k):C7 k (.ptr b g j o) = .ptr b g j o:=Dx (by simp[below,h])
abbrev cell0:iY := .row 0 [.agg [VB false,.tree [] .nil,.tree [] .nil]] 3 true
theorem Py {k:Nat} {K:aA}:gA k (cell0::K)=gA k K:=uA rfl
theorem Pk {k:Nat} {q:Rat} {K:aA}:gA k (.row 0 [bX q] 3 true::K)=gA k K:=uA (kI _ (by simp only[aJ,fN];rfl))
def sJ (qs:List Rat):Rat:=qs.foldl (· + ·) 0
theorem Lg {qs:List Rat} {i:Nat} {q:Rat} (h:qs[i]? = some q):sJ (qs.take (i+1))=sJ (qs.take i)+q:=by
 rw[E5 h,sJ,List.foldl_append];rfl
theorem K9 {B:Nat}:∀ {qs:List Rat},(∀q∈qs,cE q≤B)→∀a:Rat,cE (qs.foldl (· + ·) a)≤qs.length*(B+1)+cE a
 | [],_,a=>by simp
 |
  q::qs,h,a=>by
  have h1:=K9 (fun x hx=>h x (List.mem_cons_of_mem _ hx)) (a+q)
  have h2:=Lx a q
  have h3:=h q List.mem_cons_self
  rw[List.foldl_cons,List.length_cons,Nat.succ_mul]
  omega
theorem zZ {B:Nat} {qs:List Rat} (h:∀q∈qs,cE q≤B) (i:Nat):cE (sJ (qs.take i))≤qs.length*(B+1)+1:=by
 have h1:=K9 (qs:=qs.take i) (fun q hq=>h q (List.mem_of_mem_take hq)) 0
 have h2:(qs.take i).length*(B+1)≤qs.length*(B+1):=Nat.mul_le_mul_right _ (by rw[List.length_take];omega)
 rw[HO] at h1
 unfold sJ
 omega
set_option maxHeartbeats 1000000 in
abbrev rz:VV := .agg [VB false,.tree [] .nil,.tree [] .nil]
theorem Ed {H H1:aA} {b:Nat} {x:iY} (h:H <+: H1) (hb:H.length≤b):H <+: H1.set b x:=by
 obtain⟨L,rfl⟩:=h
 rw[List.set_append_right _ _ hb]
 exact List.prefix_append _ _
theorem WB {H H1 L:aA} (h:H <+: H1):H <+: H1++L:=h.trans (List.prefix_append _ _)
theorem Oi {lo:Nat} {H:aA} {q:Rat} (h:lo≤H.length):cQ lo 3 (.ptr H.length 0 0 0) (bX q) (H++[cell0])=some (H++[.row 0 [bX q] 3 true]):=by
 rw[kP (g:=0) (e:=3) (j:=0) Ku (by exact Nat.zero_lt_one) h rfl rfl,OU]
 rfl
theorem Yx {H K:aA} {q:Rat}:dV true 3 (.ptr H.length 0 0 0) (H ++ .row 0 [bX q] 3 true::K)=some (bX q):=by
 rw[kU,MF,bT]
 exact cY _
theorem QS {lo:Nat} {H:aA} {v:VV} (qs:List Rat) {B:Nat} (hv:Rd bX 3 qs H v) (gF:lo≤H.length) (hb:∀q∈qs,cE q≤B) (hk:qs.length*(B+1)+1≤1099511627776) (hB:B≤1099511627776) (hn:qs.length≤1000000000) :
  qT 148 [v] lo H (WL (fun _ _ _ r=>r=bX (sJ qs)) H):=by
 refine qT.walk ⟨true,false⟩ QX (Nat.le_of_ble_eq_true rfl) ?_
 have e1:TC 97 [VI 0] (bX 0):=nP 0 (by decide) (by decide)
 have e2:=hv.len (H++[cell0,.row 0 [bX 0] 3 true]) (List.prefix_append _ _)
 have s0:cQ lo 3 (.ptr (H.length+1) 0 0 0) (bX 0) (H++[cell0,cell0])=some (H++[cell0,.row 0 [bX 0] 3 true]):=by
  have:=Oi (lo:=lo) (H:=H++[cell0]) (q:=0) (by rw[List.length_append];omega)
  simpa only[List.length_append,List.length_cons,List.length_nil,Nat.zero_add,List.append_assoc,List.cons_append,List.nil_append] using this
 simp only[PE,IW,e1,e2,s0,List.length_append,List.length_cons,List.length_nil,List.append_assoc,List.cons_append,List.nil_append,VEX,VX,Nat.reduceEqDiff,Nat.reduceAdd,Nat.reduceLeDiff,Nat.reduceLT,Nat.reduceSub]
 refine aY (fun(i:Nat) ρ H1=>i≤qs.length∧H <+: H1∧aQ H1 H.length 0=some ([rz],3,true)∧aQ H1 (H.length+1) 0=some ([bX (sJ (qs.take i))],3,true)∧ρ 2 = .ptr H.length 0 0 0∧ρ 3 = .ptr (H.length+1) 0 0 0∧ρ 7=v∧ρ 8=VI qs.length∧ρ 9=VI i) (fun i=>qs.length-i) 0 ⟨Nat.zero_le _,List.prefix_append _ _,MF.trans bT,RT.trans (B5.trans bT),rfl,rfl,rfl,rfl,rfl⟩ ?_
 rintro i ρ H1 ⟨hi,hp,M8,M7,g2,g3,g7,g8,g9⟩
 have DC:=MR M7
 by_cases dA:(i:Int)<(qs.length:Int)
 ·obtain⟨q,hq⟩:∃q,qs[i]? = some q:=⟨_,List.getElem?_eq_getElem (by omega)⟩
  obtain⟨p,a1,a2⟩:=hv.get H1 hp i q hq
  have a2':=(a2 true).trans (cY _)
  have wi:IntKind.i64.wrap ((i:Int)+1)=((i+1:Nat):Int):=wrapN (i+1) (by omega) (by omega)
  have h1:=zZ hb i
  have h2:=hb q (List.mem_of_getElem? hq)
  have h3:(i+1)*(B+1)≤qs.length*(B+1):=Nat.mul_le_mul_right _ (by omega)
  have e3:=A5 (sJ (qs.take i)) q (by omega) (by omega)
  rw[←Lg hq] at e3
  have s1:=Oi (lo:=lo) (H:=H1) (q:=q) (by omega)
  have s2:=Yx (H:=H1) (K:=[]) (q:=q)
  have s3:dV true 3 (.ptr (H.length+1) 0 0 0) (H1++[.row 0 [bX q] 3 true])=some (bX (sJ (qs.take i))):=by
   rw[kU,BC M7]
   exact cY _
  have s4:=kP (lo:=lo) (v:=bX (sJ (qs.take (i+1)))) (j:=0) (BC (L:=[.row 0 [bX q] 3 true]) M7) (by exact Nat.zero_lt_one) (by omega) rfl rfl
  rw[List.set_cons_zero] at s4
  simp only[Bg,g2,g3,g7,g8,g9,dA,a1,a2',e3,s1,s2,s3,s4,wi,cY,VEX,VX,Nat.reduceEqDiff,Nat.reduceAdd,Nat.reduceLeDiff,Nat.reduceLT,Nat.reduceSub]
  exact⟨i+1,by omega,by omega,Ed (WB hp) (by omega),mU (by omega) (BC M8),sO (BC M7),by (repeat' apply And.intro)<;>first | rfl | trivial | assumption⟩
 ·have rI:i=qs.length:=by omega
  subst rI
  rw[List.take_length] at M7
  have s3:dV true 3 (.ptr (H.length+1) 0 0 0) H1=some (bX (sJ qs)):=by
   rw[kU,M7]
   exact cY _
  have s4:=kP (lo:=lo) (v:=bX (sJ qs)) (j:=0) M8 (by exact Nat.zero_lt_one) gF rfl rfl
  rw[List.set_cons_zero] at s4
  have s5:dV true 3 (.ptr H.length 0 0 0) (H1.set H.length (.row 0 [bX (sJ qs)] 3 true))=some (bX (sJ qs)):=by
   rw[kU,sO M8]
   exact cY _
  simp only[Bg,g2,g3,g8,g9,dA,s3,s4,s5,VEX,VX,Nat.reduceEqDiff,Nat.reduceAdd,Nat.reduceLeDiff,Nat.reduceLT,Nat.reduceSub]
  exact⟨Ed hp (Nat.le_refl _),rfl⟩
theorem KP {q:Rat}:jH q<0↔q<0:=by
 have e:q.num<0↔q<0:=by rw[←Int.not_le,Rat.num_nonneg];constructor<;>intro h<;>grind
 rw[←e]
 rcases Int.lt_trichotomy q.num 0 with h | h | h
 ·rw[nD h];omega
 ·rw[jL h];omega
 ·rw[nO h];omega
theorem Im (q:Rat):TC 147 [bX q] (VB (decide (q<0))):=by
 refine TC.walk ⟨true,false⟩ I5 rfl (Nat.le_of_ble_eq_true rfl) (by simp[aJ,fN]) rfl ?_
 have e1:=gY q
 by_cases h:jH q<0
 ·rw[decide_eq_true (KP.1 h)]
  simp only[Ad,vI,e1,h,aF,bQ,cY,aN,aO,aI,iA,Nat.reduceLeDiff,Nat.reduceLT,Nat.reduceSub,mH,cB,cN,gN,kG,nT,bne_iff_ne,ne_eq,not_false_eq_true,not_true_eq_false,VX,Nat.reduceEqDiff,Nat.reduceAdd]
  exact aH rfl
 ·rw[decide_eq_false (mt KP.2 h)]
  simp only[Ad,vI,e1,h,aF,bQ,cY,aN,aO,aI,iA,Nat.reduceLeDiff,Nat.reduceLT,Nat.reduceSub,mH,cB,cN,gN,kG,nT,bne_iff_ne,ne_eq,not_false_eq_true,not_true_eq_false,VX,Nat.reduceEqDiff,Nat.reduceAdd]
  exact aH rfl
theorem Ak (xs:List Rat) (g:Nat) (p:Rat→Bool) (hg:∀x∈xs,TC g [bX x] (VB (p x))) (hn:xs.length≤1000000000) :
  ∃k:Int,(0≤k↔xs.any p=true)∧TC 205 [bK bX xs,.sW g []] (VI k):=by
 refine⟨match xs.findIdx? p with | some i=>i | none => -1,?_,?_⟩
 ·cases h:xs.findIdx? p with
  |
   none =>
   rw[List.findIdx?_eq_none_iff] at h
   simp only[List.any_eq_true]
   constructor
   ·intro h';omega
   ·rintro⟨x,hx,hp⟩;rw[h x hx] at hp;cases hp
  |
   some i =>
   simp only[List.any_eq_true]
   obtain⟨hi,hp,_⟩:=List.findIdx?_eq_some_iff_getElem.1 h
   exact⟨fun _=>⟨_,List.getElem_mem hi,hp⟩,fun _=>by omega⟩
 ·refine TC.walk ⟨true,false⟩ mG rfl (Nat.le_of_ble_eq_true rfl) (by simp[aJ,uN];rfl) rfl ?_
  simp only[gR,gD,VX,Nat.reduceEqDiff,Nat.reduceAdd]
  refine aY (fun(i:Nat) ρ H=>i≤xs.length∧H=[]∧(∀j x,j<i→xs[j]? = some x→p x=false)∧ρ 0=bK bX xs∧ρ 1 = .sW g []∧ρ 7=VI xs.length∧ρ 8=VI i) (fun i=>xs.length-i) 0 ⟨Nat.zero_le _,rfl,fun j x h=>by omega,rfl,rfl,rfl,rfl⟩ ?_
  rintro i ρ H ⟨hi,rfl,kA,h0,h1,h7,h8⟩
  by_cases dA:(i:Int)<(xs.length:Int)
  ·obtain⟨x,hx⟩:∃x,xs[i]? = some x:=⟨_,List.getElem?_eq_getElem (by omega)⟩
   have e1:=aM (f:=bX) (t := .op) (H:=[]) (size:=3) (k := .i64) hx rfl
   have wi:IntKind.i64.wrap ((i:Int)+1)=((i+1:Nat):Int):=wrapN (i+1) (by omega) (by omega)
   have e2:=hg x (List.mem_of_getElem? hx)
   cases hp:p x with
   |
    false =>
    rw[hp] at e2
    simp only[cC,h0,h1,h7,h8,dA,e1,e2,wi,zP,List.append_nil,aF,bQ,cY,aN,aO,aI,VX,Nat.reduceEqDiff,Nat.reduceAdd]
    refine⟨i+1,by omega,by omega,fun j y hj hy => ?_,by (repeat' apply And.intro)<;>first | rfl | trivial⟩
    rcases Nat.lt_or_ge j i with J0 | J0
    ·exact kA j y J0 hy
    ·have:j=i:=by omega
     subst this
     rw[hx] at hy
     injection hy with hy
     exact hy▸hp
   |
    true =>
    rw[hp] at e2
    simp only[cC,h0,h1,h7,h8,dA,e1,e2,wi,zP,List.append_nil,aF,bQ,cY,aN,aO,aI,VX,Nat.reduceEqDiff,Nat.reduceAdd]
    have:xs.findIdx? p=some i:=by
     rw[List.findIdx?_eq_some_iff_getElem]
     obtain⟨aX,Cx⟩:=List.getElem?_eq_some_iff.1 hx
     exact⟨aX,by rw[Cx];exact hp,fun j hj=>by
      have:=kA j _ hj (List.getElem?_eq_getElem (by omega))
      simp[this]⟩
    rw[this]
    exact aH rfl
  ·simp only[cC,h0,h1,h7,h8,dA,VX,Nat.reduceEqDiff,Nat.reduceAdd]
   have:xs.findIdx? p=none:=by
    rw[List.findIdx?_eq_none_iff]
    intro x hx
    obtain⟨j,hj⟩:=List.getElem?_of_mem hx
    exact kA j x (by have:=(List.getElem?_eq_some_iff.1 hj).1;omega) hj
   rw[this]
   exact aH rfl
theorem wM (xs:List Rat) (g:Nat) (p:Rat→Bool) (hg:∀x∈xs,TC g [bX x] (VB (p x))) (hn:xs.length≤1000000000):TC 146 [bK bX xs,.sW g []] (VB (xs.any p)):=by
 refine TC.walk ⟨true,false⟩ kR rfl (Nat.le_of_ble_eq_true rfl) (by simp[aJ,uN];rfl) rfl ?_
 obtain⟨k,hk,hc⟩:=Ak xs g p hg hn
 have e:decide (0≤k)=xs.any p:=by
  cases h:xs.any p with
  | true=>rw[decide_eq_true (hk.2 h)]
  | false=>rw[decide_eq_false fun h'=>by rw[hk.1 h'] at h;cases h]
 simp only[fU,fK,hc,e,VX,Nat.reduceEqDiff,Nat.reduceAdd]
 exact aH rfl
def jE (qs:List Rat):Bool := !(qs.any fun q=>decide (q<0))&&decide (sJ qs=1)
def pW (xs:List ByteArray):Option (List Rat):=match Ax xs with
 | some qs=>if jE qs=true then some qs else none
 | none=>none
theorem J3 {xs:List ByteArray} {qs:List Rat} (h:pW xs=some qs):Ax xs=some qs∧jE qs=true:=by
 unfold pW at h
 split at h
 ·rename_i ps hp
  split at h
  ·rename_i hw
   cases h
   exact⟨hp,hw⟩
  ·cases h
 ·cases h
theorem JD {n:Nat} (h:n≤300):n*(665+1)+1≤1099511627776:=by omega
theorem GR {xs:List ByteArray} {qs:List Rat} (h:Ax xs=some qs):pW xs=if jE qs=true then some qs else none:=by unfold pW;rw[h]
theorem GD {xs:List ByteArray} (h:Ax xs=none):pW xs=none:=by unfold pW;rw[h]
theorem uP:Kt none = .eO [bK bX [],VB false]:=rfl
theorem DM (qs:List Rat):Kt (some qs) = .eO [bK bX qs,VB true]:=rfl
set_option maxHeartbeats 1000000 in
theorem FU (xs:List ByteArray) (hn:xs.length≤1000000000) (hs:∀s∈xs,s.size≤1000000000):TC 114 [fP xs] (Kt (pW xs)):=by
 refine TC.walk ⟨true,false⟩ F8 rfl (Nat.le_of_ble_eq_true rfl) (by simp[aJ,dR]) (Kk _) ?_
 have e1:=Oc xs hn hs
 cases h:Ax xs with
 |
  none =>
  rw[h,uP] at e1
  rw[GD h,uP]
  simp only[mJ,jZ,e1,VX,Nat.reduceEqDiff,Nat.reduceAdd]
  exact DJ
 |
  some qs =>
  rw[h,DM] at e1
  rw[GR h]
  obtain⟨hb,hl,_⟩:=DH h
  have e2:=wM qs 147 (fun q=>decide (q<0)) (fun q _=>Im q) (by omega)
  have hm:qs.length*666≤199800:=by omega
  have e3:=fun(K:aA)=>QS (lo:=0) (H:=K) (v:=bK bX qs) qs (B:=665) (Rd.tree F4) (Nat.zero_le _) hb (JD hl) (by decide) (by omega)
  have UY:=zZ hb qs.length
  rw[List.take_length] at UY
  have e4:=FP (sJ qs) (by omega)
  cases Hi:qs.any (fun q=>decide (q<0)) with
  |
   true =>
   rw[Hi] at e2
   have hw:¬jE qs=true:=by unfold jE;rw[Hi];simp
   rw[if_neg hw,uP]
   simp only[mJ,jZ,e1,e2,VX,Nat.reduceEqDiff,Nat.reduceAdd]
   exact DJ
  |
   false =>
   rw[Hi] at e2
   by_cases Ue:sJ qs=1
   ·rw[decide_eq_true Ue] at e4
    have hw:jE qs=true:=by unfold jE;rw[Hi,decide_eq_true Ue];rfl
    rw[if_pos hw,DM]
    simp only[mJ,jZ,e1,e2,VX,Nat.reduceEqDiff,Nat.reduceAdd]
    refine DE rfl (e3 _) fun r L hr => ?_
    subst hr
    simp only[e4,VX,Nat.reduceEqDiff,Nat.reduceAdd]
    exact aH (TH (uN _) rfl)
   ·rw[decide_eq_false Ue] at e4
    have hw:¬jE qs=true:=by unfold jE;rw[Hi,decide_eq_false Ue];simp
    rw[if_neg hw,uP]
    simp only[mJ,jZ,e1,e2,VX,Nat.reduceEqDiff,Nat.reduceAdd]
    refine DE rfl (e3 _) fun r L hr => ?_
    subst hr
    simp only[e4,VX,Nat.reduceEqDiff,Nat.reduceAdd]
    exact DJ
end Go.PM
namespace Go.PM
open Go.Lib
def mY (qs:List Rat) (n:Nat):Nat→Rat
 | 0=>0
 | i+1=>mY qs n i+qs.getD i 0*(i:Rat)^n
theorem BR {i:Nat} (h:i≤300) (n:Nat) (hn:n≤10):cE (((i:Int):Rat))≤9∧cE (((i:Int):Rat)^n)≤91:=by
 have h1:=Uw (i:Int)
 have h2:bl (i:Int).natAbs≤9:=by rw[Int.natAbs_natCast];exact CN (by omega)
 have h3:cE (((i:Int):Rat))≤9:=by omega
 have h4:=Cn (((i:Int):Rat)) n
 have h5:n*cE (((i:Int):Rat))≤10*9:=Nat.mul_le_mul hn h3
 exact⟨h3,by omega⟩
theorem Ba {qs:List Rat} {n:Nat} (hb:∀q∈qs,cE q≤665) (hl:qs.length≤300) (hn:n≤10):∀i,i≤qs.length→cE (mY qs n i)≤1000*i+1
 | 0,_=>by rw[mY,HO];omega
 |
  i+1,hi=>by
  have h1:=Ba hb hl hn i (by omega)
  have hq:qs[i]? = some qs[i]:=List.getElem?_eq_getElem (by omega)
  have h2:=hb _ (List.getElem_mem (by omega:i<qs.length))
  have h3:=(BR (i:=i) (by omega) n hn).2
  have h4:=Cq qs[i] (((i:Int):Rat)^n)
  have h5:=Lx (mY qs n i) (qs[i]*((i:Int):Rat)^n)
  have e:((i:Nat):Rat)=((i:Int):Rat):=rfl
  rw[mY,List.getD_eq_getElem?_getD,hq,Option.getD_some,e]
  omega
set_option maxHeartbeats 1000000 in
theorem JX (qs:List Rat) (n:Nat) (hb:∀q∈qs,cE q≤665) (hl:qs.length≤300) (hn:n≤10):TC 120 [bK bX qs,VI n] (bX (mY qs n qs.length)):=by
 refine TC.walk ⟨true,false⟩ JR rfl (Nat.le_of_ble_eq_true rfl) (by simp only[aJ,uN];rfl) (sT _) ?_
 have e1:TC 97 [VI 0] (bX 0):=nP 0 (by decide) (by decide)
 simp only[Gz,C2,e1,aF,bQ,cY,aN,aO,aI,iA,Nat.reduceLeDiff,Nat.reduceLT,Nat.reduceSub,mH,cB,cN,gN,kG,nT,bne_iff_ne,ne_eq,not_false_eq_true,not_true_eq_false,VX,Nat.reduceEqDiff,Nat.reduceAdd]
 refine HY (fun(i:Nat) ρ H=>i≤qs.length∧H=[cell0,.row 0 [bX (mY qs n i)] 3 true]∧ρ 1=VI n∧ρ 4 = .ptr 0 0 0 0∧ρ 5 = .ptr 1 0 0 0∧ρ 9=bK bX qs∧ρ 10=VI qs.length∧ρ 11=VI i) (fun i=>qs.length-i) 0 ⟨Nat.zero_le _,rfl,rfl,rfl,rfl,rfl,rfl,rfl⟩ ?_
 rintro i ρ H ⟨hi,rfl,g1,g4,g5,g9,g10,g11⟩
 by_cases dA:(i:Int)<(qs.length:Int)
 ·obtain⟨q,hq⟩:∃q,qs[i]? = some q:=⟨_,List.getElem?_eq_getElem (by omega)⟩
  have e2:=fun H=>aM (f:=bX) (t := .op) (H:=H) (size:=3) (k := .i64) hq rfl
  have wi:IntKind.i64.wrap ((i:Int)+1)=((i+1:Nat):Int):=wrapN (i+1) (by omega) (by omega)
  have h1:=Ba hb hl hn i hi
  have h2:=hb q (List.mem_of_getElem? hq)
  obtain⟨h3,h4⟩:=BR (i:=i) (by omega) n hn
  have h5:=Cq q (((i:Int):Rat)^n)
  have e3:=nP (i:Int) (by omega) (by omega)
  have e4:=FJ ((i:Int):Rat) n (by omega) (by omega)
  have e5:=BA q (((i:Int):Rat)^n) (by omega) (by omega)
  have e6:=A5 (mY qs n i) (q*((i:Int):Rat)^n) (by omega) (by omega)
  have e7:mY qs n i+q*((i:Int):Rat)^n=mY qs n (i+1):=by
   rw[mY,List.getD_eq_getElem?_getD,hq,Option.getD_some]
   rfl
  rw[e7] at e6
  simp only[vE,g1,g4,g5,g9,g10,g11,dA,e2,e3,e4,e5,e6,wi,aF,bQ,cY,aN,aO,aI,iA,Nat.reduceLeDiff,Nat.reduceLT,Nat.reduceSub,mH,cB,cN,gN,kG,nT,bne_iff_ne,ne_eq,not_false_eq_true,not_true_eq_false,VX,Nat.reduceEqDiff,Nat.reduceAdd]
  refine⟨i+1,by omega,by rw[Py,Pk,FW],by omega,rfl,?_⟩
  simp only[fG,g1,g4,g5,g9,g10,vG (uN _),La (by decide:0<2),La (by decide:1<2),VX,Nat.reduceEqDiff,Nat.reduceAdd,List.take_zero,gA,List.all_nil,List.length_nil,fG,Jj,vG]
 ·have rI:i=qs.length:=by omega
  subst rI
  simp only[vE,g1,g4,g5,g9,g10,g11,dA,aF,bQ,cY,aN,aO,aI,iA,Nat.reduceLeDiff,Nat.reduceLT,Nat.reduceSub,mH,cB,cN,gN,kG,nT,bne_iff_ne,ne_eq,not_false_eq_true,not_true_eq_false,VX,Nat.reduceEqDiff,Nat.reduceAdd]
  exact aH (fN _)
def J6 (xs:List ByteArray) (n:Int):VV:=match pW xs with
 | some qs=>if 0≤n∧n≤10 then DP (mY qs n.toNat qs.length) else .eO [aS [],VB false]
 | none => .eO [aS [],VB false]
theorem JA (xs:List ByteArray) (n:Int):gJ (J6 xs n)=true:=by
 unfold J6
 split
 ·split
  ·exact Gd _
  ·rfl
 ·rfl
theorem OY (xs:List ByteArray) (n:Int):∃s k,J6 xs n = .eO [aS s,VB k]:=by
 unfold J6
 split
 ·split
  ·exact E9 _
  ·exact⟨_,_,rfl⟩
 ·exact⟨_,_,rfl⟩
theorem Hm (xs:List ByteArray) (n:Int) (hn:xs.length≤1000000000) (hs:∀s∈xs,s.size≤1000000000):TC 47 [fP xs,VI n] (J6 xs n):=by
 refine TC.walk ⟨true,false⟩ Hg rfl (Nat.le_of_ble_eq_true rfl) (by simp only[aJ,dR];rfl) (JA _ _) ?_
 have e1:=FU xs hn hs
 have e2:=Tw n 0 10
 unfold J6
 cases h:pW xs with
 |
  none =>
  rw[h,uP] at e1
  simp only[]
  simp only[sF,oI,e1,VX,Nat.reduceEqDiff,Nat.reduceAdd]
  exact aH rfl
 |
  some qs =>
  rw[h,DM] at e1
  simp only[]
  by_cases hk:0≤n∧n≤10
  ·obtain⟨m,rfl⟩:∃m:Nat,n=m:=⟨n.toNat,by omega⟩
   rw[decide_eq_true hk] at e2
   rw[if_pos hk,Int.toNat_natCast]
   obtain⟨hb,hl,_⟩:=DH (J3 h).1
   have e3:=JX qs m hb hl (by omega)
   have h3:=Ba (n:=m) hb hl (by omega) qs.length (Nat.le_refl _)
   have e4:=OF (mY qs m qs.length) (by omega)
   obtain⟨s,k,hsk⟩:=E9 (mY qs m qs.length)
   rw[hsk] at e4 ⊢
   simp only[sF,oI,e1,e2,e3,e4,VX,Nat.reduceEqDiff,Nat.reduceAdd]
   exact aH rfl
  ·rw[decide_eq_false hk] at e2
   rw[if_neg hk]
   simp only[sF,oI,e1,e2,VX,Nat.reduceEqDiff,Nat.reduceAdd]
   exact aH rfl
theorem JK (xs:List ByteArray) (hn:xs.length≤1000000000) (hs:∀s∈xs,s.size≤1000000000):TC 44 [fP xs] (J6 xs 1):=by
 refine TC.walk ⟨true,false⟩ JT rfl (Nat.le_of_ble_eq_true rfl) (by simp only[aJ,dR];rfl) (JA _ _) ?_
 have e1:=Hm xs 1 hn hs
 obtain⟨s,k,h⟩:=OY xs 1
 rw[h] at e1 ⊢
 simp only[GU,CY,e1,VX,Nat.reduceEqDiff,Nat.reduceAdd]
 exact aH rfl
def aaG (xs:List ByteArray):VV:=J6 xs 1
theorem Tj (xs:List ByteArray):∃s k,aaG xs = .eO [aS s,VB k]:=OY xs 1
end Go.PM
namespace Go.PM
open Go.Lib
theorem XO (d:Nat) (h:d≤9223372036854775807):TC 235 [VI (d:Int)] (aS (decDigits d)):=by
 have:=JM (d:Int) (by omega) (by omega)
 rw[if_neg (by omega),List.nil_append,Int.natAbs_natCast] at this
 exact this
theorem Wp {n i:Nat} (hi:i+1=(aC 1000000000 n).length):n / 1000000000^i=n / 1000000000^i % 1000000000:=by
 have h1:=Td (b:=1000000000) (by decide) n (i+1)
 rw[List.drop_of_length_le (by omega)] at h1
 have h2:=(jW (b:=1000000000) (by decide)).1 h1.symm
 rw[pR] at h2
 rcases Nat.div_eq_zero_iff.1 h2 with h | h
 ·exact absurd h (by decide)
 ·exact(Nat.mod_eq_of_lt h).symm
theorem GO (l:List UInt8) (a b:Nat):(⟨l.toArray⟩:ByteArray).extract a b=⟨((l.drop a).take (b-a)).toArray⟩:=by
 rw[ByteArray.ext_iff,ByteArray.data_extract]
 simp[List.extract_toArray,List.extract_eq_take_drop]
theorem U9 (l:List UInt8) {a b:Nat} (h:a≤b) (hb:b≤l.length):sK (aS l) (some (VI (a:Int))) (some (VI (b:Int)))=some (aS ((l.drop a).take (b-a))):=by
 have hs:(⟨l.toArray⟩:ByteArray).size=l.length:=by simp[ByteArray.size]
 have e1:(0:Int)≤b∧(b:Int)≤(l.length:Int):=by omega
 have e2:(0:Int)≤a∧(a:Int)≤(b:Int):=by omega
 simp only[sK,Ee,xI,hs,dT,e1,e2,and_self,if_true,Int.toNat_natCast,GO]
theorem K0 (l:List UInt8) {a:Nat} (h:a≤l.length):sK (aS l) (some (VI (a:Int))) none=some (aS (l.drop a)):=by
 have hs:(⟨l.toArray⟩:ByteArray).size=l.length:=by simp[ByteArray.size]
 have e2:(0:Int)≤a∧(a:Int)≤(l.length:Int):=by omega
 simp only[sK,Ee,xI,hs,dT,e2,and_self,if_true,Int.toNat_natCast,GO]
 rw[List.take_of_length_le (by simp)]
theorem afX (l:List UInt8) (h:1≤l.length):sK (aS l) (some (VI 1)) none=some (aS (l.drop 1)):=K0 l h
theorem TF {a:Nat} (h:a<1000000000):IntKind.i64.wrap ((a:Int)+1000000000)=((a+1000000000:Nat):Int):=wrapN _ (by omega) (by omega)
theorem lU (n:Nat) (hn:bl n≤2199023255552):TC 212 [bM n] (aS (decDigits n)):=by
 refine TC.walk ⟨true,false⟩ D5 rfl (Nat.le_of_ble_eq_true rfl) (by simp[aJ,bU]) rfl ?_
 by_cases h0:n=0
 ·subst h0
  have hl:(((aC 1000000000 0).length:Nat):Int)=0:=by rw[bR];rfl
  simp only[sZ,pU,cK,hl,VX,Nat.reduceEqDiff,Nat.reduceAdd]
  rw[gW (by decide)]
  exact aH rfl
 have hl:¬(((aC 1000000000 n).length:Nat):Int)=0:=by have:=(wF (n:=n)).2 h0;omega
 obtain⟨L,hL⟩:∃L,(aC 1000000000 n).length=L+1:=⟨(aC 1000000000 n).length-1,by omega⟩
 have A3:=mM (n:=n) (by omega)
 have hlT:=ZP n
 have hdl:=yU n
 have w1:IntKind.i64.wrap (((L+1:Nat):Int)-1)=(L:Int):=wrapN _ (by omega) (by omega)
 have w2:IntKind.i64.wrap (((L+1:Nat):Int)-2)=(L:Int)-1:=by rw[wrap64 (by omega) (by omega)];omega
 have at':∀i,i≤L→bE 1 (bM n) (VI (i:Int)) []=some (.cO (tV (n / 1000000000^i % 1000000000)) 0):=fun i hi=>aM (f:=tV) (t := .op) (H:=[]) (size:=1) (k := .i64) (HT (b:=1000000000) (by decide) (n:=n) (i:=i) (by omega)) rfl
 have eL:=at' L (Nat.le_refl _)
 have W4:=Wp (n:=n) (i:=L) (by omega)
 rw[←W4] at eL
 have JJ:n / 1000000000^L≠0:=(Ct (b:=1000000000) (by decide)).1 (by omega)
 have hqT:n / 1000000000^L<1000000000:=by rw[W4];exact Nat.mod_lt _ (by decide)
 have c1:=XO (n / 1000000000^L) (by omega)
 rw[hL] at hl
 simp only[sZ,pU,cK,hL,hl,w1,w2,eL,c1,VX,Nat.reduceEqDiff,Nat.reduceAdd]
 refine aY (fun(j:Nat) ρ H=>j≤L∧H=[]∧ρ 0=bM n∧ρ 3=aS (decDigits (n / 1000000000^j))∧ρ 4=VI ((j:Int)-1)) (fun j=>j) L ⟨Nat.le_refl _,rfl,rfl,rfl,rfl⟩ ?_
 rintro j ρ H ⟨hj,rfl,g0,g3,g4⟩
 by_cases hz:(0:Int)≤(j:Int)-1
 ·obtain⟨i,rfl⟩:∃i,j=i+1:=⟨j-1,by omega⟩
  have J0:((i+1:Nat):Int)-1=(i:Int):=by omega
  rw[J0] at g4 hz
  have e1:=at' i (by omega)
  have hm:=Nat.mod_lt (n / 1000000000^i) (show 0<1000000000 by decide)
  have hq1:n / 1000000000^(i+1)≠0:=(Ct (b:=1000000000) (by decide)).1 (by omega)
  have hdm:=Nat.mod_add_div (n / 1000000000^i) 1000000000
  rw[←pR] at hdm
  have Z0:=Fm (Nat.pos_of_ne_zero hq1) hm
  have hle:n / 1000000000^i≤n:=Nat.div_le_self _ _
  have Xy:=yU (n / 1000000000^i)
  have hbi:=jG hle
  rw[show n / 1000000000^(i+1)*1000000000+n / 1000000000^i % 1000000000=n / 1000000000^i by omega] at Z0
  generalize hAA:n / 1000000000^i=A at *
  generalize n / 1000000000^(i+1)=B at *
  have w4:IntKind.i64.wrap ((i:Int)-1)=(i:Int)-1:=wrap64 (by omega) (by omega)
  have c2:=XO (A % 1000000000+1000000000) (by omega)
  rw[Zk hm] at c2
  have e2:=afX (d10 1::AR 9 (A % 1000000000)) (by simp)
  rw[List.drop_succ_cons,List.drop_zero] at e2
  have hlen:=congrArg List.length Z0
  rw[List.length_append] at hlen
  have a1:=sE (decDigits B) (AR 9 (A % 1000000000)) (by omega)
  rw[←Z0] at a1
  have aoK:i≤L:=by omega
  have hmu:i<i+1:=by omega
  have w3:=TF hm
  simp only[oX,g0,g3,g4,hz,e1,w3,w4,c2,e2,a1,VX,Nat.reduceEqDiff,Nat.reduceAdd]
  refine⟨i,hmu,aoK,?_⟩
  rw[hAA]
  exact⟨rfl,rfl⟩
 ·have Qv:j=0:=by omega
  subst Qv
  rw[Nat.pow_zero,Nat.div_one] at g3
  simp only[oX,g0,g3,g4,hz,VX,Nat.reduceEqDiff,Nat.reduceAdd]
  exact aH rfl
theorem Jn (q:Rat) (hk:cE q≤1099511627776):TC 176 [cF q] (VB (A4 q)):=by
 refine TC.walk ⟨true,false⟩ HW rfl (Nat.le_of_ble_eq_true rfl) (by simp[aJ,uG]) rfl ?_
 have la:=rJ hk
 have lb:=rE hk
 have t1:=lU q.num.natAbs (by omega)
 have t2:=lU q.den (by omega)
 have hf:A4 q=(decide (((decDigits q.num.natAbs).length:Int)≤200)&&decide (((decDigits q.den).length:Int)≤200)):=by
  unfold A4
  congr 1<;>exact decide_eq_decide.2 (by omega)
 rw[hf]
 by_cases hl:((decDigits q.num.natAbs).length:Int)≤200
 ·simp only[Aj,vJ,t1,t2,hl,bC,bP,jV,mR,mO,aK,iA,Nat.reduceLeDiff,Nat.reduceLT,Nat.reduceSub,VX,Nat.reduceEqDiff,Nat.reduceAdd]
  exact aH rfl
 ·simp only[Aj,vJ,t1,t2,hl,bC,bP,jV,mR,mO,aK,iA,Nat.reduceLeDiff,Nat.reduceLT,Nat.reduceSub,VX,Nat.reduceEqDiff,Nat.reduceAdd]
  exact aH rfl
theorem Iy (q:Rat) (hk:cE q≤1099511627776):TC 163 [cF q] (aS (IU q)):=by
 refine TC.walk ⟨true,false⟩ Iu rfl (Nat.le_of_ble_eq_true rfl) (by simp[aJ,uG]) rfl ?_
 have la:=rJ hk
 have lb:=rE hk
 have t1:=lU q.num.natAbs (by omega)
 have t2:=lU q.den (by omega)
 have d1:=yU q.num.natAbs
 have d2:=yU q.den
 have c1:∀lo H K,_:=fun lo H K=>HG (n:=q.den) (lo:=lo) (H:=H) (K:=K) (Nat.le_of_lt (mM (by omega)))
 have a1:cX .add (.string ⟨#[45]⟩) (.string ⟨(decDigits q.num.natAbs).toArray⟩)=some (.string ⟨(45::decDigits q.num.natAbs).toArray⟩):=sE [45] _ (by simp only[List.length_cons,List.length_nil];omega)
 have a2:cX .add (.string ⟨#[47]⟩) (.string ⟨(decDigits q.den).toArray⟩)=some (.string ⟨(47::decDigits q.den).toArray⟩):=sE [47] (decDigits q.den) (by simp only[List.length_cons,List.length_nil];omega)
 have a3:=sE (45::decDigits q.num.natAbs) (47::decDigits q.den) (by simp only[List.length_cons];omega)
 have a4:=sE (decDigits q.num.natAbs) (47::decDigits q.den) (by simp only[List.length_cons];omega)
 have hs:IU q=(if q.num<0 then (45::decDigits q.num.natAbs) else decDigits q.num.natAbs)++(if q.den=1 then [] else 47::decDigits q.den):=by
  unfold IU
  by_cases hn:q.num<0
  ·rw[if_pos hn,if_pos hn];rfl
  ·rw[if_neg hn,if_neg hn];rfl
 rw[hs]
 by_cases hd:eE q.den 1=0
 ·rw[if_pos (uH.1 hd),List.append_nil]
  by_cases hn:q.num<0
  all_goals
   simp only[An,wE,t1,t2,a1,a2,a3,a4,c1,hd,hn,dC,bP,jV,mR,mO,aK,iA,Nat.reduceLeDiff,Nat.reduceLT,Nat.reduceSub,VX,Nat.reduceEqDiff,Nat.reduceAdd]
   exact aH rfl
 ·rw[if_neg (mt uH.2 hd)]
  by_cases hn:q.num<0
  all_goals
   simp only[An,wE,t1,t2,a1,a2,a3,a4,c1,hd,hn,dC,bP,jV,mR,mO,aK,iA,Nat.reduceLeDiff,Nat.reduceLT,Nat.reduceSub,VX,Nat.reduceEqDiff,Nat.reduceAdd]
   exact aH rfl
theorem Ii (q:Rat) (hk:cE q≤1099511627776):TC 93 [cF q] (DP q):=by
 refine TC.walk ⟨true,false⟩ I6 rfl (Nat.le_of_ble_eq_true rfl) (by simp[aJ,uG]) (Gd q) ?_
 have t1:=Jn q hk
 have t2:=Iy q hk
 unfold DP
 by_cases h:A4 q=true
 ·rw[h] at t1
  rw[if_pos h]
  simp only[zQ,wC,t1,t2,bP,gT,dF,aK,iA,Nat.reduceLeDiff,Nat.reduceLT,Nat.reduceSub,VX,Nat.reduceEqDiff,Nat.reduceAdd]
  exact aH rfl
 ·have h':A4 q=false:=by simpa using h
  rw[h'] at t1
  rw[if_neg h]
  simp only[zQ,wC,t1,bP,gT,dF,aK,iA,Nat.reduceLeDiff,Nat.reduceLT,Nat.reduceSub,VX,Nat.reduceEqDiff,Nat.reduceAdd]
  exact aH rfl
end Go.PM
namespace Go.PM
open Go.Lib
def fY (c:UInt8):List UInt8→List (List UInt8)
 | []=>[[]]
 |
  x::r=>if x=c then []::fY c r else match fY c r with
  | []=>[[x]]
  | a::t=>(x::a)::t
theorem Jx {c:UInt8} {r:List UInt8}:∀ {a:List UInt8},c∉a→fY c (a++c::r)=a::fY c r:=by
 intro a
 induction a with
 | nil=>intro _;rw[List.nil_append,fY,if_pos rfl]
 |
  cons x a ih =>
  intro h
  rw[List.mem_cons,not_or] at h
  rw[List.cons_append,fY,if_neg (fun he=>h.1 he.symm),ih h.2]
theorem Dr {c:UInt8}:∀ {a:List UInt8},c∉a→fY c a=[a]:=by
 intro a
 induction a with
 | nil=>intro _;rfl
 |
  cons x a ih =>
  intro h
  rw[List.mem_cons,not_or] at h
  rw[fY,if_neg (fun he=>h.1 he.symm),ih h.2]
theorem QK {c:UInt8} (l:List UInt8):fY c l≠[]:=by
 cases l with
 | nil=>simp[fY]
 |
  cons x r =>
  rw[fY]
  split
  ·simp
  ·split<;>simp
theorem OI {c:UInt8} {l:List UInt8} (h:(kE c l).2=none):fY c l=[l]:=Dr (yR h).2.2
theorem Gv {c:UInt8} {l r:List UInt8} (h:(kE c l).2=some r):fY c l=(kE c l).1::fY c r:=by
 obtain⟨_,h2,h3⟩:=Fo h
 have:=Jx (r:=r) h3
 rw[←h2] at this
 exact this
theorem Ph {c:UInt8} {l:List UInt8} (h:c∈l):2≤(fY c l).length:=by
 cases hc:(kE c l).2 with
 | none=>exact absurd h (yR hc).2.2
 |
  some r =>
  rw[Gv hc,List.length_cons]
  have:=List.length_pos_iff.2 (QK (c:=c) r)
  omega
theorem UI {l:List UInt8} {i:Nat} (h:i<l.length):(l.take (i+1)).all gM=((l.take i).all gM&&gM (l.getD i 0)):=by
 rw[List.take_add_one,List.all_append]
 have:l[i]? = some (l.getD i 0):=by rw[List.getElem?_eq_getElem h,List.getD_eq_getElem?_getD,List.getElem?_eq_getElem h];rfl
 rw[this]
 simp
set_option maxHeartbeats 1000000 in
theorem nH (l:List UInt8) (hl:l.length≤1000000000000):TC 223 [aS l] (VB (gB l)):=by
 refine TC.walk ⟨true,false⟩ Gc rfl (Nat.le_of_ble_eq_true rfl) rfl rfl ?_
 simp only[Bk,yV,VX,Nat.reduceEqDiff,Nat.reduceAdd]
 refine aY (fun(i:Nat) ρ H=>i≤l.length∧H=[]∧(l.take i).all gM=true∧ρ 0=aS l∧ρ 3=VI i) (fun i=>l.length-i) 0 ⟨Nat.zero_le _,rfl,rfl,rfl,rfl⟩ ?_
 rintro i ρ H ⟨hi,rfl,hd,g0,g3⟩
 by_cases dA:(i:Int)<(l.length:Int)
 ·have QW:i<l.length:=by omega
  have e1:=BE l QW
  have wi:IntKind.i64.wrap ((i:Int)+1)=((i+1:Nat):Int):=wrapN (i+1) (by omega) (by omega)
  have ht:=UI QW
  rw[hd,Bool.true_and] at ht
  have QG:gM (l.getD i 0)=(decide (48≤(l.getD i 0).toNat)&&decide ((l.getD i 0).toNat≤57)):=rfl
  have kA:gM (l.getD i 0)=false→gB l=false:=by
   intro h
   rw[h] at ht
   have:l.all gM=false:=by rw[←List.take_append_drop (i+1) l,List.all_append,ht,Bool.false_and]
   unfold gB
   rw[this]
   rfl
  generalize (l.getD i 0).toNat=c at *
  by_cases q1:(c:Int)<48
  ·rw[kA (by rw[QG,decide_eq_false (by omega)];rfl)]
   simp only[cZ,g0,g3,bC,dA,e1,q1,VX,Nat.reduceEqDiff,Nat.reduceAdd]
   exact aH rfl
  ·by_cases q2:(57:Int)<(c:Int)
   ·rw[kA (by rw[QG,decide_eq_false (show ¬c≤57 by omega),Bool.and_false])]
    simp only[cZ,g0,g3,bC,dA,e1,q1,q2,VX,Nat.reduceEqDiff,Nat.reduceAdd]
    exact aH rfl
   ·rw[QG,decide_eq_true (by omega),decide_eq_true (by omega),Bool.and_self] at ht
    simp only[cZ,g0,g3,bC,dA,e1,q1,q2,wi,VX,Nat.reduceEqDiff,Nat.reduceAdd]
    exact⟨i+1,by omega,by omega,ht,rfl⟩
 ·have rI:i=l.length:=by omega
  subst rI
  rw[List.take_length] at hd
  by_cases h1:(1:Int)≤(l.length:Int)
  ·by_cases h2:(l.length:Int)≤200
   ·by_cases h3:(l.length:Int)=1
    ·rw[iM.2 ⟨hd,by omega,by omega,.inl (by omega)⟩]
     simp only[cZ,g0,g3,bC,dA,ge_iff_le,h1,h2,h3,Int.reduceLE,Int.reduceLT,VX,Nat.reduceEqDiff,Nat.reduceAdd]
     exact aH rfl
    ·have e1:=E8 l (by omega)
     by_cases h4:(((l.getD 0 0).toNat:Int)=48)
     ·have hk:gB l=false:=by
       cases h:gB l with
       | false=>rfl
       |
        true =>
        rcases(iM.1 h).2.2.2 with h5 | h5
        ·omega
        ·exact absurd (UInt8.toNat_inj.1 (by rw[show (48:UInt8).toNat=48 from rfl];omega)) h5
      rw[hk]
      simp only[cZ,g0,g3,bC,dA,ge_iff_le,h1,h2,h3,h4,e1,VX,Nat.reduceEqDiff,Nat.reduceAdd]
      exact aH rfl
     ·have h5:l.getD 0 0≠48:=fun h=>h4 (by rw[h];rfl)
      rw[iM.2 ⟨hd,by omega,by omega,.inr h5⟩]
      simp only[cZ,g0,g3,bC,dA,ge_iff_le,h1,h2,h3,h4,e1,VX,Nat.reduceEqDiff,Nat.reduceAdd]
      exact aH rfl
   ·have hk:gB l=false:=by
     cases h:gB l with
     | false=>rfl
     | true=>have:=(iM.1 h).2.2.1;omega
    rw[hk]
    simp only[cZ,g0,g3,bC,dA,ge_iff_le,h1,h2,VX,Nat.reduceEqDiff,Nat.reduceAdd]
    exact aH rfl
  ·have hk:gB l=false:=by
    cases h:gB l with
    | false=>rfl
    | true=>have:=(iM.1 h).2.1;omega
   rw[hk]
   simp only[cZ,g0,g3,bC,dA,ge_iff_le,h1,VX,Nat.reduceEqDiff,Nat.reduceAdd]
   exact aH rfl
set_option maxHeartbeats 1000000 in
theorem CR (l:List UInt8) (c:UInt8) (hl:l.length≤1000000000000):TC 222 [aS l,.sc (.int .u8 (c.toNat:Int))] (bK aS (fY c l)):=by
 refine TC.walk ⟨true,false⟩ Kb rfl (Nat.le_of_ble_eq_true rfl) rfl (Bs (size:=1) (fun _=>rfl) (fun _=>rfl) fun _=>rfl) ?_
 have e3:∀lr,rC lr [.string ⟨#[]⟩] 0 [] []=some (.ref 0 0 0 0 0,[.row 0 (([]:List (List UInt8)).map aS) 1 true]):=fun lr=>oC (H:=[]) (lr:=lr) (z:=[.string ⟨#[]⟩]) rfl
 have e4:∀(x:List UInt8) (H:aA),rC false [.string ⟨#[]⟩] 1 [(0,aS x)] H=some (.tree [aS x] (.cl 1),H):=fun x H=>sS (z:=[.string ⟨#[]⟩]) rfl rfl rfl
 have e5:∀(x:List UInt8) (H:aA),eW 1 (.tree [aS x] (.cl 1)) H=some [aS x]:=fun x H=>pE rfl rfl
 simp only[G0,CS,e3,VX,Nat.reduceEqDiff,Nat.reduceAdd]
 refine aY (fun(s:List (List UInt8)×Nat×Nat) ρ H=>H=[.row s.1.length (s.1.map aS) 1 true]∧s.2.1≤s.2.2∧s.2.2≤l.length+1∧s.1.length≤s.2.1 ∧
  ((s.2.2≤l.length∧fY c l=s.1++fY c (l.drop s.2.1)∧c∉(l.drop s.2.1).take (s.2.2-s.2.1))∨(s.2.2=l.length+1∧fY c l=s.1)) ∧
  ρ 0=aS l∧ρ 1 = .sc (.int .u8 (c.toNat:Int))∧ρ 5 = .ref 0 s.1.length 0 s.1.length s.1.length∧ρ 6=VI s.2.1∧ρ 7=VI s.2.2) (fun s=>l.length+1-s.2.2) ([],0,0) ⟨rfl,Nat.zero_le _,Nat.zero_le _,Nat.zero_le _,.inl ⟨Nat.zero_le _,rfl,by simp⟩,rfl,rfl,rfl,rfl,rfl⟩ ?_
 rintro⟨out,fr,i⟩ ρ H ⟨rfl,hfi,hi,iF,EZ,g0,g1,g5,g6,g7⟩
 simp only at hfi hi iF EZ g5 g6 g7
 by_cases dA:(i:Int)≤(l.length:Int)
 ·have QW:i≤l.length:=by omega
  obtain⟨hp,hc⟩:fY c l=out++fY c (l.drop fr)∧c∉(l.drop fr).take (i-fr):=by
   rcases EZ with⟨_,h1,h2⟩ | ⟨h,_⟩
   ·exact⟨h1,h2⟩
   ·omega
  have wi:IntKind.i64.wrap ((i:Int)+1)=((i+1:Nat):Int):=wrapN (i+1) (by omega) (by omega)
  have e2:=U9 l hfi QW
  have eP:=pH (f:=aS) (xs:=out) (x:=(l.drop fr).take (i-fr)) (lo:=0) (b:=0) (g:=out.length) (n:=out.length) (e:=1) (bytes:=16) (H:=[.row out.length (out.map aS) 1 true]) bT rfl (Nat.zero_le _) (by decide) (by decide) (by omega)
  have Fy:([.row out.length (out.map aS) 1 true]:aA).set 0 (.row (out.length+1) ((out++[(l.drop fr).take (i-fr)]).map aS) 1 true)=[.row (out.length+1) ((out++[(l.drop fr).take (i-fr)]).map aS) 1 true]:=rfl
  rw[Fy] at eP
  by_cases q1:i=l.length
  ·subst q1
   have Xp:fY c l=out++[(l.drop fr).take (l.length-fr)]:=by
    rw[hp]
    have:(l.drop fr).take (l.length-fr)=l.drop fr:=List.take_of_length_le (by rw[List.length_drop];omega)
    rw[this] at hc ⊢
    rw[Dr hc]
   simp only[mK,g0,g1,g5,g6,g7,bC,dA,eq_self,e2,e4,e5,eP,wi,VX,Nat.reduceEqDiff,Nat.reduceAdd]
   refine⟨(out++[(l.drop fr).take (l.length-fr)],l.length+1,l.length+1),by simp only;omega,?_,by simp only;omega,by simp only;omega,?_,.inr ⟨rfl,Xp⟩,?_⟩
   ·simp
   ·simp only[List.length_append,List.length_cons,List.length_nil];omega
   ·simp
  ·have Zm:i<l.length:=by omega
   have q1':¬(i:Int)=(l.length:Int):=by omega
   have e1:=BE l Zm
   have ZF:l.drop i=l.getD i 0::l.drop (i+1):=by rw[List.drop_eq_getElem_cons Zm,List.getD_eq_getElem?_getD,List.getElem?_eq_getElem Zm];rfl
   by_cases q2:l.getD i 0=c
   ·have q2':((l.getD i 0).toNat:Int)=(c.toNat:Int):=by rw[q2]
    have Xp:fY c l=(out++[(l.drop fr).take (i-fr)])++fY c (l.drop (i+1)):=by
     have OH:l.drop fr=(l.drop fr).take (i-fr)++c::l.drop (i+1):=by
      have h1:(l.drop fr).drop (i-fr)=l.drop i:=by rw[List.drop_drop];congr 1;omega
      conv=>lhs;rw[←List.take_append_drop (i-fr) (l.drop fr),h1,ZF,q2]
     rw[hp]
     conv=>lhs;rw[OH]
     rw[Jx hc,List.append_assoc]
     rfl
    simp only[mK,g0,g1,g5,g6,g7,bC,dA,q1',e1,q2',eq_self,e2,e4,e5,eP,wi,VX,Nat.reduceEqDiff,Nat.reduceAdd]
    refine⟨(out++[(l.drop fr).take (i-fr)],i+1,i+1),by simp only;omega,?_,by simp only;omega,by simp only;omega,?_,.inl ⟨by simp only;omega,Xp,by simp⟩,?_⟩
    ·simp
    ·simp only[List.length_append,List.length_cons,List.length_nil];omega
    ·simp
   ·have q2':¬((l.getD i 0).toNat:Int)=(c.toNat:Int):=fun h=>q2 (UInt8.toNat_inj.1 (by omega))
    simp only[mK,g0,g1,g5,g6,g7,bC,dA,q1',e1,q2',wi,VX,Nat.reduceEqDiff,Nat.reduceAdd]
    refine⟨(out,fr,i+1),by simp only;omega,rfl,by simp only;omega,by simp only;omega,iF,.inl ⟨by simp only;omega,hp,?_⟩,rfl,rfl,rfl⟩
    simp only
    rw[show i+1-fr=(i-fr)+1 by omega,List.take_add_one,List.mem_append,not_or]
    refine⟨hc,?_⟩
    have:(l.drop fr)[i-fr]? = some (l.getD i 0):=by
     rw[List.getElem?_drop,show fr+(i-fr)=i by omega,List.getD_eq_getElem?_getD,List.getElem?_eq_getElem Zm]
     rfl
    rw[this]
    simp
    exact fun h=>q2 h.symm
 ·have Xp:fY c l=out:=by
   rcases EZ with⟨h,_⟩ | ⟨_,h⟩
   ·omega
   ·exact h
  rw[Xp]
  simp only[mK,g0,g5,g7,bC,dA,VX,Nat.reduceEqDiff,Nat.reduceAdd]
  exact DG (es:=out.map aS) bT (by simp) (Nat.le_refl _) (dQ fun _=>rfl)
theorem WA {l:List UInt8} (h:l.all gM=true) {i:Nat} (hi:i<l.length):48≤(l.getD i 0).toNat∧(l.getD i 0).toNat≤57:=by
 have:=List.all_eq_true.1 h (l.getD i 0) (by rw[List.getD_eq_getElem?_getD,List.getElem?_eq_getElem hi];exact List.getElem_mem hi)
 simpa[gM] using this
theorem Jt {l:List UInt8} (hd:l.all gM=true) (hl:l.length≤1000000000000) {fr tq:Nat} (hft:fr≤tq) (h9:tq-fr≤9) (htl:tq≤l.length) {H:aA} {lo:Nat} {ρ:cR} {Q:VQ} (h0:ρ 0=aS l) (h4:ρ 4=VI tq) (h6:ρ 6=VI 0) (h7:ρ 7=VI fr)
  (hQ:∀aW,(∀t,t<6→aW t=ρ t)→aW 6=VI (bL ((l.drop fr).take (tq-fr)))→Q .normal aW H):VW ⟨true,false⟩ lo (.loop lB) (xQ 2 Q) ρ H:=by
 refine aY (fun(i:Nat) aW H'=>fr≤i∧i≤tq∧H'=H∧(∀t,t<6→aW t=ρ t)∧aW 6=VI (bL ((l.drop fr).take (i-fr)))∧aW 7=VI i) (fun i=>tq-i) fr ⟨Nat.le_refl _,hft,rfl,fun _ _=>rfl,by rw[h6,Nat.sub_self];rfl,h7⟩ ?_
 rintro i aW H' ⟨hfi,hi,rfl,hk,g6,g7⟩
 have g0:=(hk 0 (by decide)).trans h0
 have g4:=(hk 4 (by decide)).trans h4
 by_cases dA:(i:Int)<(tq:Int)
 ·have QW:i<l.length:=by omega
  have e1:=BE l QW
  obtain⟨c1,c2⟩:=WA hd QW
  have wi:IntKind.i64.wrap ((i:Int)+1)=((i+1:Nat):Int):=wrapN (i+1) (by omega) (by omega)
  have hcd:((l.drop fr).take (i-fr)).all gM=true:=by
   rw[List.all_eq_true] at hd ⊢
   exact fun x hx=>hd x (List.mem_of_mem_drop (List.mem_of_mem_take hx))
  have aX:=Ev hcd
  rw[List.length_take,List.length_drop,Nat.min_eq_left (by omega)] at aX
  have hp9:10^(i-fr)≤10^8:=Nat.pow_le_pow_right (by decide) (by omega)
  have e8:(10:Nat)^8=100000000:=by decide
  have rV:bL ((l.drop fr).take (i+1-fr))=bL ((l.drop fr).take (i-fr))*10+dv (l.getD i 0):=by
   have:(l.drop fr)[i-fr]? = some (l.getD i 0):=by
    rw[List.getElem?_drop,show fr+(i-fr)=i by omega,List.getD_eq_getElem?_getD,List.getElem?_eq_getElem QW]
    rfl
   rw[show i+1-fr=(i-fr)+1 by omega,List.take_add_one,this]
   exact TZ _ _
  have hdv:dv (l.getD i 0)=(l.getD i 0).toNat-48:=rfl
  rw[hdv] at rV
  generalize (l.getD i 0).toNat=c at *
  generalize bL ((l.drop fr).take (i-fr))=D at *
  have w1:IntKind.i64.wrap (10*(D:Int))=((10*D:Nat):Int):=wrapN _ (by omega) (by omega)
  have w2:IntKind.u8.wrap ((c:Int)-48)=((c-48:Nat):Int):=by
   simp[IntKind.wrap,IntKind.bits,IntKind.signed]
   omega
  have w3:IntKind.i64.wrap ((c-48:Nat):Int)=((c-48:Nat):Int):=wrapN _ rfl (by omega)
  have w4:IntKind.i64.wrap (((10*D:Nat):Int)+((c-48:Nat):Int))=((D*10+(c-48):Nat):Int):=wrapN _ (by omega) (by omega)
  simp only[lB,g0,g4,g6,g7,dA,e1,w1,w2,w3,w4,wi,VX,Nat.reduceEqDiff,Nat.reduceAdd]
  refine⟨i+1,by omega,by omega,by omega,fun t ht => ?_,by rw[rV],rfl⟩
  try simp only[sM]
  repeat rw[if_neg (by omega)]
  exact hk t ht
 ·have rI:i=tq:=by omega
  subst rI
  simp only[lB,g4,g7,dA,VX,Nat.reduceEqDiff,Nat.reduceAdd]
  refine hQ _ (fun t ht => ?_) ?_
  ·try simp only[sM]
   repeat rw[if_neg (by omega)]
   exact hk t ht
  ·simp only[g6,VX,Nat.reduceEqDiff,Nat.reduceAdd]
set_option maxHeartbeats 1000000 in
theorem qF (l:List UInt8) (hd:l.all gM=true) (hl:l.length≤1000000000):TC 224 [aS l] (bM (bL l)):=by
 refine TC.walk ⟨true,false⟩ Et rfl (Nat.le_of_ble_eq_true rfl) rfl (lF _) ?_
 have e3:∀lr,rC lr [.int .i64 0] 0 [] []=some (.ref 0 0 0 0 0,[.row 0 (([]:List Nat).map tV) 1 true]):=fun lr=>oC (H:=[]) (lr:=lr) (z:=[.int .i64 0]) rfl
 have e4:∀(x:Nat) (H:aA),rC false [.int .i64 0] 1 [(0,tV x)] H=some (.tree [tV x] (.cl 1),H):=fun x H=>sS (z:=[.int .i64 0]) rfl rfl rfl
 have e5:∀(x:Nat) (H:aA),eW 1 (.tree [tV x] (.cl 1)) H=some [tV x]:=fun x H=>pE rfl rfl
 simp only[AB,wV,e3,bC,VX,Nat.reduceEqDiff,Nat.reduceAdd]
 refine aY (fun(s:List Nat×Int) ρ H=>H=[.row s.1.length (s.1.map tV) 1 true]∧s.2≤l.length ∧ -9≤s.2∧s.1.length+s.2.toNat≤l.length∧(∀d∈s.1,d<1000000000)∧bL l=val 1000000000 s.1+1000000000^s.1.length*bL (l.take s.2.toNat) ∧
  ρ 0=aS l∧ρ 3 = .ref 0 s.1.length 0 s.1.length s.1.length∧ρ 4=VI s.2) (fun s=>s.2.toNat) ([],(l.length:Int)) ⟨rfl,Int.le_refl _,by simp only;omega,by simp,by simp,?_,rfl,rfl,rfl⟩ ?_
 ·simp only[Int.toNat_natCast,List.take_length,List.length_nil,Nat.pow_zero,Nat.one_mul,val,Nat.zero_add]
 rintro⟨out,z⟩ ρ H ⟨rfl,hz,hz9,iF,hds,hv,g0,g3,g4⟩
 simp only at hz hz9 iF hds hv g3 g4
 by_cases jN:0<z
 ·obtain⟨tq,rfl⟩:∃tq:Nat,z=tq:=⟨z.toNat,by omega⟩
  rw[Int.toNat_natCast] at iF hv
  have hto:0<tq:=by omega
  have key:∀fr:Nat,fr≤tq→tq-fr≤9→bL (l.take tq)=bL (l.take fr)*10^(tq-fr)+bL ((l.drop fr).take (tq-fr))∧bL ((l.drop fr).take (tq-fr))<1000000000:=by
   intro fr h1 h2
   have hcd:((l.drop fr).take (tq-fr)).all gM=true:=by
    rw[List.all_eq_true] at hd ⊢
    exact fun x hx=>hd x (List.mem_of_mem_drop (List.mem_of_mem_take hx))
   have hlen:((l.drop fr).take (tq-fr)).length=tq-fr:=by rw[List.length_take,List.length_drop];omega
   constructor
   ·have:=List.take_add (l:=l) (i:=fr) (j:=tq-fr)
    rw[show fr+(tq-fr)=tq by omega] at this
    rw[this,H0,hlen]
   ·have:=Ev hcd
    rw[hlen] at this
    exact Nat.lt_of_lt_of_le this (Nat.le_trans (Nat.pow_le_pow_right (by decide) h2) (by decide))
  have eP:=fun X=>pH (f:=tV) (xs:=out) (x:=X) (lo:=0) (b:=0) (g:=out.length) (n:=out.length) (e:=1) (bytes:=8) (H:=[.row out.length (out.map tV) 1 true]) bT rfl (Nat.zero_le _) (by decide) (by decide) (by omega)
  have Fy:∀X,([.row out.length (out.map tV) 1 true]:aA).set 0 (.row (out.length+1) ((out++[X]).map tV) 1 true)=[.row (out.length+1) ((out++[X]).map tV) 1 true]:=fun _=>rfl
  simp only[Fy] at eP
  by_cases h9:(9:Int)<(tq:Int)
  ·obtain⟨k1,k2⟩:=key (tq-9) (by omega) (by omega)
   have wz:IntKind.i64.wrap ((tq:Int)-9)=((tq-9:Nat):Int):=wrapN _ (by omega) (by omega)
   rw[show tq-(tq-9)=9 by omega] at k1 k2
   rw[show (10:Nat)^9=1000000000 by decide] at k1
   simp only[kZ,g0,g3,g4,jN,h9,wz,VX,Nat.reduceEqDiff,Nat.reduceAdd]
   refine Jt (l:=l) hd (by omega) (fr:=tq-9) (tq:=tq) (by omega) (by omega) (by omega) ?_ ?_ ?_ ?_ fun uE q q6 => ?_
   all_goals first | (simp only[g0,g4,VX,Nat.reduceEqDiff,Nat.reduceAdd];done) | skip
   rw[show tq-(tq-9)=9 by omega] at q6
   have u3:uE 3 = .ref 0 out.length 0 out.length out.length:=by rw[q 3 (by decide)];simp only[g3,VX,Nat.reduceEqDiff,Nat.reduceAdd]
   have u0:uE 0=aS l:=by rw[q 0 (by decide)];simp only[g0,VX,Nat.reduceEqDiff,Nat.reduceAdd]
   have u4:uE 4=VI tq:=by rw[q 4 (by decide)];simp only[g4,VX,Nat.reduceEqDiff,Nat.reduceAdd]
   generalize bL ((l.drop (tq-9)).take 9)=X at *
   have e4:=e4 X
   have e5:=e5 X
   have eP:=eP X
   simp only[u0,u3,u4,q6,e4,e5,eP,wz,VX,Nat.reduceEqDiff,Nat.reduceAdd]
   refine⟨(out++[X],((tq-9:Nat):Int)),by simp only;omega,?_,by simp only;omega,by simp only;omega,?_,?_,?_,?_⟩
   ·simp
   ·simp only[List.length_append,List.length_cons,List.length_nil];omega
   ·intro d hdm
    rcases List.mem_append.1 hdm with h | h
    ·exact hds d h
    ·rw[List.mem_singleton] at h;omega
   ·simp only[Int.toNat_natCast]
    rw[hv,k1,qI,List.length_append,List.length_singleton,Nat.pow_succ]
    grind
   ·simp
  ·obtain⟨k1,k2⟩:=key 0 (by omega) (by omega)
   rw[List.take_zero,H8,Nat.zero_mul,Nat.zero_add,Nat.sub_zero] at k1
   rw[Nat.sub_zero] at k2
   have wz:IntKind.i64.wrap ((tq:Int)-9)=(tq:Int)-9:=wrap64 (by omega) (by omega)
   simp only[kZ,g0,g3,g4,jN,h9,VX,Nat.reduceEqDiff,Nat.reduceAdd]
   refine Jt (l:=l) hd (by omega) (fr:=0) (tq:=tq) (by omega) (by omega) (by omega) ?_ ?_ ?_ ?_ fun uE q q6 => ?_
   all_goals first | (simp only[g0,g4,VX,Nat.reduceEqDiff,Nat.reduceAdd];done) | (simp only[VX,Nat.reduceEqDiff,Nat.reduceAdd];rfl) | skip
   rw[Nat.sub_zero] at q6
   have u3:uE 3 = .ref 0 out.length 0 out.length out.length:=by rw[q 3 (by decide)];simp only[g3,VX,Nat.reduceEqDiff,Nat.reduceAdd]
   have u0:uE 0=aS l:=by rw[q 0 (by decide)];simp only[g0,VX,Nat.reduceEqDiff,Nat.reduceAdd]
   have u4:uE 4=VI tq:=by rw[q 4 (by decide)];simp only[g4,VX,Nat.reduceEqDiff,Nat.reduceAdd]
   generalize bL ((l.drop 0).take tq)=X at *
   have e4:=e4 X
   have e5:=e5 X
   have eP:=eP X
   simp only[u0,u3,u4,q6,e4,e5,eP,wz,VX,Nat.reduceEqDiff,Nat.reduceAdd]
   refine⟨(out++[X],(tq:Int)-9),by simp only;omega,?_,by simp only;omega,by simp only;omega,?_,?_,?_,?_⟩
   ·simp
   ·simp only[List.length_append,List.length_cons,List.length_nil];omega
   ·intro d hdm
    rcases List.mem_append.1 hdm with h | h
    ·exact hds d h
    ·rw[List.mem_singleton] at h;omega
   ·simp only
    rw[show ((tq:Int)-9).toNat=0 by omega,List.take_zero,H8,Nat.mul_zero,Nat.add_zero,hv,k1,qI]
   ·simp
 ·have h0:z.toNat=0:=by omega
  rw[h0,List.take_zero,H8,Nat.mul_zero,Nat.add_zero] at hv
  rw[hv]
  have ct:=TC.Yp (f:=tV) (xs:=out) (size:=1) (e:=1) (w:=true) (H:=[.row out.length (out.map tV) 1 true]) (b:=0) (gn:=out.length) (n:=out.length) (c:=out.length) (pX out hds (by show out.length≤70368744177664;omega)) bT rfl (Nat.le_refl _) Dt (fun _=>rfl) rfl rfl
  simp only[kZ,g0,g3,g4,jN,ct,VX,Nat.reduceEqDiff,Nat.reduceAdd]
  exact aH (bU _)
end Go.PM
namespace Go.PM
open Go.Lib
def Bm (l:List UInt8):VV:=match uK l with
 | some q => .eO [cF q,VB true]
 | none => .eO [Jh,VB false]
theorem oU (q:Rat):aR (cF q)=true:=by simp[cF,aR,aJ,bU,lR]
theorem Cf (q:Rat):gJ (cF q)=true:=by simp[cF,gJ,pJ,lF,lR]
theorem P5 (l:List UInt8):gJ (Bm l)=true:=by
 unfold Bm
 split<;>simp[gJ,pJ,Cf,Om,lR]
theorem IC {neg:Bool} {t b:Nat} (hb:b≠0) (hg:Nat.gcd t b=1) (hn:¬(neg=true∧t=0)):cF (mkRat (iZ neg t) b) = .agg [VB neg,bM t,bM b]:=by
 obtain⟨e1,e2⟩:=GK (neg:=neg) hb hg
 refine Mz ?_ (by rw[e1,mF]) e2
 rw[e1]
 cases neg with
 | false=>unfold iZ;simp
 |
  true =>
  have:t≠0:=fun h=>hn ⟨rfl,h⟩
  unfold iZ
  simp
  omega
theorem B3 {n:Nat}:(((aC 1000000000 n).length:Nat):Int)=0↔n=0:=by
 rw[←jW (b:=1000000000) (n:=n) (by decide),←List.length_eq_zero_iff]
 omega
theorem On {neg:Bool} {d t:List UInt8} (h:(47:UInt8)∈t):mV neg d (some t)=none:=by
 have ht:gB t=false:=by
  cases hk:gB t with
  | false=>rfl
  | true=>exact absurd h (W6 (iM.1 hk).1)
 unfold mV
 split
 ·rfl
 ·simp only
  rw[if_neg (fun h=>by rw[ht] at h;exact absurd h.1 (by decide))]
theorem at_one (x:List UInt8) (H:aA):bE 1 (bK aS [x]) (VI 0) H=some (.cO (aS x) 0):=aM (f:=aS) (t := .op) (H:=H) (size:=1) (k := .i64) (xs:=[x]) (i:=0) rfl rfl
theorem YJ (x y:List UInt8) (H:aA):bE 1 (bK aS [x,y]) (VI 0) H=some (.cO (aS x) 0):=aM (f:=aS) (t := .op) (H:=H) (size:=1) (k := .i64) (xs:=[x,y]) (i:=0) rfl rfl
theorem Zn (x y:List UInt8) (H:aA):bE 1 (bK aS [x,y]) (VI 1) H=some (.cO (aS y) 0):=aM (f:=aS) (t := .op) (H:=H) (size:=1) (k := .i64) (xs:=[x,y]) (i:=1) rfl rfl
theorem R3 (x:List UInt8) (H:aA):oB (bK aS [x]) H=some (VI 1):=dP (f:=aS) (xs:=[x])
theorem Yw (x y:List UInt8) (H:aA):oB (bK aS [x,y]) H=some (VI 2):=dP (f:=aS) (xs:=[x,y])
set_option maxRecDepth 100000 in
set_option maxHeartbeats 4000000 in
theorem Hb (l:List UInt8) (hl:l.length≤1000000000):TC 175 [aS l] (Bm l):=by
 refine TC.walk ⟨true,false⟩ Ht rfl (Nat.le_of_ble_eq_true rfl) rfl (P5 l) ?_
 by_cases xW:l=[]
 ·subst xW
  have eC:TC 222 [.sc (.string ⟨#[]⟩),.sc (.int .u8 47)] (bK aS [[]]):=CR [] 47 (by simp)
  have eD:TC 223 [.sc (.string ⟨#[]⟩)] (VB false):=nH [] (by simp)
  have e1:yQ (.string ⟨#[]⟩)=some (.int .i64 0):=rfl
  have a1:=at_one []
  have a2:=R3 []
  simp only[bO,aZ,e1,eC,eD,a1,a2,Int.reduceLT,Int.reduceLE,aF,iA,Nat.reduceLeDiff,Nat.reduceLT,Nat.reduceSub,VX,Nat.reduceEqDiff,Nat.reduceAdd]
  exact bG (d:=6) fJ (aG (v:=VB false) rfl)
 have hp:0<l.length:=List.length_pos_iff.2 xW
 have jN:(0:Int)<(l.length:Int):=by omega
 have e0:=E8 l hp
 unfold Bm
 unfold uK
 have lQ:isNeg l=decide (((l.getD 0 0).toNat:Int)=45):=by
  unfold isNeg
  rw[decide_eq_true (show 1≤l.length from hp),Bool.true_and]
  refine decide_eq_decide.2 ⟨fun h=>by rw[h];rfl,fun h=>UInt8.toNat_inj.1 (by rw[show (45:UInt8).toNat=45 from rfl];omega)⟩
 have PO:(if isNeg l=true then l.drop 1 else l).length≤l.length:=by split<;>simp
 have q0:isNeg l=false→¬((l.getD 0 0).toNat:Int)=45:=fun h=>by rw[lQ] at h;exact of_decide_eq_false h
 have q9:isNeg l=true→((l.getD 0 0).toNat:Int)=45:=fun h=>by rw[lQ] at h;exact of_decide_eq_true h
 have r0:isNeg l=false→(if isNeg l=true then l.drop 1 else l)=l:=fun h=>by rw[h];rfl
 have r9:isNeg l=true→sK (aS l) (some (VI 1)) none=some (aS (if isNeg l=true then l.drop 1 else l)):=fun h=>by rw[h];exact K0 l (a:=1) hp
 generalize (if isNeg l=true then l.drop 1 else l)=r at *
 generalize isNeg l=neg at *
 clear lQ
 have eC:TC 222 [aS r,.sc (.int .u8 47)] (bK aS (fY 47 r)):=CR r 47 (by omega)
 obtain⟨l1,l2⟩:=Of (c:=47) (l:=r)
 cases hs:(kE 47 r).2 with
 |
  none =>
  have hd:=(yR hs).2.1
  rw[OI hs] at eC
  rw[hd]
  have a1:=at_one r
  have a2:=R3 r
  have eD:=nH r (by omega)
  cases hk:gB r with
  |
   false =>
   rw[hk] at eD
   have US:mV neg r none=none:=if_pos (.inl hk)
   rw[US]
   cases neg with
   |
    false =>
    have q1:=q0 rfl
    have PO:=r0 rfl
    subst PO
    simp only[bO,aZ,bC,jN,e0,q1,eC,eD,a1,a2,Int.reduceLT,aF,aT,aK,aP,dC,eV,dB,eU,iA,Nat.reduceLeDiff,Nat.reduceLT,Nat.reduceSub,VX,Nat.reduceEqDiff,Nat.reduceAdd]
    exact bG (d:=6) fJ (aG (v:=VB false) rfl)
   |
    true =>
    have q1:=q9 rfl
    have e9:=r9 rfl
    simp only[bO,aZ,bC,jN,e0,q1,eC,eD,a1,a2,Int.reduceLT,e9,aF,aT,aK,aP,dC,eV,dB,eU,iA,Nat.reduceLeDiff,Nat.reduceLT,Nat.reduceSub,VX,Nat.reduceEqDiff,Nat.reduceAdd]
    exact bG (d:=6) fJ (aG (v:=VB false) rfl)
  |
   true =>
   rw[hk] at eD
   have hbt:=vV hk
   have eN:=qF r (iM.1 hk).1 (by omega)
   by_cases hz:neg=true∧bL r=0
   ·have US:mV neg r none=none:=if_pos (.inr hz)
    rw[US]
    obtain⟨rfl,FE⟩:=hz
    have q1:=q9 rfl
    have e9:=r9 rfl
    have E3:(((aC 1000000000 (bL r)).length:Nat):Int)=0:=B3.2 FE
    simp only[bO,aZ,bC,jN,e0,q1,eC,eD,a1,a2,eN,e9,cK,E3,Int.reduceLT,aF,aT,aK,aP,dC,eV,dB,eU,iA,Nat.reduceLeDiff,Nat.reduceLT,Nat.reduceSub,VX,Nat.reduceEqDiff,Nat.reduceAdd]
    exact bG (d:=6) fJ (aG (v:=VB false) rfl)
   ·have Cw:neg=true→¬(((aC 1000000000 (bL r)).length:Nat):Int)=0:=fun h h0=>hz ⟨h,B3.1 h0⟩
    have US:mV neg r none=some (mkRat (iZ neg (bL r)) 1):=if_neg (by rw[hk];rintro(h | h);exact absurd h (by decide);exact hz h)
    rw[US]
    simp only[]
    rw[IC (by decide) (Nat.gcd_one_right _) hz]
    cases neg with
    |
     false =>
     have q1:=q0 rfl
     have PO:=r0 rfl
     subst PO
     simp only[bO,aZ,bC,jN,e0,q1,eC,eD,a1,a2,eN,Int.reduceLT,Int.reduceEq,aF,aT,aK,aP,dC,eV,dB,eU,iA,Nat.reduceLeDiff,Nat.reduceLT,Nat.reduceSub,VX,Nat.reduceEqDiff,Nat.reduceAdd]
     exact bG (d:=6) (oK (aG (v:=VB false) rfl) (aG (bU _)) MJ) (aG (v:=VB true) rfl)
    |
     true =>
     have q1:=q9 rfl
     have e9:=r9 rfl
     have E3:=Cw rfl
     simp only[bO,aZ,bC,jN,e0,q1,eC,eD,a1,a2,eN,Int.reduceLT,Int.reduceEq,e9,cK,E3,aF,aT,aK,aP,dC,eV,dB,eU,iA,Nat.reduceLeDiff,Nat.reduceLT,Nat.reduceSub,VX,Nat.reduceEqDiff,Nat.reduceAdd]
     exact bG (d:=6) (oK (aG (v:=VB true) rfl) (aG (bU _)) MJ) (aG (v:=VB true) rfl)
 |
  some t =>
  have ltt:=l2 t hs
  rw[Gv hs] at eC
  generalize (kE 47 r).1=d at *
  by_cases hm:(47:UInt8)∈t
  ·rw[On hm]
   have hP:=Ph hm
   generalize hPP:fY 47 t=P at *
   have a2:∀H,oB (bK aS (d::P)) H=some (VI ((d::P).length:Int)):=fun H=>dP (f:=aS) (xs:=d::P)
   have hq3:(2:Int)<((d::P).length:Int):=by rw[List.length_cons];omega
   generalize hQQ:d::P=PP at *
   clear hQQ hPP hP
   cases neg with
   |
    false =>
    have q1:=q0 rfl
    have PO:=r0 rfl
    subst PO
    simp only[bO,aZ,bC,jN,e0,q1,eC,a2,hq3,aF,aT,aK,aP,dC,eV,dB,eU,iA,Nat.reduceLeDiff,Nat.reduceLT,Nat.reduceSub,VX,Nat.reduceEqDiff,Nat.reduceAdd]
    exact bG (d:=6) fJ (aG (v:=VB false) rfl)
   |
    true =>
    have q1:=q9 rfl
    have e9:=r9 rfl
    simp only[bO,aZ,bC,jN,e0,q1,eC,a2,hq3,e9,aF,aT,aK,aP,dC,eV,dB,eU,iA,Nat.reduceLeDiff,Nat.reduceLT,Nat.reduceSub,VX,Nat.reduceEqDiff,Nat.reduceAdd]
    exact bG (d:=6) fJ (aG (v:=VB false) rfl)
  ·rw[Dr hm] at eC
   have a1:=YJ d t
   have a3:=Zn d t
   have a2:=Yw d t
   have eD:=nH d (by omega)
   have eF:=nH t (by omega)
   cases hk:gB d with
   |
    false =>
    rw[hk] at eD
    have US:mV neg d (some t)=none:=if_pos (.inl hk)
    rw[US]
    cases neg with
    |
     false =>
     have q1:=q0 rfl
     have PO:=r0 rfl
     subst PO
     simp only[bO,aZ,bC,jN,e0,q1,eC,eD,a1,a2,Int.reduceLT,aF,aT,aK,aP,dC,eV,dB,eU,iA,Nat.reduceLeDiff,Nat.reduceLT,Nat.reduceSub,VX,Nat.reduceEqDiff,Nat.reduceAdd]
     exact bG (d:=6) fJ (aG (v:=VB false) rfl)
    |
     true =>
     have q1:=q9 rfl
     have e9:=r9 rfl
     simp only[bO,aZ,bC,jN,e0,q1,eC,eD,a1,a2,Int.reduceLT,e9,aF,aT,aK,aP,dC,eV,dB,eU,iA,Nat.reduceLeDiff,Nat.reduceLT,Nat.reduceSub,VX,Nat.reduceEqDiff,Nat.reduceAdd]
     exact bG (d:=6) fJ (aG (v:=VB false) rfl)
   |
    true =>
    rw[hk] at eD
    have hbt:=vV hk
    have eN:=qF d (iM.1 hk).1 (by omega)
    by_cases hz:neg=true∧bL d=0
    ·have US:mV neg d (some t)=none:=if_pos (.inr hz)
     rw[US]
     obtain⟨rfl,FE⟩:=hz
     have q1:=q9 rfl
     have e9:=r9 rfl
     have E3:(((aC 1000000000 (bL d)).length:Nat):Int)=0:=B3.2 FE
     simp only[bO,aZ,bC,jN,e0,q1,eC,eD,a1,a2,eN,e9,cK,E3,Int.reduceLT,aF,aT,aK,aP,dC,eV,dB,eU,iA,Nat.reduceLeDiff,Nat.reduceLT,Nat.reduceSub,VX,Nat.reduceEqDiff,Nat.reduceAdd]
     exact bG (d:=6) fJ (aG (v:=VB false) rfl)
    ·have Cw:neg=true→¬(((aC 1000000000 (bL d)).length:Nat):Int)=0:=fun h h0=>hz ⟨h,B3.1 h0⟩
     have US:mV neg d (some t)=if gB t=true∧1<bL t∧Nat.gcd (bL d) (bL t)=1 then some (mkRat (iZ neg (bL d)) (bL t)) else none:=if_neg (by rw[hk];rintro(h | h);exact absurd h (by decide);exact hz h)
     rw[US]
     clear US
     cases ht:gB t with
     |
      false =>
      rw[ht] at eF
      rw[if_neg (fun h=>absurd h.1 (by decide))]
      cases neg with
      |
       false =>
       have q1:=q0 rfl
       have PO:=r0 rfl
       subst PO
       simp only[bO,aZ,bC,jN,e0,q1,eC,eD,eF,a1,a2,a3,eN,Int.reduceLT,Int.reduceEq,aF,aT,aK,aP,dC,eV,dB,eU,iA,Nat.reduceLeDiff,Nat.reduceLT,Nat.reduceSub,VX,Nat.reduceEqDiff,Nat.reduceAdd]
       exact bG (d:=6) fJ (aG (v:=VB false) rfl)
      |
       true =>
       have q1:=q9 rfl
       have e9:=r9 rfl
       have E3:=Cw rfl
       simp only[bO,aZ,bC,jN,e0,q1,eC,eD,eF,a1,a2,a3,eN,Int.reduceLT,Int.reduceEq,e9,cK,E3,aF,aT,aK,aP,dC,eV,dB,eU,iA,Nat.reduceLeDiff,Nat.reduceLT,Nat.reduceSub,VX,Nat.reduceEqDiff,Nat.reduceAdd]
       exact bG (d:=6) fJ (aG (v:=VB false) rfl)
     |
      true =>
      rw[ht] at eF
      have IG:=vV ht
      have eM:=qF t (iM.1 ht).1 (by omega)
      have c2:∀lo H K,_:=fun lo H K=>HG (n:=bL t) (lo:=lo) (H:=H) (K:=K) (Nat.le_of_lt (mM (by omega)))
      have c3:=CQ (bL d) (bL t) (mM (by omega)) (mM (by omega))
      by_cases h1:eE (bL t) 1≤0
      ·have hle:¬1<bL t:=fun h=>by unfold eE at h1;rw[if_neg (by omega),if_neg (by omega)] at h1;exact absurd h1 (by decide)
       rw[if_neg (fun h=>hle h.2.1)]
       cases neg with
       |
        false =>
        have q1:=q0 rfl
        have PO:=r0 rfl
        subst PO
        simp only[bO,aZ,bC,jN,e0,q1,eC,eD,eF,a1,a2,a3,eN,eM,c2,h1,Int.reduceLT,Int.reduceEq,aF,aT,aK,aP,dC,eV,dB,eU,iA,Nat.reduceLeDiff,Nat.reduceLT,Nat.reduceSub,VX,Nat.reduceEqDiff,Nat.reduceAdd]
        exact bG (d:=6) fJ (aG (v:=VB false) rfl)
       |
        true =>
        have q1:=q9 rfl
        have e9:=r9 rfl
        have E3:=Cw rfl
        simp only[bO,aZ,bC,jN,e0,q1,eC,eD,eF,a1,a2,a3,eN,eM,c2,h1,Int.reduceLT,Int.reduceEq,e9,cK,E3,aF,aT,aK,aP,dC,eV,dB,eU,iA,Nat.reduceLeDiff,Nat.reduceLT,Nat.reduceSub,VX,Nat.reduceEqDiff,Nat.reduceAdd]
        exact bG (d:=6) fJ (aG (v:=VB false) rfl)
      ·have aX:1<bL t:=by
        rcases Nat.lt_or_ge 1 (bL t) with h | h
        ·exact h
        ·exfalso
         apply h1
         unfold eE
         split<;>(try split)<;>first | decide | omega
       have Vr:bl (Nat.gcd (bL d) (bL t))≤665:=Nat.le_trans (jG (Nat.le_of_dvd (by omega) (Nat.gcd_dvd_right _ _))) IG
       have c4:∀lo H K,_:=fun lo H K=>HG (n:=Nat.gcd (bL d) (bL t)) (lo:=lo) (H:=H) (K:=K) (Nat.le_of_lt (mM (by omega)))
       by_cases hg:Nat.gcd (bL d) (bL t)=1
       ·have h4:eE (Nat.gcd (bL d) (bL t)) 1=0:=by rw[hg];rfl
        rw[if_pos ⟨rfl,aX,hg⟩]
        simp only[]
        rw[IC (by omega) hg hz]
        cases neg with
        |
         false =>
         have q1:=q0 rfl
         have PO:=r0 rfl
         subst PO
         simp only[bO,aZ,bC,jN,e0,q1,eC,eD,eF,a1,a2,a3,eN,eM,c2,c3,c4,h1,h4,Int.reduceLT,Int.reduceEq,aF,aT,aK,aP,dC,eV,dB,eU,iA,Nat.reduceLeDiff,Nat.reduceLT,Nat.reduceSub,VX,Nat.reduceEqDiff,Nat.reduceAdd]
         exact bG (d:=6) (oK (aG (v:=VB false) rfl) (aG (bU _)) (aG (bU _))) (aG (v:=VB true) rfl)
        |
         true =>
         have q1:=q9 rfl
         have e9:=r9 rfl
         have E3:=Cw rfl
         simp only[bO,aZ,bC,jN,e0,q1,eC,eD,eF,a1,a2,a3,eN,eM,c2,c3,c4,h1,h4,Int.reduceLT,Int.reduceEq,e9,cK,E3,aF,aT,aK,aP,dC,eV,dB,eU,iA,Nat.reduceLeDiff,Nat.reduceLT,Nat.reduceSub,VX,Nat.reduceEqDiff,Nat.reduceAdd]
         exact bG (d:=6) (oK (aG (v:=VB true) rfl) (aG (bU _)) (aG (bU _))) (aG (v:=VB true) rfl)
       ·have h4:¬eE (Nat.gcd (bL d) (bL t)) 1=0:=by
         unfold eE
         split<;>(try split)<;>first | decide | omega
        rw[if_neg (fun h=>hg h.2.2)]
        cases neg with
        |
         false =>
         have q1:=q0 rfl
         have PO:=r0 rfl
         subst PO
         simp only[bO,aZ,bC,jN,e0,q1,eC,eD,eF,a1,a2,a3,eN,eM,c2,c3,c4,h1,h4,Int.reduceLT,Int.reduceEq,aF,aT,aK,aP,dC,eV,dB,eU,iA,Nat.reduceLeDiff,Nat.reduceLT,Nat.reduceSub,VX,Nat.reduceEqDiff,Nat.reduceAdd]
         exact bG (d:=6) fJ (aG (v:=VB false) rfl)
        |
         true =>
         have q1:=q9 rfl
         have e9:=r9 rfl
         have E3:=Cw rfl
         simp only[bO,aZ,bC,jN,e0,q1,eC,eD,eF,a1,a2,a3,eN,eM,c2,c3,c4,h1,h4,Int.reduceLT,Int.reduceEq,e9,cK,E3,aF,aT,aK,aP,dC,eV,dB,eU,iA,Nat.reduceLeDiff,Nat.reduceLT,Nat.reduceSub,VX,Nat.reduceEqDiff,Nat.reduceAdd]
         exact bG (d:=6) fJ (aG (v:=VB false) rfl)
end Go.PM
namespace Go.PM
open Go.Lib
end Go.PM
namespace Go.PM
open Go.Lib
theorem Oh {l:List UInt8} {q:Rat} (h:uK l=some q):Bm l = .eO [cF q,VB true]:=by unfold Bm;rw[h]
theorem Ow {l:List UInt8} (h:uK l=none):Bm l = .eO [Jh,VB false]:=by unfold Bm;rw[h]
end Go.PM