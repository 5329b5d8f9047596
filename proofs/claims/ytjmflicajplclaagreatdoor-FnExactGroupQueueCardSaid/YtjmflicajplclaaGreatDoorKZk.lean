/- Texts of a claim, in one: part 11. -/
import Derived.ChangeMaps5
import Derived.KernelRfl
import Derived.Test.YtjmflicajplclaaGreatDoorKZj
set_option linter.unusedSimpArgs false
set_option linter.unusedVariables false
namespace Go.PM
open Go.Lib
theorem Y1 {α:Type} {f:α→VV} {d e b g c:Nat} {xs:List α} {H:aA} {w:Bool} (hp:∀x,aP (f x)=true) (h:aH H b g=some (xs.map f,e,w)) (hc:xs.length≤c):fz (d+2) H (.ref b g 0 xs.length c)=some (bI f xs):=by
 have:aP (.ref b g 0 xs.length c)=false:=rfl
 unfold PM.fz
 simp only[this,h,Bool.false_eq_true,if_false]
 rw[if_pos ⟨by simp,hc⟩,List.drop_zero,List.take_of_length_le (by simp),mapM_pure (gN hp)]
 rfl
theorem ahC {d:Nat} {H:aA}:fz (d+1) H (.tree [] .nil)=some (.tree [] .op):=by
 unfold PM.fz
 have:aP (.tree [] .nil)=false:=by simp[aP]
 simp[this]
theorem acC {H:aA}:fz depth H (.eX [.tree [] .nil,VB false])=some (.eX [.tree [] .op,VB false]):=bT (d:=6) ahC (aJ (v:=VB false) rfl)
theorem RP {u v:VV} (hu:iD u=true) (hv:iD v=true):iD (.eX [u,v])=true:=by simp only[iD,pY,hu,hv,Bool.and_self]
theorem tL {u v:VV} (hu:aP u=true) (hv:aP v=true):aP (.eX [u,v])=true:=by simp only[aP,aM,hu,hv,Bool.and_self]
theorem ajQ {u:VV} (hu:aP u=true):aM [u]=true:=by simp only[aM,hu,Bool.and_self]
theorem HX {u v:VV} (hu:aP u=true) (hv:aP v=true):aM [u,v]=true:=by simp only[aM,hu,hv,Bool.and_self]
theorem ZJ {u:VV} (hu:aP u=true):aP (.agg [u])=true:=by simp only[aP,aM,hu,Bool.and_self]
def pQ (s:ByteArray):Option Rat:=xX s.data.toList
theorem aaJ (s:ByteArray):sV s=bB s.data.toList:=rfl
def Vc (xs:List ByteArray):Option (List Rat):=if xs.length≤300 then xs.mapM pQ else none
def QN (o:Option (List Rat)):VV:=match o with
 | some qs => .eX [bI aQ qs,VB true]
 | none => .eX [bI aQ [],VB false]
theorem Ig (q:Rat):(aB (aQ q)).length=3:=rfl
theorem Mq (qs:List Rat):aP (bI aQ qs)=true:=nH Ig gR
theorem XK (q:Rat):Cz (aQ q)=true:=by simp[Cz,aQ,bN]
theorem OL (qs:List Rat):iD (bI aQ qs)=true:=F5 Ig qB XK
theorem XX (o:Option (List Rat)):iD (QN o)=true:=by
 unfold QN
 split
 ·exact RP (OL _) rfl
 ·exact RP (OL []) rfl
theorem HI {α β:Type} {f:α→Option β} {xs:List α} {ys:List β} {x:α} {y:β} (h:xs.mapM f=some ys) (hx:f x=some y):(xs++[x]).mapM f=some (ys++[y]):=by
 rw[List.mapM_append,h]
 simp[hx]
theorem mapM_none {α β:Type} {f:α→Option β} {x:α} (hx:f x=none):∀ {xs:List α},x∈xs→xs.mapM f=none
 | [],h=>by cases h
 |
  y::xs,h=>by
  rw[List.mapM_cons]
  cases hy:f y with
  | none=>rfl
  |
   some z =>
   rcases List.mem_cons.1 h with rfl | h
   ·rw[hx] at hy;cases hy
   ·show ((xs.mapM f).bind fun zs=>some (z::zs))=none
    rw[mapM_none hx h];rfl
theorem mapM_mem {α β:Type} {f:α→Option β} {P:β→Prop} (hP:∀x y,f x=some y→P y):∀ {xs:List α} {ys:List β},xs.mapM f=some ys→∀y∈ys,P y
 | [],ys,h,y,hy=>by simp at h;subst h;cases hy
 |
  x::xs,ys,h,y,hy=>by
  rw[List.mapM_cons] at h
  cases hx:f x with
  | none=>rw[hx] at h;cases h
  |
   some z =>
   rw[hx] at h
   cases hs:xs.mapM f with
   | none=>rw[hs] at h;cases h
   |
    some zs =>
    rw[hs] at h
    cases h
    rcases List.mem_cons.1 hy with rfl | hy
    ·exact hP _ _ hx
    ·exact mapM_mem hP hs _ hy
theorem gV {α:Type} {xs:List α} {i:Nat} {x:α} (h:xs[i]? = some x):xs.take (i+1)=xs.take i++[x]:=by rw[List.take_add_one,h];rfl
theorem Tl {xs:List ByteArray} {qs:List Rat} (h:Vc xs=some qs):(∀q∈qs,aZ q≤665)∧qs.length≤300∧qs.length=xs.length:=by
 unfold Vc at h
 split at h
 ·rename_i hl
  have:=sT h
  exact⟨mapM_mem (fun _ _ h=>UN h) h,by omega,this⟩
 ·cases h
end Go.PM
namespace Go.PM
open Go.Lib
theorem QY {α:Type} {l:List α} (h:l.Nodup) {i j:Nat} {x:α} (hi:l[i]? = some x) (hj:l[j]? = some x):i=j:=by
 obtain⟨hi,mC⟩:=List.getElem?_eq_some_iff.1 hi
 obtain⟨hj,hj'⟩:=List.getElem?_eq_some_iff.1 hj
 have h:=List.pairwise_iff_getElem.1 h
 rcases Nat.lt_trichotomy i j with bH | heq | hgt
 ·exact absurd (mC.trans hj'.symm) (h i j hi hj bH)
 ·exact heq
 ·exact absurd (hj'.trans mC.symm) (h j i hj hi hgt)
section
variable {α:Type} {f:α→VV} {e lo hi:Nat} {H H':aA} {v:VV}
def dI (lo hi:Nat) (H H':aA):Prop:=∀b g x,lo≤b→b<hi→aH H b g=some x→aH H' b g=some x
theorem dI.pre (h:H <+: H'):dI lo hi H H':=fun _ _ _ _ _=>cS h
theorem dI.refl:dI lo hi H H:=fun _ _ _ _ _ h=>h
theorem dI.trans {H'':aA} (h:dI lo hi H H') (h':dI lo hi H' H''):dI lo hi H H'':=fun b g x h1 h2 h3=>h' b g x h1 h2 (h b g x h1 h2 h3)
theorem dI.sub {l h':Nat} (h:dI lo hi H H') (hl:lo≤l) (hh:h'≤hi):dI l h' H H':=fun b g x h1 h2=>h b g x (by omega) (by omega)
theorem dI.set {b:Nat} {x:cG} (hb:b<lo∨hi≤b):dI lo hi H (H.set b x):=fun _ _ _ h1 h2=>cF (by omega)
theorem dI.move {L:aA}:dI H.length hi (List.replicate H.length .dead++L) (H++L):=fun _ _ _ h1 _=>XV h1
def S4 (f:α→VV) (e:Nat) (bE:List α) (lo hi:Nat) (H:aA) (v:VV):Prop :=
 (v = .tree [] .nil∧bE=[])∨∃b g c,lo≤b∧b<hi∧v = .ref b g 0 bE.length c∧bE.length≤c∧aH H b g=some (bE.map f,e,true)
theorem S4.cK {bE:List α} (h:S4 f e bE lo hi H v) (hk:dI lo hi H H'):S4 f e bE lo hi H' v:=by
 rcases h with h | ⟨b,g,c,h1,h2,h3,h4,h5⟩
 ·exact .inl h
 ·exact .inr ⟨b,g,c,h1,h2,h3,h4,hk _ _ _ h1 h2 h5⟩
theorem S4.wide {bE:List α} {gP mC:Nat} (h:S4 f e bE lo hi H v) (hl:gP≤lo) (hh:hi≤mC):S4 f e bE gP mC H v:=by
 rcases h with h | ⟨b,g,c,h1,h2,h3⟩
 ·exact .inl h
 ·exact .inr ⟨b,g,c,by omega,by omega,h3⟩
theorem Wz {d b g c:Nat} {xs:List α} {w:Bool} (hp:∀x,aP (f x)=true) (h:aH H b g=some (xs.map f,e,w)) (hc:xs.length≤c):fz (d+2) H (.ref b g 0 xs.length c)=some (bI f xs):=by
 have:aP (.ref b g 0 xs.length c)=false:=rfl
 show PM.fz ((d+1)+1) H _=_
 unfold PM.fz
 simp only[this,h,Bool.false_eq_true,if_false]
 rw[if_pos ⟨by simp,hc⟩,List.drop_zero,List.take_of_length_le (by simp),mapM_pure (n:=d) (gN hp)]
 rfl
theorem S4.fz {d:Nat} {bE:List α} (h:S4 f e bE lo hi H v) (hp:∀x,aP (f x)=true):PM.fz (d+2) H v=some (bI f bE):=by
 rcases h with⟨rfl,rfl⟩ | ⟨b,g,c,h1,h2,rfl,h4,h5⟩
 ·exact Mc
 ·exact Wz hp h5 h4
structure vC (α:Type) where
 b:Nat
 g:Nat
 c:Nat
 xs:List α
def nC (r:vC α):VV := .ref r.b r.g 0 r.xs.length r.c
structure N9 (f:α→VV) (e lo hi b:Nat) (H:aA) (rs:List (vC α)):Prop where
 nd:(rs.map (·.b)).Nodup
 row:∀r∈rs,lo≤r.b∧r.b<hi∧r.b≠b∧r.xs.length≤r.c∧aH H r.b r.g=some (r.xs.map f,e,true)
def RG (f:α→VV) (e:Nat) (bE:List (List α)) (lo hi:Nat) (H:aA) (v:VV):Prop :=
 (v = .tree [] .nil∧bE=[])∨∃b g c rs,lo≤b∧b<hi∧v = .ref b g 0 bE.length c∧bE.length≤c∧aH H b g=some (rs.map nC,1,true)∧rs.map (·.xs)=bE∧N9 f e lo hi b H rs
theorem RG.cK {bE:List (List α)} (h:RG f e bE lo hi H v) (hk:dI lo hi H H'):RG f e bE lo hi H' v:=by
 rcases h with h | ⟨b,g,c,rs,h1,h2,h3,h4,h5,h6,h7⟩
 ·exact .inl h
 ·exact .inr ⟨b,g,c,rs,h1,h2,h3,h4,hk _ _ _ h1 h2 h5,h6,h7.nd,fun r hr=>by
   obtain⟨k1,k2,k3,k4,k5⟩:=h7.row r hr
   exact⟨k1,k2,k3,k4,hk _ _ _ k1 k2 k5⟩⟩
theorem RG.wide {bE:List (List α)} {gP mC:Nat} (h:RG f e bE lo hi H v) (hl:gP≤lo) (hh:hi≤mC):RG f e bE gP mC H v:=by
 rcases h with h | ⟨b,g,c,rs,h1,h2,h3,h4,h5,h6,h7⟩
 ·exact .inl h
 ·exact .inr ⟨b,g,c,rs,by omega,by omega,h3,h4,h5,h6,h7.nd,fun r hr=>by
   obtain⟨k1,k2,k3,k4,k5⟩:=h7.row r hr
   exact⟨by omega,by omega,k3,k4,k5⟩⟩
theorem VP {d b g c lo hi:Nat} {rs:List (vC α)} {w:Bool} (hp:∀x,aP (f x)=true) (h:aH H b g=some (rs.map nC,1,w)) (hc:rs.length≤c) (hR:N9 f e lo hi b H rs) :
  fz (d+3) H (.ref b g 0 rs.length c)=some (bI (bI f) (rs.map (·.xs))):=by
 have:aP (.ref b g 0 rs.length c)=false:=rfl
 show PM.fz ((d+2)+1) H _=_
 unfold PM.fz
 simp only[this,h,Bool.false_eq_true,if_false]
 rw[if_pos ⟨by simp,hc⟩,List.drop_zero,List.take_of_length_le (by simp),mapM_map (f:=nC) (f':=fun r=>bI f r.xs) fun r hr=>Wz hp (hR.row r hr).2.2.2.2 (hR.row r hr).2.2.2.1]
 simp[bI,List.map_map]
theorem RG.fz {d:Nat} {bE:List (List α)} (h:RG f e bE lo hi H v) (hp:∀x,aP (f x)=true):PM.fz (d+3) H v=some (bI (bI f) bE):=by
 rcases h with⟨rfl,rfl⟩ | ⟨b,g,c,rs,h1,h2,rfl,h4,h5,rfl,h7⟩
 ·exact Mc
 ·rw[List.length_map] at h4 ⊢
  exact VP hp h5 h4 h7
theorem Va {d:Nat} {us Fj:List VV} (h:us.mapM (PM.fz (d+1) H)=some Fj):PM.fz (d+2) H (.agg us)=some (.agg Fj):=by
 have e:PM.fz (d+2) H (.agg us)=if aP (.agg us)=true then some (.agg us) else (us.mapM (PM.fz (d+1) H)).map .agg:=rfl
 rw[e]
 by_cases hq:aP (.agg us)=true
 ·rw[if_pos hq]
  have:us.mapM (PM.fz (d+1) H)=some us:=mapM_pure hq
  rw[this] at h
  cases h
  rfl
 ·rw[if_neg hq,h]
  rfl
def W0 (P:Nat→Nat→aA→VV→Prop) (ok:Bool) (n:Nat) (r:VV) (L:aA):Prop :=
 ∃v,r = .eX [v,.sc (.bool ok)]∧P n (n+L.length) (List.replicate n .dead++L) v
theorem Kd {F lo:Nat} {args iH:List VV} {P:Nat→Nat→aA→VV→Prop} {ok:Bool} {H:aA} {K:VV→aA→Prop} (h:FC F iH (W0 P ok)) (xS:Ci.contains F=true) (hf:args.mapM (PM.fz depth H)=some iH)
  (hP:∀ {lo hi H H' v},P lo hi H v→dI lo hi H H'→P lo hi H' v) (hk:∀v H',H <+: H'→P H.length H'.length H' v→K (.eX [v,.sc (.bool ok)]) H'):cQ F args lo H K:=by
 refine h.call xS hf ?_
 rintro r L ⟨v,rfl,hv⟩
 refine hk v _ (List.prefix_append _ _) ?_
 rw[List.length_append]
 exact hP hv dI.move
end
def FV (T:VV) (lo hi:Nat) (H:aA) (v:VV):Prop:=∀H',dI lo hi H H'→fz depth H' v=some T
theorem FV.cK {T:VV}:∀ {lo hi H H' v},FV T lo hi H v→dI lo hi H H'→FV T lo hi H' v:=fun h hk _ h'=>h _ (hk.trans h')
theorem FV.now {T v:VV} {lo hi:Nat} {H:aA} (h:FV T lo hi H v):fz depth H v=some T:=h H dI.refl
def CG (bE:List (List ByteArray)) (lo hi:Nat) (H:aA) (v:VV):Prop:=∃c,v = .agg [c]∧RG sV 1 bE lo hi H c
theorem CG.cK {bE:List (List ByteArray)}:∀ {lo hi H H' v},CG bE lo hi H v→dI lo hi H H'→CG bE lo hi H' v:=by
 rintro lo hi H H' v ⟨c,h1,h2⟩ hk
 exact⟨c,h1,h2.cK hk⟩
theorem CG.fz {bE:List (List ByteArray)} {lo hi:Nat} {H:aA} {v:VV} (h:CG bE lo hi H v):PM.fz depth H v=some (ZT bE):=by
 obtain⟨c,rfl,h⟩:=h
 refine Va (d:=6) ?_
 rw[List.mapM_cons,h.fz (d:=4) fun _=>rfl]
 rfl
theorem CG.seen {bE:List (List ByteArray)} {lo hi:Nat} {H:aA} {v:VV} (h:CG bE lo hi H v):FV (ZT bE) lo hi H v:=fun _ hk=>(h.cK hk).fz
def Ws (s:J6) (lo hi:Nat) (H:aA) (v:VV):Prop:=∃a b c m1 m2,v = .agg [a,b,c]∧lo≤m1∧m1≤m2∧m2≤hi∧S4 sV 1 s.b lo m1 H a∧RG sV 1 s.g m1 m2 H b∧S4 sV 1 s.e m2 hi H c
theorem Ws.cK {s:J6}:∀ {lo hi H H' v},Ws s lo hi H v→dI lo hi H H'→Ws s lo hi H' v:=by
 rintro lo hi H H' v ⟨a,b,c,m1,m2,h1,k1,k2,k3,h2,h3,h4⟩ hk
 exact⟨a,b,c,m1,m2,h1,k1,k2,k3,h2.cK (hk.sub (by omega) (by omega)),h3.cK (hk.sub (by omega) (by omega)),h4.cK (hk.sub (by omega) (by omega))⟩
theorem alV {s:J6} {l1 h1 l2 h2 l3 h3:Nat} {H:aA} {a b c:VV} (ha:S4 sV 1 s.b l1 h1 H a) (hb:RG sV 1 s.g l2 h2 H b) (hc:S4 sV 1 s.e l3 h3 H c):PM.fz depth H (.agg [a,b,c])=some (svV s):=by
 refine Va (d:=6) ?_
 rw[List.mapM_cons,ha.fz (d:=5) fun _=>rfl]
 rw[List.mapM_cons,hb.fz (d:=4) fun _=>rfl]
 rw[List.mapM_cons,hc.fz (d:=5) fun _=>rfl]
 rfl
theorem Ws.fz {s:J6} {lo hi:Nat} {H:aA} {v:VV} (h:Ws s lo hi H v):PM.fz depth H v=some (svV s):=by
 obtain⟨a,b,c,m1,m2,rfl,k1,k2,k3,h2,h3,h4⟩:=h
 exact alV h2 h3 h4
theorem Ws.seen {s:J6} {lo hi:Nat} {H:aA} {v:VV} (h:Ws s lo hi H v):FV (svV s) lo hi H v:=fun _ hk=>(h.cK hk).fz
theorem S4.seen {bE:List ByteArray} {lo hi:Nat} {H:aA} {v:VV} (h:S4 sV 1 bE lo hi H v):FV (qC bE) lo hi H v:=fun _ hk=>(h.cK hk).fz (d:=6) fun _=>rfl
def SY (k:Int):ByteArray:=⟨(109::(if k≤0 then [48] else decDigits k.toNat)).toArray⟩
theorem BQ (k:Int) (hk:0≤k∧k≤1000000000):TC 101 [VI k] (.sc (.string (SY k))):=by
 refine TC.walk ⟨true,false⟩ Jq rfl (Nat.le_of_ble_eq_true rfl) rfl rfl ?_
 by_cases h0:k≤0
 ·have e:SY k=⟨#[109,48]⟩:=by unfold SY;rw[if_pos h0]
  rw[e]
  simp only[zT,vJ,h0,VX,Nat.reduceEqDiff,Nat.reduceAdd]
  exact aI rfl
 obtain⟨n,rfl⟩:∃n:Nat,k=n:=⟨k.toNat,by omega⟩
 have e1:∀(x:UInt8) (H:aA),jQ false [.int .u8 0] 1 [(0,bV x)] H=some (.tree [bV x] (.cl 1),H):=fun x H=>gD rfl rfl rfl
 simp only[zT,vJ,h0,VX,Nat.reduceEqDiff,Nat.reduceAdd]
 refine aT (fun(s:Nat×List UInt8) ρ H=>s.1≤n∧H=[]∧ρ 0=VI s.1∧ρ 3=bB s.2∧decDigits n=lQ s.1++s.2) (fun s=>s.1) (n,[]) ⟨Nat.le_refl _,rfl,rfl,rfl,by rw[List.append_nil,lQ,if_neg (by omega)]⟩ ?_
 rintro⟨r,bs⟩ ρ H ⟨hr,rfl,g0,g3,hd⟩
 simp only at hr hd g0 g3
 have uE:bs.length≤11:=by
  have h1:=yH n 10 (by omega)
  rw[hd,List.length_append] at h1
  omega
 by_cases hz:(0:Int)<(r:Int)
 ·have em:=RQ (r:Int)
  have eq:=aiR (r:Int) (by omega) (by omega)
  have m1:((r:Int)).tmod 10=((r % 10:Nat):Int):=by rw[Int.tmod_eq_emod_of_nonneg (by omega)];omega
  have m2:((r:Int)).tdiv 10=((r / 10:Nat):Int):=by rw[Int.tdiv_eq_ediv_of_nonneg (by omega)];omega
  rw[m1] at em
  rw[m2] at eq
  have w1:IntKind.i64.wrap (48+((r % 10:Nat):Int))=((48+r % 10:Nat):Int):=wrapN _ (by omega) (by omega)
  have w2:IntKind.u8.wrap ((48+r % 10:Nat):Int)=((d10 (r % 10)).toNat:Int):=by
   rw[NK (Nat.mod_lt _ (by decide))]
   simp[IntKind.wrap,IntKind.bits,IntKind.signed]
   omega
  have bs2:=fun bJ (h:eH bJ (.tmp 12) = .tree [bV (d10 (r % 10))] (.cl 1))=>(Fy.tree (bs:=[d10 (r % 10)]) (k := .cl 1) (H:=[])).str (fl:=⟨true,false⟩) (lo:=0) h
  have Yh:decDigits n=lQ (r / 10)++d10 (r % 10)::bs:=by
   refine HR ?_
   rw[hd,lQ,if_neg (by omega)]
  have ea:=qP [d10 (r % 10)] bs (by have:=uE;simp only[List.length_cons,List.length_nil];omega)
  simp only[tW,g0,g3,hz,em,eq,w1,w2,e1,Pq,VX,Nat.reduceEqDiff,Nat.reduceAdd]
  rw[bs2 _ rfl]
  simp only[g0,g3,em,eq,ea,VX,Nat.reduceEqDiff,Nat.reduceAdd]
  exact⟨(r / 10,d10 (r % 10)::bs),by simp only;omega,by simp only;omega,rfl,rfl,Yh⟩
 ·have uK:r=0:=by omega
  subst uK
  simp only[tW,g0,hz,VX,Nat.reduceEqDiff,Nat.reduceAdd]
  have hb:bs=decDigits n:=by rw[hd,lQ,if_pos rfl,List.nil_append]
  have e:SY (n:Int)=⟨(109::bs).toArray⟩:=by
   unfold SY
   rw[if_neg h0,Int.toNat_natCast,hb]
  have ea:=qP [109] bs (by simp only[List.length_cons,List.length_nil];omega)
  have ea:dH .add (.string ⟨#[109]⟩) (.string ⟨bs.toArray⟩)=some (.string ⟨(109::bs).toArray⟩):=ea
  rw[e]
  simp only[g3,ea,VX,Nat.reduceEqDiff,Nat.reduceAdd]
  exact aI rfl
theorem afL (k:Int):dH .neq (.string (SY k)) (.string (SY k))=some (.bool false):=by
 unfold SY
 rw[P4]
 simp
abbrev lD (k:Int) (n:Nat):List ByteArray:=(iota k n).map SY
theorem xB (k:Int) (n:Nat):(lD k n).length=n:=by rw[List.length_map,RW]
theorem UR {k:Int} {n i:Nat} (h:i<n):(lD k n)[i]? = some (SY (k+i)):=by
 rw[List.getElem?_map]
 simp[iota,List.getElem?_range,h]
theorem Fs {lo b g n c:Nat} {H:aA} (xs:List ByteArray) (k:Int) (hr:aH H b g=some (xs.map sV,1,true)) (hn:n≤xs.length) (dL:lo≤b) (hk:0≤k∧k≤100000000) (RF:n≤100000000) :
  gQ 37 [.ref b g 0 n c,VI k] lo H fun r H'=>r=VI (k+n)∧H'=H.set b (.row g ((lD k n++xs.drop n).map sV) 1 true):=by
 refine gQ.walk ⟨true,false⟩ Fg (Nat.le_of_ble_eq_true rfl) ?_
 have hb:b<H.length:=(List.getElem?_eq_some_iff.1 (cH.1 hr)).1
 have h00:H=H.set b (.row g ((lD k 0++xs.drop 0).map sV) 1 true):=by
  have h':=cH.1 hr
  obtain⟨bH,Eh⟩:=List.getElem?_eq_some_iff.1 h'
  have:lD k 0++xs.drop 0=xs:=by simp[iota]
  rw[this,←Eh,List.set_getElem_self]
 simp only[Al,xT,VX,Nat.reduceEqDiff,Nat.reduceAdd]
 refine aT (fun(i:Nat) ρ H1=>i≤n∧H1=H.set b (.row g ((lD k i++xs.drop i).map sV) 1 true)∧ρ 0 = .ref b g 0 n c∧ρ 1=VI (k+i)∧ρ 5=VI i) (fun i=>n-i) 0 ⟨Nat.zero_le _,h00,rfl,by simp only[VX,Nat.reduceEqDiff,Nat.reduceAdd];simp,rfl⟩ ?_
 rintro i ρ H1 ⟨hi,rfl,h0,h1,h5⟩
 have hR:aH (H.set b (.row g ((lD k i++xs.drop i).map sV) 1 true)) b g=some ((lD k i++xs.drop i).map sV,1,true):=cH.2 (List.getElem?_set_self hb)
 have hlen:(lD k i++xs.drop i).length=xs.length:=by rw[List.length_append,xB,List.length_drop];omega
 have el:=fL (o:=0) (n:=n) (c:=c) hR
 by_cases dA:(i:Int)<(n:Int)
 ·have e1:=bD (o:=0) (n:=n) (c:=c) (i:=i) (k := .i64) hR (by omega)
  have e2:=fJ (f:=sV) (e:=1) (x:=SY (k+i)) (j:=i) (lo:=lo) hR (by omega) dL rfl rfl
  have e3:=BQ (k+i) (by omega)
  have hs:(lD k i++xs.drop i).set i (SY (k+i))=lD k (i+1)++xs.drop (i+1):=by
   obtain⟨x,hx⟩:∃x,xs[i]? = some x:=⟨_,List.getElem?_eq_getElem (by omega)⟩
   have hd:xs.drop i=x::xs.drop (i+1):=by
    have bH:=List.getElem?_eq_some_iff.1 hx
    rw[List.drop_eq_getElem_cons bH.1,bH.2]
   rw[List.set_append_right _ _ (by rw[xB];exact Nat.le_refl _),xB,Nat.sub_self,hd,List.set_cons_zero]
   have:lD k (i+1)=lD k i++[SY (k+i)]:=by
    show (iota k (i+1)).map SY=(iota k i).map SY++[SY (k+i)]
    unfold iota
    rw[List.range_succ,List.map_append,List.map_append]
    rfl
   rw[this,List.append_assoc]
   rfl
  rw[List.set_set,hs] at e2
  have w1:IntKind.i64.wrap (k+i+1)=k+((i+1:Nat):Int):=by rw[wrap64 (by omega) (by omega)];omega
  have wi:IntKind.i64.wrap ((i:Int)+1)=((i+1:Nat):Int):=wrapN (i+1) (by omega) (by omega)
  simp only[pR,h0,h1,h5,dA,el,e1,e2,e3,w1,wi,VX,Nat.reduceEqDiff,Nat.reduceAdd]
  exact⟨i+1,by omega,by omega,by (repeat' apply And.intro)<;>first | rfl | trivial⟩
 ·have oB:i=n:=by omega
  subst oB
  simp only[pR,h0,h1,h5,dA,el,VX,Nat.reduceEqDiff,Nat.reduceAdd]
theorem EX (k:Int) (n:Nat) (hk:0≤k∧k≤100000000) (hn:n≤100000000):TC 150 [qC (lD k n),VI k] (VI (k+n)):=by
 refine TC.walk ⟨true,false⟩ EU rfl (Nat.le_of_ble_eq_true rfl) (HX (qY _) rfl) rfl ?_
 simp only[A6,xM,VX,Nat.reduceEqDiff,Nat.reduceAdd]
 refine aT (fun(i:Nat) ρ H=>i≤n∧H=[]∧ρ 0=qC (lD k n)∧ρ 1=VI (k+i)∧ρ 5=VI i) (fun i=>n-i) 0 ⟨Nat.zero_le _,rfl,rfl,by simp only[VX,Nat.reduceEqDiff,Nat.reduceAdd];simp,rfl⟩ ?_
 rintro i ρ H ⟨hi,rfl,h0,h1,h5⟩
 have hlen:=xB k n
 by_cases dA:(i:Int)<(n:Int)
 ·have hx:=UR (k:=k) (n:=n) (i:=i) (by omega)
  have e1:=aL (f:=sV) (t := .op) (H:=[]) (size:=1) (k := .i64) hx rfl
  have e3:=BQ (k+i) (by omega)
  have w1:IntKind.i64.wrap (k+i+1)=k+((i+1:Nat):Int):=by rw[wrap64 (by omega) (by omega)];omega
  have wi:IntKind.i64.wrap ((i:Int)+1)=((i+1:Nat):Int):=wrapN (i+1) (by omega) (by omega)
  simp only[pV,h0,h1,h5,dA,hlen,e1,e3,w1,wi,afL,VX,Nat.reduceEqDiff,Nat.reduceAdd]
  exact⟨i+1,by omega,by omega,by (repeat' apply And.intro)<;>first | rfl | trivial⟩
 ·have oB:i=n:=by omega
  subst oB
  simp only[pV,h0,h1,h5,dA,hlen,VX,Nat.reduceEqDiff,Nat.reduceAdd]
  exact aI rfl
end Go.PM
namespace Go.PM
structure Lin where
 u:List ByteArray
 d:List ByteArray
 deriving Inhabited
end Go.PM
namespace Go.Proofs.YtjmflicajplclaaGreatDoor
open Go.ChangeShapes Go.WideShapes Go.ChangeAt Go.RowKit Go.PM
set_option maxRecDepth 100000 in
theorem Ns {T:Type} {auU:TypeId×Value→T} {W:World} {v:Value} {d:DataW T} {ps:List MemPlace} {base:Nat} (hv:Value.okWide Tryz.prog W .any base 9 v) (h:DataW.Trod auU Tryz.prog W 0 (fun _=>true) true 9 v d ps) :
 ∃s:ByteArray,v = .string s∧d = .lit (.string s.data.toList)∧ps=[]∧s.size≤maxLen:=Go.ChangeMaps.open_string Tryz.underlying9 hv h
end Go.Proofs.YtjmflicajplclaaGreatDoor
namespace Go.PM
def Sg (f:Nat→Rat):Nat→Rat
 | 0=>0
 | n+1=>Sg f n+f n
theorem Sr {f g:Nat→Rat}:∀ {n:Nat},(∀i,i<n→f i=g i)→Sg f n=Sg g n
 | 0,_=>rfl
 | n+1,h=>by rw[Sg,Sg,Sr fun i hi=>h i (by omega),h n (by omega)]
theorem aeU {f:Nat→Rat} {n:Nat} (h:∀i,i<n→f i=0):Sg f n=0:=by
 induction n with
 | zero=>rfl
 | succ n ih=>rw[Sg,ih fun i hi=>h i (by omega),h n (by omega)];grind
theorem akC (f g:Nat→Rat) (n:Nat):Sg (fun i=>f i-g i) n=Sg f n-Sg g n:=by
 induction n with
 | zero=>simp only[Sg];grind
 | succ n ih=>simp only[Sg,ih];grind
theorem Y6 {f:Nat→Rat} {n k:Nat} (hk:k<n) (h:∀i,i<n→i≠k→f i=0):Sg f n=f k:=by
 induction n with
 | zero=>omega
 |
  succ n ih =>
  rw[Sg]
  by_cases Xy:k=n
  ·subst Xy
   rw[aeU fun i hi=>h i (by omega) (by omega)]
   grind
  ·rw[ih (by omega) fun i hi=>h i (by omega),h n (by omega) (by omega)]
   grind
def Kk (n:Nat) (A:Nat→Nat→Rat) (b x:Nat→Rat):Prop:=∀i,i<n→Sg (fun j=>A i j*x j) n=b i
def apX (n:Nat) (A:Nat→Nat→Rat):Prop:=∀x,Kk n A (fun _=>0) x→∀j,j<n→x j=0
theorem apX.uniq {n:Nat} {A:Nat→Nat→Rat} {b x y:Nat→Rat} (h:apX n A) (hx:Kk n A b x) (hy:Kk n A b y):∀j,j<n→x j=y j:=by
 intro j hj
 have:=h (fun j=>x j-y j) (fun i hi=>by
  have e:Sg (fun j=>A i j*(x j-y j)) n=Sg (fun j=>A i j*x j) n-Sg (fun j=>A i j*y j) n:=by
   rw[←akC]
   exact Sr fun j _=>by grind
  rw[e,hx i hi,hy i hi]
  grind) j hj
 grind
def elm (c:Nat→Rat) (k:Nat) (A:Nat→Nat→Rat):Nat→Nat→Rat:=fun i j=>A i j-c i*A k j
def N7 (n k:Nat) (A:Nat→Nat→Rat):Prop:=(∀i j,i<n→j<k→j<i→A i j=0)∧∀j,j<k→A j j≠0
theorem N7.step {n k:Nat} {A:Nat→Nat→Rat} (hU:N7 n k A) (hkk:A k k≠0) (hk:k<n):N7 n (k+1) (elm (fun i=>if k<i then A i k / A k k else 0) k A):=by
 refine⟨fun i j hi hj Ht => ?_,fun j hj => ?_⟩
 ·unfold elm
  by_cases WN:j=k
  ·subst WN
   simp only[]
   rw[if_pos Ht]
   grind
  ·rw[hU.1 i j hi (by omega) Ht,hU.1 k j hk (by omega) (by omega)]
   grind
 ·unfold elm
  by_cases WN:j=k
  ·subst WN
   simp only[]
   rw[if_neg (by omega)]
   grind
  ·simp only[]
   rw[if_neg (by omega)]
   have:=hU.2 j (by omega)
   grind
def TT (n k:Nat) (A:Nat→Nat→Rat):Prop:=(∀i j,i<n→j<k→i≠j→A i j=0)∧∀j,j<k→A j j≠0
theorem TT.upper {n k:Nat} {A:Nat→Nat→Rat} (h:TT n k A):N7 n k A:=⟨fun i j hi hj Ht=>h.1 i j hi hj (by omega),h.2⟩
theorem TT.step {n k:Nat} {A:Nat→Nat→Rat} (hU:TT n k A) (hkk:A k k≠0) (hk:k<n):TT n (k+1) (elm (fun i=>if i=k then 0 else A i k / A k k) k A):=by
 refine⟨fun i j hi hj Ht => ?_,fun j hj => ?_⟩
 ·unfold elm
  by_cases WN:j=k
  ·subst WN
   simp only[]
   rw[if_neg Ht]
   grind
  ·rw[hU.1 i j hi (by omega) Ht,hU.1 k j hk (by omega) (by omega)]
   grind
 ·unfold elm
  by_cases WN:j=k
  ·subst WN
   simp only[]
   rw[if_pos trivial]
   grind
  ·simp only[]
   rw[if_neg WN,hU.1 k j hk (by omega) (by omega)]
   have:=hU.2 j (by omega)
   grind
theorem TT.avB {n:Nat} {A:Nat→Nat→Rat} (hU:TT n n A) (b:Nat→Rat):Kk n A b fun i=>b i / A i i:=by
 intro i hi
 rw[Y6 hi fun j hj Ht=>by rw[hU.1 i j hi hj (Ne.symm Ht)];grind]
 have:=hU.2 i hi
 grind
theorem N7.back {n k:Nat} {A:Nat→Nat→Rat} {b x:Nat→Rat} (hU:N7 n n A) (hx:Kk n A b x) (hk:k<n):x k=(b k-(Sg (fun j=>A k j*x j) n-Sg (fun j=>A k j*x j) (k+1))) / A k k:=by
 have h1:=hx k hk
 have h2:Sg (fun j=>A k j*x j) (k+1)=A k k*x k:=by
  rw[Y6 (k:=k) (by omega) fun j hj WN=>by rw[hU.1 k j hk (by omega) (by omega)];grind]
 have:=hU.2 k hk
 rw[h1,h2]
 grind
end Go.PM
namespace Go.PM
section
variable {α:Type} {f:α→VV} {e:Nat}
structure Rd (f:α→VV) (e:Nat) (xs:List α) (H:aA) (v:VV):Prop where
 len:∀H',H <+: H'→oK v H'=some (VI xs.length)
 get:∀H',H <+: H'→∀(i:Nat) x,xs[i]? = some x→∃p,bK e v (VI i) H'=some p∧∀ag,cE ag e p H'=dC ag e (f x) 0
 cell:aB v=[v]∧bP v=true∧isAny v=false
theorem Rd.pre {xs:List α} {H H':aA} {v:VV} (h:Rd f e xs H v) (hh:H <+: H'):Rd f e xs H' v:=⟨fun H2 h2=>h.len H2 (hh.trans h2),fun H2 h2=>h.get H2 (hh.trans h2),h.cell⟩
theorem Rd.tree {xs:List α} {H:aA} {t:TK} (hs:∀x,(aB (f x)).length=e):Rd f e xs H (.tree (xs.map f) t) :=
 ⟨fun _ _=>dV,fun _ _ i x hx=>⟨_,aL hx (hs x),fun ag=>JS⟩,rfl,rfl,rfl⟩
theorem Rd.row {xs:List α} {H:aA} {b g n c:Nat} {w:Bool} (h:aH H b g=some (xs.map f,e,w)) (hn:n=xs.length):Rd f e xs H (.ref b g 0 n c):=by
 subst hn
 refine⟨fun H' hh=>fL (cS hh h),fun H' hh i x hx => ?_,rfl,rfl,rfl⟩
 have hi:=(List.getElem?_eq_some_iff.1 hx).1
 have e1:=bD (o:=0) (n:=xs.length) (c:=c) (i:=i) (k := .i64) (cS hh h) hi
 rw[Nat.zero_add] at e1
 exact⟨_,e1,fun ag=>pD (f:=f) (cS hh h) hx⟩
structure MG (f:α→VV) (e lo hi b g:Nat) (H:aA) (rs:List (vC α)):Prop where
 out:aH H b g=some (rs.map nC,1,true)
 blo:lo≤b
 bhi:b<hi
 rows:N9 f e lo hi b H rs
variable {lo hi b g:Nat} {H H':aA} {rs:List (vC α)}
theorem MG.cK (h:MG f e lo hi b g H rs) (hk:dI lo hi H H'):MG f e lo hi b g H' rs :=
 ⟨hk _ _ _ h.blo h.bhi h.out,h.blo,h.bhi,h.rows.nd,fun r hr=>by
  obtain⟨k1,k2,k3,k4,k5⟩:=h.rows.row r hr
  exact⟨k1,k2,k3,k4,hk _ _ _ k1 k2 k5⟩⟩
theorem MG.pre (h:MG f e lo hi b g H rs) (hh:H <+: H'):MG f e lo hi b g H' rs:=h.cK (dI.pre hh)
theorem MG.len {n c:Nat} (h:MG f e lo hi b g H rs):oK (.ref b g 0 n c) H=some (VI n):=fL h.out
theorem MG.addr {i n c:Nat} (h:MG f e lo hi b g H rs) (hi:i<n):bK 1 (.ref b g 0 n c) (VI i) H=some (.ptr b g i 0):=by
 have:=bD (o:=0) (n:=n) (c:=c) (i:=i) (k := .i64) h.out hi
 rwa [Nat.zero_add] at this
theorem MG.cell {i:Nat} {r:vC α} (h:MG f e lo hi b g H rs) (hr:rs[i]? = some r):cE false 1 (.ptr b g i 0) H=some (.ref r.b r.g 0 r.xs.length r.c):=by
 rw[pD (f:=nC) h.out hr]
 rfl
theorem MG.row {i:Nat} {r:vC α} (h:MG f e lo hi b g H rs) (hr:rs[i]? = some r):aH H r.b r.g=some (r.xs.map f,e,true):=(h.rows.row r (List.mem_of_getElem? hr)).2.2.2.2
theorem MG.at {i j n c:Nat} {r:vC α} (h:MG f e lo hi b g H rs) (hr:rs[i]? = some r) (hj:j<n):bK e (.ref r.b r.g 0 n c) (VI j) H=some (.ptr r.b r.g j 0):=by
 have:=bD (o:=0) (n:=n) (c:=c) (i:=j) (k := .i64) (h.row hr) hj
 rwa [Nat.zero_add] at this
theorem MG.get {i j:Nat} {ag:Bool} {r:vC α} {x:α} (h:MG f e lo hi b g H rs) (hr:rs[i]? = some r) (hx:r.xs[j]? = some x):cE ag e (.ptr r.b r.g j 0) H=dC ag e (f x) 0:=pD (f:=f) (h.row hr) hx
theorem MG.inj {i j:Nat} {r s:vC α} (h:MG f e lo hi b g H rs) (hr:rs[i]? = some r) (hs:rs[j]? = some s) (he:r.b=s.b):i=j:=by
 have h1:(rs.map (·.b))[i]? = some r.b:=by simp[hr]
 have h2:(rs.map (·.b))[j]? = some r.b:=by simp[hs,he]
 exact QY h.rows.nd h1 h2
theorem KC {β γ:Type} {F:β→γ} {l:List β} {i:Nat} {x y:β} (hx:l[i]? = some x) (he:F y=F x):(l.set i y).map F=l.map F:=by
 apply List.ext_getElem?
 intro j
 rw[List.getElem?_map,List.getElem?_map,List.getElem?_set]
 split
 ·rename_i O6
  subst O6
  split
  ·rw[hx,Option.map_some,Option.map_some,he]
  ·rename_i hn
   rw[(List.getElem?_eq_none (by omega))] at hx
   cases hx
 ·rfl
theorem MG.set {i:Nat} {r:vC α} {ys:List α} (h:MG f e lo hi b g H rs) (hr:rs[i]? = some r) (hl:ys.length=r.xs.length):MG f e lo hi b g (H.set r.b (.row r.g (ys.map f) e true)) (rs.set i { r with xs:=ys }):=by
 have Ct:=h.rows.row r (List.mem_of_getElem? hr)
 refine⟨?_,h.blo,h.bhi,?_,fun s hs => ?_⟩
 ·rw[KC hr (by simp[nC,hl])]
  exact cF Ct.2.2.1 h.out
 ·rw[KC (F:=fun r:vC α=>r.b) (y:={ r with xs:=ys }) hr rfl]
  exact h.rows.nd
 ·obtain⟨j,hj⟩:=List.getElem?_of_mem hs
  rw[List.getElem?_set] at hj
  split at hj
  ·rename_i O6
   split at hj
   ·cases hj
    exact⟨Ct.1,Ct.2.1,Ct.2.2.1,by rw[hl];exact Ct.2.2.2.1,cA Ct.2.2.2.2⟩
   ·cases hj
  ·rename_i O6
   have RZ:=h.rows.row s (List.mem_of_getElem? hj)
   exact⟨RZ.1,RZ.2.1,RZ.2.2.1,RZ.2.2.2.1,cF (fun he=>O6 (h.inj hr hj he)) RZ.2.2.2.2⟩
theorem MG.put {i j gP:Nat} {r:vC α} {y:α} (h:MG f e lo hi b g H rs) (hr:rs[i]? = some r) (hj:j<r.xs.length) (dL:gP≤lo) (hv:(aB (f y)).length=e) (hs:(aB (f y)).all bP=true) :
  bQ gP e (.ptr r.b r.g j 0) (f y) H=some (H.set r.b (.row r.g ((r.xs.set j y).map f) e true)) :=
 fJ (f:=f) (h.row hr) hj (Nat.le_trans dL (h.rows.row r (List.mem_of_getElem? hr)).1) hv hs
theorem MG.lt {i:Nat} {r:vC α} (h:MG f e lo hi b g H rs) (hr:rs[i]? = some r):lo≤r.b∧r.b<hi∧r.b<H.length:=⟨(h.rows.row r (List.mem_of_getElem? hr)).1,(h.rows.row r (List.mem_of_getElem? hr)).2.1,fR (h.row hr)⟩
theorem MG.bE {c:Nat} (h:MG f e lo hi b g H rs) (hc:rs.length≤c):RG f e (rs.map (·.xs)) lo hi H (.ref b g 0 rs.length c) := .inr ⟨b,g,c,rs,h.blo,h.bhi,by rw[List.length_map],by rw[List.length_map];exact hc,h.out,rfl,h.rows⟩
theorem MG.fz {d c:Nat} (h:MG f e lo hi b g H rs) (hc:rs.length≤c) (hp:∀x,aP (f x)=true):PM.fz (d+3) H (.ref b g 0 rs.length c)=some (bI (bI f) (rs.map (·.xs))):=VP hp h.out hc h.rows
theorem MG.wide {gP mC:Nat} (h:MG f e lo hi b g H rs) (hl:gP≤lo) (hh:hi≤mC):MG f e gP mC b g H rs:=⟨h.out,by have:=h.blo;omega,by have:=h.bhi;omega,h.rows.nd,fun r hr=>by
 obtain⟨k1,k2,k3,k4,k5⟩:=h.rows.row r hr
 exact⟨by omega,by omega,k3,k4,k5⟩⟩
end
theorem fW:type_of% (And.intro @dJ<|And.intro @Bf<|And.intro @nS.eq_1<|And.intro @qM.eq_1<|And.intro @qM.eq_2<|And.intro @EE.eq_1<|And.intro @EE.eq_2<|And.intro @wV.eq_1<|And.intro @wV.eq_2<|And.intro @FJ<|And.intro @Bp<|And.intro @Dw<|And.intro @DU<|And.intro @List.take_zero.{0}<|And.intro @List.take_succ_cons.{0}<|And.intro @List.take_nil.{0}<|And.intro @List.drop_zero.{0}<|And.intro @List.drop_succ_cons.{0}<|And.intro @List.drop_nil.{0}<|And.intro @List.append_nil.{0} <| @Nat.le_refl):=And.intro @dJ<|And.intro @Bf<|And.intro @nS.eq_1<|And.intro @qM.eq_1<|And.intro @qM.eq_2<|And.intro @EE.eq_1<|And.intro @EE.eq_2<|And.intro @wV.eq_1<|And.intro @wV.eq_2<|And.intro @FJ<|And.intro @Bp<|And.intro @Dw<|And.intro @DU<|And.intro @List.take_zero.{0}<|And.intro @List.take_succ_cons.{0}<|And.intro @List.take_nil.{0}<|And.intro @List.drop_zero.{0}<|And.intro @List.drop_succ_cons.{0}<|And.intro @List.drop_nil.{0}<|And.intro @List.append_nil.{0} <| @Nat.le_refl
def GZ (P:Nat→Nat→aA→VV→Prop) (H:aA) (r:VV) (H':aA):Prop:=H <+: H'∧P H.length H'.length H' r
theorem lB {F lo:Nat} {args:List VV} {P:Nat→Nat→aA→VV→Prop} {H:aA} {K:VV→aA→Prop} (xS:Ci.contains F=true) (h:gQ F args lo H (GZ P H)) (hk:∀r L,P H.length (H++L).length (H++L) r→K r (H++L)):cQ F args lo H K:=by
 refine gJ xS (h.mono ?_)
 rintro r H' ⟨⟨L,rfl⟩,hP⟩
 exact hk r L hP
end Go.PM
namespace Go.PM
open Go.Lib
abbrev cell0:cG := .row 0 [.agg [VB false,.tree [] .nil,.tree [] .nil]] 3 true
def dY (qs:List Rat):Rat:=qs.foldl (· + ·) 0
theorem A4 {qs:List Rat} {i:Nat} {q:Rat} (h:qs[i]? = some q):dY (qs.take (i+1))=dY (qs.take i)+q:=by
 rw[gV h,dY,List.foldl_append];rfl
theorem Oa {B:Nat}:∀ {qs:List Rat},(∀q∈qs,aZ q≤B)→∀a:Rat,aZ (qs.foldl (· + ·) a)≤qs.length*(B+1)+aZ a
 | [],_,a=>by simp
 |
  q::qs,h,a=>by
  have h1:=Oa (fun x hx=>h x (List.mem_cons_of_mem _ hx)) (a+q)
  have h2:=Ib a q
  have h3:=h q List.mem_cons_self
  rw[List.foldl_cons,List.length_cons,Nat.succ_mul]
  omega
theorem E5 {B:Nat} {qs:List Rat} (h:∀q∈qs,aZ q≤B) (i:Nat):aZ (dY (qs.take i))≤qs.length*(B+1)+1:=by
 have h1:=Oa (qs:=qs.take i) (fun q hq=>h q (List.mem_of_mem_take hq)) 0
 have h2:(qs.take i).length*(B+1)≤qs.length*(B+1):=Nat.mul_le_mul_right _ (by rw[List.length_take];omega)
 rw[Fh] at h1
 unfold dY
 omega
set_option maxHeartbeats 1000000 in
abbrev rz:VV := .agg [VB false,.tree [] .nil,.tree [] .nil]
theorem kQ {H H1:aA} {b:Nat} {x:cG} (h:H <+: H1) (hb:H.length≤b):H <+: H1.set b x:=by
 obtain⟨L,rfl⟩:=h
 rw[List.set_append_right _ _ hb]
 exact List.prefix_append _ _
theorem jN {H H1 L:aA} (h:H <+: H1):H <+: H1++L:=h.trans (List.prefix_append _ _)
theorem AL {lo:Nat} {H:aA} {q:Rat} (h:lo≤H.length):bQ lo 3 (.ptr H.length 0 0 0) (aQ q) (H++[cell0])=some (H++[.row 0 [aQ q] 3 true]):=by
 rw[bU (g:=0) (e:=3) (j:=0) fN (by exact Nat.zero_lt_one) h rfl rfl,FT]
 rfl
theorem JU {H K:aA} {q:Rat}:cE true 3 (.ptr H.length 0 0 0) (H ++ .row 0 [aQ q] 3 true::K)=some (aQ q):=by
 rw[bO,wI,aS]
 exact dK _
theorem L8 {lo:Nat} {H:aA} {v:VV} (qs:List Rat) {B:Nat} (hv:Rd aQ 3 qs H v) (dL:lo≤H.length) (hb:∀q∈qs,aZ q≤B) (hk:qs.length*(B+1)+1≤1099511627776) (hB:B≤1099511627776) (hn:qs.length≤1000000000) :
  gQ 70 [v] lo H (GZ (fun _ _ _ r=>r=aQ (dY qs)) H):=by
 refine gQ.walk ⟨true,false⟩ Ty (Nat.le_of_ble_eq_true rfl) ?_
 have e1:TC 64 [VI 0] (aQ 0):=rR 0 (by decide) (by decide)
 have e2:=hv.len (H++[cell0,.row 0 [aQ 0] 3 true]) (List.prefix_append _ _)
 have s0:bQ lo 3 (.ptr (H.length+1) 0 0 0) (aQ 0) (H++[cell0,cell0])=some (H++[cell0,.row 0 [aQ 0] 3 true]):=by
  have:=AL (lo:=lo) (H:=H++[cell0]) (q:=0) (by rw[List.length_append];omega)
  simpa only[List.length_append,List.length_cons,List.length_nil,Nat.zero_add,List.append_assoc,List.cons_append,List.nil_append] using this
 simp only[R5,LD,e1,e2,s0,List.length_append,List.length_cons,List.length_nil,List.append_assoc,List.cons_append,List.nil_append,fW,VX,Nat.reduceEqDiff,Nat.reduceAdd,Nat.reduceLeDiff,Nat.reduceLT,Nat.reduceSub]
 refine aT (fun(i:Nat) ρ H1=>i≤qs.length∧H <+: H1∧aH H1 H.length 0=some ([rz],3,true)∧aH H1 (H.length+1) 0=some ([aQ (dY (qs.take i))],3,true)∧ρ 2 = .ptr H.length 0 0 0∧ρ 3 = .ptr (H.length+1) 0 0 0∧ρ 7=v∧ρ 8=VI qs.length∧ρ 9=VI i) (fun i=>qs.length-i) 0 ⟨Nat.zero_le _,List.prefix_append _ _,wI.trans aS,Pg.trans (iM.trans aS),rfl,rfl,rfl,rfl,rfl⟩ ?_
 rintro i ρ H1 ⟨hi,hp,uK,FB,g2,g3,g7,g8,g9⟩
 have Bk:=fR FB
 by_cases dA:(i:Int)<(qs.length:Int)
 ·obtain⟨q,hq⟩:∃q,qs[i]? = some q:=⟨_,List.getElem?_eq_getElem (by omega)⟩
  obtain⟨p,a1,a2⟩:=hv.get H1 hp i q hq
  have a2':=(a2 true).trans (dK _)
  have wi:IntKind.i64.wrap ((i:Int)+1)=((i+1:Nat):Int):=wrapN (i+1) (by omega) (by omega)
  have h1:=E5 hb i
  have h2:=hb q (List.mem_of_getElem? hq)
  have h3:(i+1)*(B+1)≤qs.length*(B+1):=Nat.mul_le_mul_right _ (by omega)
  have e3:=xK (dY (qs.take i)) q (by omega) (by omega)
  rw[←A4 hq] at e3
  have s1:=AL (lo:=lo) (H:=H1) (q:=q) (by omega)
  have s2:=JU (H:=H1) (K:=[]) (q:=q)
  have s3:cE true 3 (.ptr (H.length+1) 0 0 0) (H1++[.row 0 [aQ q] 3 true])=some (aQ (dY (qs.take i))):=by
   rw[bO,bS FB]
   exact dK _
  have s4:=bU (lo:=lo) (v:=aQ (dY (qs.take (i+1)))) (j:=0) (bS (L:=[.row 0 [aQ q] 3 true]) FB) (by exact Nat.zero_lt_one) (by omega) rfl rfl
  rw[List.set_cons_zero] at s4
  simp only[Du,g2,g3,g7,g8,g9,dA,a1,a2',e3,s1,s2,s3,s4,wi,dK,fW,VX,Nat.reduceEqDiff,Nat.reduceAdd,Nat.reduceLeDiff,Nat.reduceLT,Nat.reduceSub]
  exact⟨i+1,by omega,by omega,kQ (jN hp) (by omega),cF (by omega) (bS uK),cA (bS FB),by (repeat' apply And.intro)<;>first | rfl | trivial | assumption⟩
 ·have oB:i=qs.length:=by omega
  subst oB
  rw[List.take_length] at FB
  have s3:cE true 3 (.ptr (H.length+1) 0 0 0) H1=some (aQ (dY qs)):=by
   rw[bO,FB]
   exact dK _
  have s4:=bU (lo:=lo) (v:=aQ (dY qs)) (j:=0) uK (by exact Nat.zero_lt_one) dL rfl rfl
  rw[List.set_cons_zero] at s4
  have s5:cE true 3 (.ptr H.length 0 0 0) (H1.set H.length (.row 0 [aQ (dY qs)] 3 true))=some (aQ (dY qs)):=by
   rw[bO,cA uK]
   exact dK _
  simp only[Du,g2,g3,g8,g9,dA,s3,s4,s5,fW,VX,Nat.reduceEqDiff,Nat.reduceAdd,Nat.reduceLeDiff,Nat.reduceLT,Nat.reduceSub]
  exact⟨kQ hp (Nat.le_refl _),rfl⟩
theorem Oc {q:Rat}:0<kV q↔0<q:=by
 have e:0<q.num↔0<q:=by
  constructor
  ·intro h
   have h1:0≤q:=Rat.num_nonneg.1 (by omega)
   have h2:q≠0:=fun h'=>by rw[h'] at h;exact absurd h (by decide)
   grind
  ·intro h
   have h1:0≤q.num:=Rat.num_nonneg.2 (by grind)
   have h2:q.num≠0:=fun h'=>by rw[Rat.num_eq_zero] at h';rw[h'] at h;exact absurd h (by decide)
   omega
 rw[←e]
 rcases Int.lt_trichotomy q.num 0 with h | h | h
 ·rw[pF h];omega
 ·rw[kS h];omega
 ·rw[oZ h];omega
end Go.PM
namespace Go.PM
open Go.Lib
end Go.PM
namespace Go.PM
def Ab:aD:=(LS [LO 10 (.bin .lss (LT 9) (LT 8))] (.seq (.cond (LT 10) .skip (.exit 0)) (.seq (.block 1 (LS [LM 11 9,LM 4 11] (.dG [LM 12 3,LM 13 4,LO 14 (.call 64 [(LI 0)]),LO 15 (.lit [(.bool false),(.slice none 0 0),(.slice none 0 0)] 1 [(0,(LT 14))]),LM 16 0,LO 17 (.call 162 [(LT 15),(LT 16)]),LO 18 (.iaddr 1 (LT 12) (LT 13)),LN (.store 1 (LT 18) (LT 17))]))) (.dG [LO 19 (.bin .add (LT 9) (LI 1)),LM 9 19]))))
def GV:aD:=(LS [LO 2 (.mv (.const (.slice none 0 0)))] (LS [LM 5 0,LO 6 (.make [(.slice none 0 0)] 24 (LT 5) (LT 5)),LM 3 6] (.seq (LS [LM 7 3,LO 8 (.len (LT 7)),LO 9 (.mv (LI 0))] (.block 0 (.loop Ab))) (LS [LM 20 3,LM 2 20] .ret))))
def Kr:aR:=⟨21,[(.tmp 2)],GV⟩
theorem O5:fV 99=some Kr:=by kernel_rfl
def sI:aD:=(LS [LO 13 (.bin .lss (LT 12) (LT 11))] (.seq (.cond (LT 13) .skip (.exit 0)) (.seq (.block 1 (LS [LO 14 (.iaddr 1 (LT 10) (LT 12)),LO 15 (LL 14),LM 6 15] (LS [LM 17 6,LO 18 (.call 147 [(LT 17)]),LM 16 18,LO 19 (LX 16 0),LO 20 (LX 16 1),LM 7 19,LM 8 20] (.seq (LS [LM 21 8,LO 22 (.un .not (LT 21))] (.cond (LT 22) (LS [LO 23 (.build [(.slice none 0 0)] [(0,1)] []),LN (.store 1 (LT 2) (LT 23)),LO 3 (.mv LF)] .ret) .skip)) (.dG [LO 24 (LA 0 4),LO 25 (LL 24),LM 26 7,LO 27 (.lit [(.slice none 0 0)] 1 [(0,(LT 26))]),LO 28 (.app 1 24 (LT 25) (LT 27)),LO 29 (LA 0 4),LN (.store 1 (LT 29) (LT 28))]))))) (.dG [LO 30 (.bin .add (LT 12) (LI 1)),LM 12 30]))))
def A8:aD:=(LS [LO 2 (.new [(.slice none 0 0)]),LO 3 (.mv LF)] (LS [LO 9 (.build [(.slice none 0 0)] [(0,1)] []),LO 4 (.new [(.slice none 0 0)]),LN (.store 1 (LT 4) (LT 9))] (.seq (LS [LM 10 0,LO 11 (.len (LT 10)),LO 12 (.mv (LI 0))] (.block 0 (.loop sI))) (LS [LO 31 (.load true 1 (LT 4)),LN (.store 1 (LT 2) (LT 31)),LO 3 (.mv LG)] .ret))))
def CM:aR:=⟨32,[(.cell 2 true 1),(.tmp 3)],A8⟩
theorem HM:fV 71=some CM:=by kernel_rfl
end Go.PM
namespace Go.PM
open Go.Lib
abbrev M9 (x:VV):VV := .agg [x]
theorem Wt {x:VV}:dC false 1 (M9 x) 0=some x:=rfl
end Go.PM
namespace Go.PM
theorem PZ (n:Nat) (h:n<18446744073709551616):dH .and (.int .u64 (n:Int)) (.int .u64 4294967295)=some (.int .u64 ((n % 4294967296:Nat):Int)):=by
 simp only[dH,if_true]
 have h1:(BitVec.ofInt IntKind.u64.bits (n:Int) &&& BitVec.ofInt IntKind.u64.bits 4294967295).toNat=n % 4294967296:=by
  rw[BitVec.toNat_and]
  have e1:(BitVec.ofInt IntKind.u64.bits (n:Int)).toNat=n:=by
   rw[BitVec.toNat_ofInt]
   simp only[IntKind.bits]
   omega
  have e2:(BitVec.ofInt IntKind.u64.bits 4294967295).toNat=2^32-1:=by
   rw[BitVec.toNat_ofInt]
   simp only[IntKind.bits]
   omega
  rw[e1,e2,Nat.and_two_pow_sub_one_eq_mod]
 rw[h1,dW _ (by omega)]
end Go.PM
namespace Go.PM
def MC (cs:List jV) (i:Nat):Int:=((cs[i]?).map (·.t)).getD 0
def Yy (cs:List jV) (i:Nat):Int:=((cs[i]?).map (·.w)).getD 0
def klC (cs:List jV) (i:Nat):Int:=((cs[i]?).map (·.k)).getD 0
def Hf (st:List Int) (i:Nat):Int:=(st[i]?).getD 0
theorem Th {cs:List jV} {i:Nat} {x:jV} (h:cs[i]? = some x):MC cs i=x.t:=by simp[MC,h]
theorem akW {cs:List jV} {i:Nat} {x:jV} (h:cs[i]? = some x):Yy cs i=x.w:=by simp[Yy,h]
theorem ZF {st:List Int} {i:Nat} {x:Int} (h:st[i]? = some x):Hf st i=x:=by simp[Hf,h]
def inS (cs:List jV) (st:List Int) (t:Int) (i:Nat):Bool:=decide (0≤Hf st i)&&decide (Hf st i≤t)&&decide (t<Hf st i+Yy cs i)
def bz (cs:List jV) (st:List Int) (t:Int):Nat:=(List.range cs.length).countP (inS cs st t)
def isW (cs:List jV) (st:List Int) (t:Int) (i:Nat):Bool:=decide (Hf st i<0)&&decide (MC cs i≤t)
def wt (cs:List jV) (st:List Int) (t:Int):List Nat:=(List.range cs.length).filter (isW cs st t)
def JA (cL:Int) (cs:List jV) (i k:Nat):Bool :=
 if cL=1 then true else if cL=2 then decide (Yy cs i<Yy cs k) else if cL=3 then decide (klC cs i<klC cs k) else false
def yY (cL:Int) (cs:List jV) (b:Option Nat) (i:Nat):Option Nat:=match b with
 | none=>some i
 | some k=>if JA cL cs i k then some i else some k
def nxt (cL:Int) (cs:List jV) (st:List Int) (t:Int):Option Nat:=(wt cs st t).foldl (yY cL cs) none
def fill (cL sP:Int) (cs:List jV) (t:Int):Nat→List Int→List Int
 | 0,st=>st
 |
  n+1,st=>if (bz cs st t:Int)<sP then (match nxt cL cs st t with
  | none=>st
  | some k=>fill cL sP cs t n (st.set k t)) else st
def full (cL sP:Int) (cs:List jV) (st:List Int) (t:Int):Prop:=sP≤(bz cs st t:Int)∨nxt cL cs st t=none
def runT (cL sP:Int) (cs:List jV):Int→Nat→List Int→List Int
 | _,0,st=>st
 | t,n+1,st=>runT cL sP cs (t+1) n (fill cL sP cs t cs.length st)
def stL (cL sP:Int) (cs:List jV):List Int:=runT cL sP cs 0 100000 (List.replicate cs.length (-1))
section
variable {cL sP:Int} {cs:List jV} {st:List Int} {t:Int}
theorem wQ (h:full cL sP cs st t) (n:Nat):fill cL sP cs t n st=st:=by
 cases n with
 | zero=>rfl
 |
  succ n =>
  rw[fill]
  rcases h with h | h
  ·rw[if_neg (by omega)]
  ·split
   ·rw[h]
   ·rfl
theorem NU (m:Nat):∀(t:Int) (n:Nat),(∀u,t≤u→u<t+m→full cL sP cs st u)→m≤n→runT cL sP cs t n st=runT cL sP cs (t+m) (n-m) st:=by
 induction m with
 | zero=>intro t n _ _;simp
 |
  succ m ih =>
  intro t n h hm
  obtain⟨n,rfl⟩:∃k,n=k+1:=⟨n-1,by omega⟩
  rw[runT,wQ (h t (Int.le_refl _) (by omega)),ih (t+1) n (fun u h1 h2=>h u (by omega) (by omega)) (by omega)]
  congr 1
  ·omega
  ·omega
theorem XL (n:Nat):∀(t:Int),(∀u,t≤u→full cL sP cs st u)→runT cL sP cs t n st=st:=by
 intro t h
 rw[NU n t n (fun u h1 _=>h u h1) (Nat.le_refl _),Nat.sub_self]
 rfl
theorem VZ {a b:Int} (ha:0≤a) (FA:a≤b) (hb:b≤100000) (h:∀u,a≤u→u<b→full cL sP cs st u):runT cL sP cs a (100000-a).toNat st=runT cL sP cs b (100000-b).toNat st:=by
 rw[NU (b-a).toNat a _ (fun u h1 h2=>h u h1 (by omega)) (by omega)]
 congr 1
 ·omega
 ·omega
theorem ZZ {a:Int} (ha:0≤a) (hb:a<100000):runT cL sP cs a (100000-a).toNat st=runT cL sP cs (a+1) (100000-(a+1)).toNat (fill cL sP cs a cs.length st):=by
 rw[show (100000-a).toNat=(100000-(a+1)).toNat+1 by omega,runT]
theorem N4 {ws:List Nat} {k:Nat}:∃j,(ws.foldl (yY cL cs) (some k))=some j∧(j=k∨j∈ws):=by
 induction ws generalizing k with
 | nil=>exact⟨k,rfl,.inl rfl⟩
 |
  cons i ws ih =>
  rw[List.foldl_cons]
  have:∃q,yY cL cs (some k) i=some q∧(q=k∨q=i):=by
   unfold yY
   simp only
   split
   ·exact⟨i,rfl,.inr rfl⟩
   ·exact⟨k,rfl,.inl rfl⟩
  obtain⟨q,hq,hqq⟩:=this
  rw[hq]
  obtain⟨j,h1,h2⟩:=ih (k:=q)
  refine⟨j,h1,?_⟩
  rcases h2 with rfl | h2
  ·rcases hqq with rfl | rfl
   ·exact .inl rfl
   ·exact .inr List.mem_cons_self
  ·exact .inr (List.mem_cons_of_mem _ h2)
theorem wY:nxt cL cs st t=none↔wt cs st t=[]:=by
 unfold nxt
 cases h:wt cs st t with
 | nil=>exact⟨fun _=>rfl,fun _=>rfl⟩
 |
  cons i ws =>
  refine⟨fun h2 => ?_,fun h2=>(by cases h2)⟩
  rw[List.foldl_cons] at h2
  obtain⟨j,h3,_⟩:=N4 (cL:=cL) (cs:=cs) (ws:=ws) (k:=i)
  rw[show yY cL cs none i=some i from rfl,h3] at h2
  cases h2
theorem PC {k:Nat} (h:nxt cL cs st t=some k):k∈wt cs st t:=by
 unfold nxt at h
 cases hw:wt cs st t with
 | nil=>rw[hw] at h;cases h
 |
  cons i ws =>
  rw[hw,List.foldl_cons] at h
  obtain⟨j,h3,h4⟩:=N4 (cL:=cL) (cs:=cs) (ws:=ws) (k:=i)
  rw[show yY cL cs none i=some i from rfl,h3] at h
  injection h with h
  subst h
  rcases h4 with rfl | h4
  ·exact List.mem_cons_self
  ·exact List.mem_cons_of_mem _ h4
theorem Lp {k:Nat}:k∈wt cs st t↔k<cs.length∧Hf st k<0∧MC cs k≤t:=by
 simp[wt,isW]
theorem acO:(wt cs st t).Nodup:=List.Pairwise.filter _ List.nodup_range
theorem GD {k i:Nat} (hk:k<st.length):Hf (st.set k t) i=if i=k then t else Hf st i:=by
 unfold Hf
 rw[List.getElem?_set]
 by_cases h:i=k
 ·subst h
  simp[hk]
 ·rw[if_neg (fun h'=>h h'.symm),if_neg h]
theorem Ph {p q:Nat→Bool} {k:Nat} (hp:p k=false) (h:∀i,i≠k→q i=p i):∀n,(List.range n).countP q=(List.range n).countP p+if k<n∧q k=true then 1 else 0:=by
 intro n
 induction n with
 | zero=>simp
 |
  succ n ih =>
  rw[List.range_succ,List.countP_append,List.countP_append,ih]
  by_cases hk:n=k
  ·subst hk
   simp only[List.countP_singleton,hp]
   cases hq:q n<;>simp
  ·rw[List.countP_singleton,List.countP_singleton,h n hk]
   have:(k<n+1∧q k=true)↔(k<n∧q k=true):=by
    constructor
    ·rintro⟨h1,h2⟩;exact⟨by omega,h2⟩
    ·rintro⟨h1,h2⟩;exact⟨by omega,h2⟩
   simp only[this]
   omega
theorem alO {k:Nat} {u:Int} (hk:k<cs.length) (hl:st.length=cs.length) (hs:Hf st k<0) (h0:0≤t):bz cs (st.set k t) u=bz cs st u+if t≤u∧u<t+Yy cs k then 1 else 0:=by
 unfold bz
 rw[Ph (p:=inS cs st u) (q:=inS cs (st.set k t) u) (k:=k)]
 ·congr 1
  have:(k<cs.length∧inS cs (st.set k t) u k=true)↔(t≤u∧u<t+Yy cs k):=by
   simp only[inS,GD (t:=t) (i:=k) (by omega:k<st.length),if_true,Bool.and_eq_true,decide_eq_true_eq]
   constructor
   ·rintro⟨_,⟨_,h1⟩,h2⟩;exact⟨h1,h2⟩
   ·rintro⟨h1,h2⟩;exact⟨hk,⟨h0,h1⟩,h2⟩
  simp only[this]
 ·simp only[inS]
  rw[decide_eq_false (by omega)]
  rfl
 ·intro i hi
  simp only[inS,GD (t:=t) (i:=i) (by omega:k<st.length),if_neg hi]
theorem amM {k:Nat} {u:Int} (hl:st.length=cs.length) (hk:k<cs.length) (h0:0≤t):wt cs (st.set k t) u=(wt cs st u).filter (· != k):=by
 unfold wt
 rw[List.filter_filter]
 refine List.filter_congr fun i hi => ?_
 simp only[isW,GD (t:=t) (i:=i) (by omega:k<st.length)]
 by_cases h:i=k
 ·subst h
  simp
  omega
 ·simp[h]
def Ft (st:List Int):Nat:=st.countP (fun s=>decide (s<0))
theorem Av {k:Nat} (hk:k<st.length) (hs:Hf st k<0) (h0:0≤t):Ft (st.set k t)+1=Ft st:=by
 unfold Ft
 rw[List.countP_set hk]
 have hx:st[k]=Hf st k:=by
  rw[ZF (x:=st[k]) (List.getElem?_eq_getElem hk)]
 have h1:decide (st[k]<0)=true:=by rw[hx];exact decide_eq_true hs
 have h2:decide (t<0)=false:=decide_eq_false (by omega)
 have h3:0<st.countP (fun s=>decide (s<0)):=by
  rw[List.countP_pos_iff]
  exact⟨st[k],List.getElem_mem hk,h1⟩
 simp only[h1,h2,if_true,Bool.false_eq_true,if_false]
 omega
theorem Xq (hl:st.length=cs.length) (h0:0≤t):∀(n m:Nat),Ft st≤n→Ft st≤m→fill cL sP cs t n st=fill cL sP cs t m st:=by
 intro n
 induction n generalizing st with
 |
  zero =>
  intro m hn hm
  have hf:full cL sP cs st t:=by
   right
   rw[wY]
   cases hw:wt cs st t with
   | nil=>rfl
   |
    cons i ws =>
    have h1:i∈wt cs st t:=by rw[hw];exact List.mem_cons_self
    obtain⟨h2,h3,_⟩:=Lp.1 h1
    have:=Av (t:=t) (by omega:i<st.length) h3 h0
    omega
  rw[wQ hf,wQ hf]
 |
  succ n ih =>
  intro m hn hm
  cases m with
  |
   zero =>
   have hf:full cL sP cs st t:=by
    right
    rw[wY]
    cases hw:wt cs st t with
    | nil=>rfl
    |
     cons i ws =>
     have h1:i∈wt cs st t:=by rw[hw];exact List.mem_cons_self
     obtain⟨h2,h3,_⟩:=Lp.1 h1
     have:=Av (t:=t) (by omega:i<st.length) h3 h0
     omega
   rw[wQ hf,wQ hf]
  |
   succ m =>
   rw[fill,fill]
   split
   ·split
    ·rfl
    ·rename_i k hk
     obtain⟨h2,h3,_⟩:=Lp.1 (PC hk)
     have:=Av (t:=t) (by omega:k<st.length) h3 h0
     exact ih (by simp[hl]) m (by omega) (by omega)
   ·rfl
theorem Wu:Ft st≤st.length:=List.countP_le_length
theorem XS {k:Nat} (hl:st.length=cs.length) (h0:0≤t) (hb:(bz cs st t:Int)<sP) (hk:nxt cL cs st t=some k):fill cL sP cs t cs.length (st.set k t)=fill cL sP cs t cs.length st:=by
 obtain⟨h2,h3,_⟩:=Lp.1 (PC hk)
 have h4:=Av (t:=t) (by omega:k<st.length) h3 h0
 have h5:=Wu (st:=st)
 rw[Xq (st:=st) hl h0 cs.length (cs.length+1) (by omega) (by omega)]
 conv=>rhs;rw[fill,if_pos hb,hk]
def evT (cs:List jV) (st:List Int) (i:Nat):Int:=if 0≤Hf st i then Hf st i+Yy cs i else MC cs i
def akS (cs:List jV) (st:List Int) (t:Int) (b:Int) (i:Nat):Int:=if t<evT cs st i∧(b<0∨evT cs st i<b) then evT cs st i else b
def later (cs:List jV) (st:List Int) (t:Int):Int:=(List.range cs.length).foldl (akS cs st t) (-1)
structure Way (cs:List jV) (st:List Int) (t:Int):Prop where
 len:st.length=cs.length
 low:∀i,i<cs.length → -1≤Hf st i
 high:∀i,i<cs.length→Hf st i≤t
 bd:∀i,i<cs.length→Hf st i+1000*(Ft st:Int)≤10000+1000*(cs.length:Int)
 tm:0≤t∧t+1000*(Ft st:Int)≤11000+1000*(cs.length:Int)
theorem Way.set {k:Nat} (h:Way cs st t) (hk:k<cs.length) (hs:Hf st k<0):Way cs (st.set k t) t:=by
 have hl:=h.len
 have Yq:=h.tm
 have h4:=Av (t:=t) (by omega:k<st.length) hs Yq.1
 refine⟨by simp[hl],fun i hi => ?_,fun i hi => ?_,fun i hi => ?_,Yq.1,by omega⟩
 all_goals rw[GD (by omega:k<st.length)]
 ·have:=h.low i hi
  split<;>omega
 ·have:=h.high i hi
  split<;>omega
 ·have:=h.bd i hi
  split<;>omega
theorem Way.le (h:Way cs st t) (hc:mK cs):t≤35000∧∀i,i<cs.length→Hf st i≤34000:=by
 have hlen:=hc.2
 have Yq:=h.tm
 refine⟨by omega,fun i hi => ?_⟩
 have:=h.bd i hi
 omega
theorem mK.bnd (hc:mK cs) {i:Nat} (hi:i<cs.length):(0≤MC cs i∧MC cs i≤10000)∧(1≤Yy cs i∧Yy cs i≤1000):=by
 have hx:cs[i]? = some cs[i]:=List.getElem?_eq_getElem hi
 have:=hc.at hx
 rw[Th hx,akW hx]
 exact⟨this.1,this.2.1⟩
def LW (cL:Int) (cs:List jV) (ws:List Nat):Nat :=
 if cL=1 then ws.length-1 else if cL=2∨cL=3 then (List.range ws.length).foldl (fun b k=>if JA cL cs (ws.getD k 0) (ws.getD b 0) then k else b) 0 else 0
theorem Tm {ws:List Nat} {k:Nat} (h:∀i j,JA cL cs i j=false):ws.foldl (yY cL cs) (some k)=some k:=by
 induction ws with
 | nil=>rfl
 |
  cons i ws ih =>
  rw[List.foldl_cons]
  have:yY cL cs (some k) i=some k:=by
   unfold yY
   simp only[h]
   rfl
  rw[this,ih]
theorem Zi {ws:List Nat} (fC:ws≠[]) (hr:0≤cL∧cL≤3):LW cL cs ws<ws.length∧ws[LW cL cs ws]? = ws.foldl (yY cL cs) none:=by
 have hlen:0<ws.length:=List.length_pos_iff.2 fC
 unfold LW
 by_cases h1:cL=1
 ·rw[if_pos h1]
  rcases List.eq_nil_or_concat ws with rfl | ⟨xs,y,rfl⟩
  ·exact absurd rfl fC
  ·rw[List.concat_eq_append,List.foldl_append]
   refine⟨by simp,?_⟩
   simp only[List.length_append,List.length_cons,List.length_nil,Nat.zero_add,Nat.add_sub_cancel,List.foldl_cons,List.foldl_nil]
   rw[List.getElem?_append_right (Nat.le_refl _),Nat.sub_self]
   unfold yY
   split
   ·rfl
   ·simp only[JA,if_pos h1,if_true]
    rfl
 ·rw[if_neg h1]
  by_cases h2:cL=2∨cL=3
  ·rw[if_pos h2]
   have ayB:∀i,JA cL cs i i=false:=fun i=>by
    unfold JA
    rw[if_neg h1]
    split
    ·exact decide_eq_false (by omega)
    ·split
     ·exact decide_eq_false (by omega)
     ·rfl
   have key:∀n,n<ws.length→(List.range (n+1)).foldl (fun b k=>if JA cL cs (ws.getD k 0) (ws.getD b 0) then k else b) 0<ws.length ∧
     ws[(List.range (n+1)).foldl (fun b k=>if JA cL cs (ws.getD k 0) (ws.getD b 0) then k else b) 0]? = (ws.take (n+1)).foldl (yY cL cs) none:=by
    intro n
    induction n with
    |
     zero =>
     intro _
     have:(List.range (0+1)).foldl (fun b k=>if JA cL cs (ws.getD k 0) (ws.getD b 0) then k else b) 0=0:=by
      simp[List.range_succ,ayB]
     rw[this]
     refine⟨hlen,?_⟩
     cases ws with
     | nil=>exact absurd rfl fC
     | cons i ws=>rfl
    |
     succ n ih =>
     intro hn
     obtain⟨g1,g2⟩:=ih (by omega)
     rw[List.range_succ,List.foldl_append,List.foldl_cons,List.foldl_nil]
     generalize (List.range (n+1)).foldl (fun b k=>if JA cL cs (ws.getD k 0) (ws.getD b 0) then k else b) 0=b at *
     obtain⟨x,hx⟩:∃x,ws[n+1]? = some x:=⟨_,List.getElem?_eq_getElem hn⟩
     obtain⟨y,hy⟩:∃y,ws[b]? = some y:=⟨_,List.getElem?_eq_getElem g1⟩
     rw[List.take_add_one,hx,List.foldl_append,←g2,hy]
     simp only[Option.toList_some,List.foldl_cons,List.foldl_nil,List.getD_eq_getElem?_getD,hx,hy,Option.getD_some,yY]
     split
     ·exact⟨hn,hx⟩
     ·exact⟨g1,hy⟩
   have:=key (ws.length-1) (by omega)
   rw[show ws.length-1+1=ws.length by omega,List.take_of_length_le (Nat.le_refl _)] at this
   exact this
  ·rw[if_neg h2]
   refine⟨hlen,?_⟩
   have hb:∀i j,JA cL cs i j=false:=fun i j=>by
    unfold JA
    rw[if_neg h1,if_neg (by omega),if_neg (by omega)]
   cases ws with
   | nil=>exact absurd rfl fC
   |
    cons i ws =>
    rw[List.foldl_cons,show yY cL cs none i=some i from rfl,Tm hb]
    rfl
end
end Go.PM
namespace Go.PM
def Ur (st:List Int) (i:Nat):Bool:=decide (Hf st i<0)
def gtB (u e:Int):Bool:=decide (u<e)
section
variable {cL sP:Int} {cs:List jV} {st:List Int} {t:Int}
theorem mK.sorted (hc:mK cs):∀ {i j:Nat},i≤j→j<cs.length→MC cs i≤MC cs j:=by
 intro i j O6 hj
 induction j with
 |
  zero =>
  have:i=0:=by omega
  subst this
  exact Int.le_refl _
 |
  succ j ih =>
  rcases Nat.lt_or_ge i (j+1) with h | h
  ·have h1:=ih (by omega) (by omega)
   have hx:cs[j+1]? = some cs[j+1]:=List.getElem?_eq_getElem hj
   have hy:cs[j]? = some cs[j]:=List.getElem?_eq_getElem (by omega)
   have h2:=(hc.1 (j+1) _ hx).2 _ (by omega) (by rw[Nat.add_sub_cancel];exact hy)
   rw[Th hx]
   rw[Th hy] at h1
   omega
  ·have:i=j+1:=by omega
   subst this
   exact Int.le_refl _
theorem FX {fA:Nat} (aqG:fA≤cs.length) (past:∀i,i<fA→MC cs i≤t) (fut:∀i,fA≤i→i<cs.length→t<MC cs i):wt cs st t=(List.range fA).filter (Ur st):=by
 unfold wt
 rw[show cs.length=fA+(cs.length-fA) by omega,List.range_add,List.filter_append]
 have h1:(List.range fA).filter (isW cs st t)=(List.range fA).filter (Ur st):=by
  refine List.filter_congr fun i hi => ?_
  rw[List.mem_range] at hi
  simp[isW,Ur,past i hi]
 have h2:((List.range (cs.length-fA)).map fun x=>fA+x).filter (isW cs st t)=[]:=by
  rw[List.filter_eq_nil_iff]
  intro i hi
  obtain⟨j,hj,rfl⟩:=List.mem_map.1 hi
  rw[List.mem_range] at hj
  have:=fut (fA+j) (by omega) (by omega)
  simp only[isW,Bool.and_eq_true,decide_eq_true_eq]
  omega
 rw[h1,h2,List.append_nil]
structure Qa (cL sP:Int) (cs:List jV) (st:List Int) (t:Int) (fA:Nat) (ws:List Nat) (ends:List Int):Prop where
 len:st.length=cs.length
 low:∀i,i<cs.length → -1≤Hf st i
 high:∀i,i<cs.length→Hf st i≤t
 bd:∀i,i<cs.length→Hf st i+1000*(Ft st:Int)≤10000+1000*(cs.length:Int)
 tm : -1≤t
 N8:fA≤cs.length
 past:∀i,i<fA→MC cs i≤t
 fut:∀i,fA≤i→i<cs.length→t<MC cs i∧Hf st i<0
 wsq:ws=wt cs st t
 cnt:∀u,t≤u→ends.countP (gtB u)=bz cs st u
 ef:∀e∈ends,t<e
 eb:∀e∈ends,e+1000*(Ft st:Int)≤11000+1000*(cs.length:Int)
 fl:full cL sP cs st t
 room:ws.length+ends.length≤fA
 es:(ends.length:Int)≤sP
 run:runT cL sP cs (t+1) (100000-(t+1)).toNat st=stL cL sP cs
theorem Gl {n i:Nat} (h:i<n):Hf (List.replicate n (-1)) i = -1:=ZF (by rw[List.getElem?_replicate,if_pos h])
theorem Qa.start (hc:mK cs) (hs:1≤sP):Qa cL sP cs (List.replicate cs.length (-1)) (-1) 0 [] []:=by
 have hw:wt cs (List.replicate cs.length (-1)) (-1)=[]:=by
  rw[FX (Nat.zero_le _) (fun i hi=>by omega) fun i _ hi=>by have:=hc.bnd hi;omega]
  rfl
 have hu:Ft (List.replicate cs.length (-1))=cs.length:=by simp[Ft,List.countP_replicate]
 refine⟨by simp,fun i hi=>by rw[Gl hi];decide,fun i hi=>by rw[Gl hi];decide,fun i hi=>by rw[Gl hi,hu];omega,by decide,Nat.zero_le _,fun i hi=>by omega,fun i _ hi=>⟨by have:=hc.bnd hi;omega,by rw[Gl hi];decide⟩,hw.symm,fun u _ => ?_,fun e he=>(by cases he),fun e he=>(by cases he),.inr (wY.2 hw),Nat.le_refl _,by simp;omega,rfl⟩
 unfold bz
 rw[(List.countP_eq_zero (p:=inS cs (List.replicate cs.length (-1)) u)).2]
 ·rfl
 ·intro i hi
  rw[List.mem_range] at hi
  simp only[inS,Gl hi,Bool.and_eq_true,decide_eq_true_eq]
  omega
def Qg (w:Bool) (b e:Int):Int:=if b<0∨(w=true∧e<b) then e else b
theorem ajZ {es:List Int} {b:Int} (h:0≤b):es.foldl (Qg false) b=b:=by
 induction es with
 | nil=>rfl
 |
  cons e es ih =>
  rw[List.foldl_cons]
  have:Qg false b e=b:=by
   unfold Qg
   rw[if_neg (by simp;omega)]
  rw[this,ih]
theorem ahX:∀ {es:List Int} {b:Int},(∀e∈es,0≤e)→(es.foldl (Qg true) b=b∨es.foldl (Qg true) b∈es)∧(∀e∈es,es.foldl (Qg true) b≤e)∧(0≤b→es.foldl (Qg true) b≤b)∧(es≠[]→0≤es.foldl (Qg true) b)
 | [],b,_=>⟨.inl rfl,fun e he=>(by cases he),fun _=>Int.le_refl _,fun h=>absurd rfl h⟩
 |
  e::es,b,h=>by
  rw[List.foldl_cons]
  have h1:=h e List.mem_cons_self
  have h2:∀e'∈es,0≤e':=fun e' he=>h e' (List.mem_cons_of_mem _ he)
  have hm:(Qg true b e=b∨Qg true b e=e)∧Qg true b e≤e∧(0≤b→Qg true b e≤b)∧0≤Qg true b e:=by
   unfold Qg
   by_cases hc:b<0∨(true=true∧e<b)
   ·rw[if_pos hc]
    refine⟨.inr rfl,Int.le_refl _,fun hb => ?_,h1⟩
    rcases hc with hc | hc<;>omega
   ·rw[if_neg hc]
    simp at hc
    exact⟨.inl rfl,hc.2,fun _=>Int.le_refl _,hc.1⟩
  obtain⟨m1,m2,m3,m4⟩:=hm
  obtain⟨g1,g2,g3,g4⟩:=ahX (es:=es) (b:=Qg true b e) h2
  have g3:=g3 m4
  refine⟨?_,?_,fun hb=>by have:=m3 hb;omega,fun _ => ?_⟩
  ·rcases g1 with g1 | g1
   ·rw[g1]
    rcases m1 with m1 | m1
    ·exact .inl m1
    ·rw[m1];exact .inr List.mem_cons_self
   ·exact .inr (List.mem_cons_of_mem _ g1)
  ·intro e' he
   rcases List.mem_cons.1 he with rfl | he
   ·omega
   ·exact g2 e' he
  ·rcases g1 with g1 | g1
   ·rw[g1];exact m4
   ·exact h2 _ g1
def P3 (cs:List jV) (fA:Nat):Int:=if fA<cs.length then MC cs fA else -1
def Mk (cs:List jV) (fA:Nat) (ws:List Nat) (ends:List Int):Int:=ends.foldl (Qg (decide (0<ws.length))) (P3 cs fA)
theorem Qa.Zv {fA:Nat} {ws:List Nat} {ends:List Int} (h:Qa cL sP cs st t fA ws ends):ends.length=bz cs st t:=by
 rw[←h.cnt t (Int.le_refl _),List.countP_eq_length.2]
 intro e he
 exact decide_eq_true (h.ef e he)
theorem Qa.time {fA:Nat} {ws:List Nat} {ends:List Int} (h:Qa cL sP cs st t fA ws ends) (hc:mK cs) (hs:1≤sP) (hg:fA<cs.length∨0<ws.length) :
  (t<Mk cs fA ws ends∧Mk cs fA ws ends+1000*(Ft st:Int)≤11000+1000*(cs.length:Int))∧(∀i,fA≤i→i<cs.length→Mk cs fA ws ends≤MC cs i) ∧
   (fA<cs.length∧MC cs fA=Mk cs fA ws ends∨0<ws.length∧Mk cs fA ws ends∈ends)∧runT cL sP cs (Mk cs fA ws ends) (100000-Mk cs fA ws ends).toNat st=stL cL sP cs:=by
 have Yq:=h.tm
 have Qh:=Wu (st:=st)
 have hlen:=h.len
 have he0:∀e∈ends,0≤e:=fun e he=>by have:=h.ef e he;omega
 have awZ:=hc.2
 by_cases hw:0<ws.length
 ·have hbz:sP≤(bz cs st t:Int):=by
   rcases h.fl with hf | hf
   ·exact hf
   ·rw[wY,←h.wsq] at hf
    rw[hf] at hw
    simp at hw
  have fC:ends≠[]:=by
   intro he
   have:=h.Zv
   rw[he] at this
   simp at this
   omega
  obtain⟨g1,g2,g3,g4⟩:=ahX (es:=ends) (b:=P3 cs fA) he0
  have XG:Mk cs fA ws ends=ends.foldl (Qg true) (P3 cs fA):=by unfold Mk;rw[decide_eq_true hw]
  rw[XG]
  generalize ends.foldl (Qg true) (P3 cs fA)=w at *
  have g4:=g4 fC
  have LC:(fA<cs.length∧MC cs fA=w)∨w∈ends:=by
   rcases g1 with g1 | g1
   ·unfold P3 at g1
    split at g1
    ·rename_i oR
     exact .inl ⟨oR,g1.symm⟩
    ·omega
   ·exact .inr g1
  have htw:t<w∧w+1000*(Ft st:Int)≤11000+1000*(cs.length:Int):=by
   rcases LC with⟨h1,h2⟩ | h1
   ·have:=h.fut fA (Nat.le_refl _) h1
    have:=hc.bnd h1
    omega
   ·exact⟨h.ef _ h1,h.eb _ h1⟩
  refine⟨htw,fun i h1 h2 => ?_,LC.imp id fun h1=>⟨hw,h1⟩,?_⟩
  ·have h3:=hc.sorted h1 h2
   have h4:=hc.bnd (i:=fA) (by omega)
   have h5:P3 cs fA=MC cs fA:=by unfold P3;rw[if_pos (by omega)]
   have:=g3 (by rw[h5];omega)
   omega
  ·rw[←h.run]
   refine(VZ (by omega) (by omega) (by omega) fun u h1 h2 => .inl ?_).symm
   rw[←h.cnt u (by omega),(List.countP_eq_length (p:=gtB u)).2 fun e he=>decide_eq_true (by have:=g2 e he;omega),h.Zv]
   exact hbz
 ·have oR:fA<cs.length:=by omega
  have h5:P3 cs fA=MC cs fA:=by unfold P3;rw[if_pos oR]
  have h4:=hc.bnd oR
  have hf:=(h.fut fA (Nat.le_refl _) oR).1
  have XG:Mk cs fA ws ends=MC cs fA:=by unfold Mk;rw[decide_eq_false hw,ajZ (by rw[h5];omega),h5]
  rw[XG]
  refine⟨⟨hf,by omega⟩,fun i h1 h2=>hc.sorted h1 h2,.inl ⟨oR,rfl⟩,?_⟩
  rw[←h.run]
  refine(VZ (by omega) (by omega) (by omega) fun u h1 h2 => .inr ?_).symm
  rw[wY,FX h.N8 (fun i hi=>by have:=h.past i hi;omega) fun i h3 h4=>by have:=hc.sorted h3 h4;omega]
  have e1:=FX (st:=st) h.N8 h.past fun i h3 h4=>(h.fut i h3 h4).1
  rw[←e1,←h.wsq]
  exact List.eq_nil_of_length_eq_zero (by omega)
theorem Qa.done {fA:Nat} {ws:List Nat} {ends:List Int} (h:Qa cL sP cs st t fA ws ends) (aqG:¬fA<cs.length) (hw:¬0<ws.length):st=stL cL sP cs:=by
 rw[←h.run]
 refine(XL _ _ fun u hu => .inr ?_).symm
 have oR:=h.N8
 have e1:=FX (st:=st) h.N8 h.past fun i h3 h4=>(h.fut i h3 h4).1
 rw[wY,FX h.N8 (fun i hi=>by have:=h.past i hi;omega) fun i h3 h4=>by omega,←e1,←h.wsq]
 exact List.eq_nil_of_length_eq_zero (by omega)
structure Ph4 (cL sP:Int) (cs:List jV) (st0:List Int) (now:Int) (fA tot:Nat) (st:List Int) (ws:List Nat) (ends:List Int):Prop where
 XR:Way cs st now
 wsq:ws=wt cs st now
 cnt:∀u,now≤u→ends.countP (gtB u)=bz cs st u
 ef:∀e∈ends,now<e
 eb:∀e∈ends,e+1000*(Ft st:Int)≤11000+1000*(cs.length:Int)
 fl:fill cL sP cs now cs.length st=fill cL sP cs now cs.length st0
 past:∀i,i<fA→MC cs i≤now
 fut:∀i,fA≤i→i<cs.length→now<MC cs i∧Hf st i<0
 tot:ws.length+ends.length=tot
 es:(ends.length:Int)≤sP
theorem Cc:∀ {l:List Nat} {i k:Nat},l.Nodup→l[i]? = some k→l.eraseIdx i=l.filter (· != k)
 | [],_,_,_,h=>by cases h
 |
  x::l,0,k,hn,h=>by
  injection h with h
  subst h
  rw[List.nodup_cons] at hn
  rw[List.eraseIdx_cons_zero,List.filter_cons_of_neg (by simp),List.filter_eq_self.2]
  intro y hy
  have:y≠x:=fun he=>hn.1 (he▸hy)
  simpa using this
 |
  x::l,i+1,k,hn,h=>by
  rw[List.nodup_cons] at hn
  rw[List.getElem?_cons_succ] at h
  have hx:x≠k:=fun he=>hn.1 (he▸List.mem_of_getElem? h)
  rw[List.eraseIdx_cons_succ,List.filter_cons_of_pos (by simpa using hx),Cc hn.2 h]
theorem Ph4.step {now:Int} {st0:List Int} {fA tot:Nat} {ws:List Nat} {ends:List Int} (h:Ph4 cL sP cs st0 now fA tot st ws ends) (hc:mK cs) (hr:0≤cL∧cL≤3) (hb:(ends.length:Int)<sP) (fC:0<ws.length) :
  ∃k,ws[LW cL cs ws]? = some k∧k<cs.length∧LW cL cs ws<ws.length∧(0≤now∧now≤35000)∧Ph4 cL sP cs st0 now fA tot (st.set k now) (ws.eraseIdx (LW cL cs ws)) (ends++[now+Yy cs k]):=by
 have Xa:ws≠[]:=fun he=>by rw[he] at fC;simp at fC
 obtain⟨g1,g2⟩:=Zi (cs:=cs) Xa hr
 obtain⟨k,hk⟩:∃k,ws[LW cL cs ws]? = some k:=⟨_,List.getElem?_eq_getElem g1⟩
 have hnx:nxt cL cs st now=some k:=by
  unfold nxt
  rw[←h.wsq,←g2,hk]
 obtain⟨m1,m2,m3⟩:=Lp.1 (PC hnx)
 have Yq:=h.XR.tm
 have hle:=(h.XR.le hc).1
 have hbz:(bz cs st now:Int)=ends.length:=by
  rw[←h.cnt now (Int.le_refl _),(List.countP_eq_length (p:=gtB now)).2 fun e he=>decide_eq_true (h.ef e he)]
 have PJ:k<st.length:=by rw[h.XR.len];exact m1
 have hus:=Av (t:=now) PJ m2 Yq.1
 have hwk:=(hc.bnd m1).2
 refine⟨k,hk,m1,g1,⟨Yq.1,hle⟩,h.XR.set m1 m2,?_,?_,?_,?_,?_,h.past,?_,?_,?_⟩
 ·rw[amM h.XR.len m1 Yq.1,←h.wsq]
  exact Cc (by rw[h.wsq];exact acO) hk
 ·intro u hu
  rw[List.countP_append,h.cnt u hu,alO m1 h.XR.len m2 Yq.1,List.countP_singleton]
  congr 1
  simp only[gtB,decide_eq_true_eq]
  by_cases hq:u<now+Yy cs k
  ·rw[if_pos hq,if_pos ⟨hu,hq⟩]
  ·rw[if_neg hq,if_neg fun h'=>hq h'.2]
 ·intro e he
  rcases List.mem_append.1 he with he | he
  ·exact h.ef e he
  ·rw[List.mem_singleton] at he
   omega
 ·intro e he
  rcases List.mem_append.1 he with he | he
  ·have:=h.eb e he
   omega
  ·rw[List.mem_singleton] at he
   omega
 ·rw[XS h.XR.len Yq.1 (by rw[hbz];exact hb) hnx,h.fl]
 ·intro i h1 h2
  have h3:=h.fut i h1 h2
  refine⟨h3.1,?_⟩
  rw[GD PJ,if_neg (fun he=>by subst he;omega)]
  exact h3.2
 ·rw[List.length_eraseIdx_of_lt g1,List.length_append,List.length_cons,List.length_nil]
  have:=h.tot
  omega
 ·rw[List.length_append,List.length_cons,List.length_nil]
  omega
theorem Ph4.done {now:Int} {st0:List Int} {fA tot:Nat} {ws:List Nat} {ends:List Int} (h:Ph4 cL sP cs st0 now fA tot st ws ends) (hc:mK cs) (oR:fA≤cs.length) (ht:tot≤fA) (hf:sP≤(ends.length:Int)∨ws=[])
  (hr:runT cL sP cs now (100000-now).toNat st0=stL cL sP cs):Qa cL sP cs st now fA ws ends:=by
 have Yq:=h.XR.tm
 have hle:=(h.XR.le hc).1
 have hbz:(bz cs st now:Int)=ends.length:=by
  rw[←h.cnt now (Int.le_refl _),(List.countP_eq_length (p:=gtB now)).2 fun e he=>decide_eq_true (h.ef e he)]
 have aiO:full cL sP cs st now:=by
  rcases hf with hf | hf
  ·exact .inl (by rw[hbz];exact hf)
  ·exact .inr (wY.2 (by rw[←h.wsq];exact hf))
 refine⟨h.XR.len,h.XR.low,h.XR.high,h.XR.bd,by omega,oR,h.past,h.fut,h.wsq,h.cnt,h.ef,h.eb,aiO,by rw[h.tot];exact ht,h.es,?_⟩
 have h1:=wQ aiO cs.length
 rw[h.fl] at h1
 rw[ZZ Yq.1 (by omega),h1] at hr
 exact hr
end
end Go.PM
namespace Go.PM
theorem D9 (n:Nat) (h:n<4294967296):TC 207 [VK .u64 1,VK .u64 (n:Int)] (.eX [VK .u64 0,VK .u64 (n:Int)]):=by
 refine TC.walk ⟨true,false⟩ Gw rfl (Nat.le_of_ble_eq_true rfl) rfl rfl ?_
 have a1:dH .and (.int .u64 1) (.int .u64 4294967295)=some (.int .u64 1):=PZ 1 (by decide)
 have a2:dH .and (.int .u64 (n:Int)) (.int .u64 4294967295)=some (.int .u64 (n:Int)):=by rw[PZ n (by omega),Nat.mod_eq_of_lt h]
 have a0:dH .and (.int .u64 0) (.int .u64 4294967295)=some (.int .u64 0):=PZ 0 (by decide)
 have s1:dH .shr (.int .u64 1) (.int .u64 32)=some (.int .u64 0):=nZ 1 .u64
 have s0:dH .shr (.int .u64 0) (.int .u64 32)=some (.int .u64 0):=nZ 0 .u64
 have s2:dH .shr (.int .u64 (n:Int)) (.int .u64 32)=some (.int .u64 0):=by rw[nZ n .u64,Nat.div_eq_of_lt h];rfl
 have w0:IntKind.u64.wrap 0=0:=dW 0 (by decide)
 have wn:IntKind.u64.wrap (n:Int)=n:=dW n (by omega)
 simp only[BS,yQ,a0,a1,a2,s0,s1,s2,w0,wn,Int.one_mul,Int.zero_mul,Int.mul_zero,Int.add_zero,VX,Nat.reduceEqDiff,Nat.reduceAdd]
 exact aI rfl
theorem Gk (n:Nat) (h:n<4294967296):TC 187 [VK .u64 1,VK .u64 (n:Int)] (.eX [VK .u64 0,VK .u64 (n:Int)]):=by
 refine TC.walk ⟨true,false⟩ JB rfl (Nat.le_of_ble_eq_true rfl) rfl rfl ?_
 simp only[EG,BO,D9 n h,VX,Nat.reduceEqDiff,Nat.reduceAdd]
 exact aI rfl
end Go.PM
namespace Go.PM
section
variable {α:Type} {f:α→VV} {H:aA} {b g e lo:Nat} {X Y:List α}
theorem Sk {o:Nat}:cY (X.map f) o (Y.map f)=(X.take o++Y++X.drop (o+Y.length)).map f:=by
 simp[cY]
theorem N6 {o d cc:Nat} {y:VV} (h:aH H b g=some (X.map f,e,true)) (hy:cT e y H=some (Y.map f)) (dL:lo≤b) (ho:o+(Y.take d).length≤X.length) :
  ID lo e (.ref b g o d cc) y H=some (VI (Y.take d).length,H.set b (.row g ((X.take o++Y.take d++X.drop (o+(Y.take d).length)).map f) e true)):=by
 simp only[ID,hy,h]
 rw[←List.map_take,Sk,if_pos ⟨trivial,dL,by simpa using ho⟩,List.length_map]
end
end Go.PM
namespace Go.PM
end Go.PM
namespace Go.PM
open Go.Lib
def IP {α:Type} (f:α→VV) (e:Nat) (bE:List α) (lo hi:Nat) (H:aA) (v:VV):Prop :=
 ∃b g c,lo≤b∧b<hi∧v = .ref b g 0 bE.length c∧bE.length≤c∧aH H b g=some (bE.map f,e,true)
def TabIs {α:Type} (f:α→VV) (e:Nat) (m:List (List α)) (lo hi:Nat) (H:aA) (v:VV):Prop :=
 ∃b g c rs,v = .ref b g 0 m.length c∧m.length≤c∧MG f e lo hi b g H rs∧rs.map (·.xs)=m
theorem Ko {α:Type} {f:α→VV} {lo b k e bytes:Nat} {H:aA} {xs:List α} {x:α} (h:aH H b k=some (xs.map f,e,true)) (hk:k=xs.length) (dL:lo≤b) (he:1≤e) (hb:1≤bytes) (B7:(k+1)*bytes≤140737488355328) :
 eJ lo e bytes (.ref b k 0 k k) [f x] H=some (.ref b (k+1) 0 (k+1) (k+1),H.set b (.row (k+1) ((xs++[x]).map f) e true)):=iG h hk dL he hb B7
theorem IP.rd {α:Type} {f:α→VV} {e lo hi:Nat} {bE:List α} {H:aA} {v:VV} (h:IP f e bE lo hi H v):Rd f e bE H v:=by
 obtain⟨b,g,c,h1,h2,rfl,h3,h4⟩:=h
 exact Rd.row h4 rfl
theorem Ea {lo:Nat} {H:aA} (q:Rat) (N:Nat) (hN:N≤1000000) (dL:lo≤H.length) :
  gQ 162 [.tree [aQ q] (.cl 3),VI N] lo H fun r H'=>r = .ref H.length 0 0 N N∧H'=H++[.row 0 ((List.replicate N q).map aQ) 3 true]:=by
 refine gQ.walk ⟨true,false⟩ pW (Nat.le_of_ble_eq_true rfl) ?_
 have eM:=Gk N (by omega)
 have c1:IntKind.u64.wrap ((1:Nat):Int)=1:=dW 1 (by decide)
 have c2:IntKind.u64.wrap (N:Int)=(N:Int):=dW N (by omega)
 have c3:IntKind.i64.wrap (N:Int)=(N:Int):=wrap64 (by omega) (by omega)
 have g1:¬(N:Int)<0:=by omega
 have g2:¬(0:Int)<0:=by decide
 have g3:¬(9223372036854775807:Int)<(N:Int):=by omega
 have em:=fun H=>tZ (H:=H) (f:=id) (x:=rz) (z:=[.bool false,.slice none 0 0,.slice none 0 0]) (bytes:=56) (n:=N) rfl (by omega) (by omega)
 have s1:cT 3 (.tree [aQ q] (.cl 3)) (H++[.row 0 ((List.replicate N rz).map id) 3 true])=some ([aQ q].map id):=dQ (v:=aQ q) rfl rfl
 have r1:aH (H++[.row 0 ((List.replicate N rz).map id) 3 true]) H.length 0=some ((List.replicate N rz).map id,3,true):=by rw[wI,aS]
 have s2:=N6 (f:=id) (Y:=[aQ q]) (lo:=lo) (o:=0) (d:=N) (cc:=N) (y := .tree [aQ q] (.cl 3)) r1 s1 dL (by simp;omega)
 rw[UI] at s2
 simp only[jP,iZ,eM,c1,c2,c3,g1,g2,g3,em,s2,fW,VX,Nat.reduceEqDiff,Nat.reduceAdd,Nat.reduceLeDiff,Nat.reduceLT,Nat.reduceSub]
 refine aT (fun(i:Nat) ρ H1=>i≤N∧(i=0→N=0)∧H1=H++[.row 0 ((List.replicate i (aQ q)++List.replicate (N-i) rz).map id) 3 true]∧ρ 7 = .ref H.length 0 0 N N∧ρ 8=VI i) (fun i=>N-i) (min 1 N) ?_ ?_
 refine⟨by omega,by omega,?_,rfl,?_⟩
 ·congr 2
  cases N with
  | zero=>rfl
  |
   succ N =>
   have:min 1 (N+1)=1:=by omega
   rw[this]
   simp[List.replicate_succ]
 ·cases N with
  | zero=>rfl
  |
   succ N =>
   have:min 1 (N+1)=1:=by omega
   simp only[this,fW,VX,Nat.reduceEqDiff,Nat.reduceAdd,Nat.reduceLeDiff,Nat.reduceLT,Nat.reduceSub]
   try simp
 rintro i ρ H1 ⟨hi,h0,rfl,h7,h8⟩
 have hr:aH (H++[.row 0 ((List.replicate i (aQ q)++List.replicate (N-i) rz).map id) 3 true]) H.length 0=some ((List.replicate i (aQ q)++List.replicate (N-i) rz).map id,3,true):=by rw[wI,aS]
 have el:=fL (o:=0) (n:=N) (c:=N) hr
 by_cases dA:(i:Int)<(N:Int)
 ·have hXl:(List.replicate i (aQ q)++List.replicate (N-i) rz).length=N:=by simp;omega
  have uX:∀X:List VV,X=List.replicate i (aQ q)++List.replicate (N-i) rz→(((X.map id).drop 0).take i).all (fun x=>(aB x).all bP)=true:=by
   rintro X rfl
   rw[List.map_id,List.drop_zero,List.take_append_of_le_length (by simp),List.take_of_length_le (by simp),List.all_eq_true]
   intro x hx
   rw[List.eq_of_mem_replicate hx]
   rfl
  have q1:=MK (o:=0) (n:=N) (c:=N) (l:=i) (k1 := .i64) hr hi (Nat.le_refl _)
  have q2:=IS (o:=0) (n:=N) (c:=N) (h:=i) (k2 := .i64) hr hi
  have hY:((List.replicate i (aQ q)++List.replicate (N-i) rz).drop 0).take i=List.replicate i (aQ q):=by
   rw[List.drop_zero,List.take_append_of_le_length (by simp),List.take_of_length_le (by simp)]
  have q3:cT 3 (.ref H.length 0 0 i N) (H++[.row 0 ((List.replicate i (aQ q)++List.replicate (N-i) rz).map id) 3 true])=some ((List.replicate i (aQ q)).map id):=by
   have hs:=uX _ rfl
   simp only[cT,hr]
   rw[if_pos ⟨trivial,by rw[List.length_map,hXl];omega,hs⟩,List.map_id,List.map_id,hY]
  have hYd:(List.replicate i (aQ q)).take (N-i)=List.replicate (min (N-i) i) (aQ q):=List.take_replicate
  have q4:=N6 (f:=id) (lo:=lo) (o:=i) (d:=N-i) (cc:=N-i) hr q3 dL (by rw[hYd,hXl];simp;omega)
  rw[UI,hYd,List.length_replicate,List.take_append_of_le_length (by simp),List.take_of_length_le (by simp)] at q4
  have hX':List.replicate i (aQ q)++List.replicate (min (N-i) i) (aQ q)++(List.replicate i (aQ q)++List.replicate (N-i) rz).drop (i+min (N-i) i)=List.replicate (i+min (N-i) i) (aQ q)++List.replicate (N-(i+min (N-i) i)) rz:=by
   rw[List.replicate_append_replicate,List.drop_append,List.drop_of_length_le (by simp),List.nil_append,List.length_replicate,List.drop_replicate]
   congr 2
   omega
  rw[hX'] at q4
  have wi:IntKind.i64.wrap ((i:Int)+((min (N-i) i:Nat):Int))=((i+min (N-i) i:Nat):Int):=wrapN _ (by omega) (by omega)
  simp only[eQ,h7,h8,el,dA,q1,q2,q3,q4,wi,fW,VX,Nat.reduceEqDiff,Nat.reduceAdd,Nat.reduceLeDiff,Nat.reduceLT,Nat.reduceSub]
  exact⟨i+min (N-i) i,by omega,by omega,by omega,by (repeat' apply And.intro)<;>first | rfl | trivial | assumption⟩
 ·have oB:i=N:=by omega
  subst oB
  simp only[eQ,h7,h8,el,dA,fW,VX,Nat.reduceEqDiff,Nat.reduceAdd,Nat.reduceLeDiff,Nat.reduceLT,Nat.reduceSub]
  rw[Nat.sub_self,List.replicate_zero,List.append_nil,List.map_id,List.map_replicate]
theorem UB (a n:Nat):((List.range n).map fun k=>a+k).Nodup:=List.pairwise_map.2 (List.nodup_range.imp fun h=>by omega)
theorem Qb {lo:Nat} {H:aA} (N:Nat) (hN:N≤1000) (dL:lo≤H.length) :
  gQ 99 [VI N] lo H (GZ (TabIs aQ 3 (List.replicate N (List.replicate N (0:Rat)))) H):=by
 refine gQ.walk ⟨true,false⟩ O5 (Nat.le_of_ble_eq_true rfl) ?_
 have em:=fun H=>tZ (H:=H) (f:=id) (x := .tree [] .nil) (z:=[.slice none 0 0]) (bytes:=24) (n:=N) rfl (by omega) (by omega)
 have el0:=fL (H:=H++[.row 0 ((List.replicate N (VV.tree [] .nil)).map id) 1 true]) (b:=H.length) (g:=0) (o:=0) (n:=N) (c:=N) fN
 simp only[Kr,GV,em,el0,List.length_cons,List.length_nil,Nat.zero_add,fW,VX,Nat.reduceEqDiff,Nat.reduceAdd,Nat.reduceLeDiff,Nat.reduceLT,Nat.reduceSub]
 refine aT (fun(i:Nat) ρ H1=>i≤N∧H1=H ++ .row 0 (((List.range i).map fun k=>VV.ref (H.length+1+k) 0 0 N N)++List.replicate (N-i) (VV.tree [] TK.nil)) 1 true::List.replicate i (.row 0 ((List.replicate N (0:Rat)).map aQ) 3 true)∧ρ 0=VI N∧ρ 3 = .ref H.length 0 0 N N∧ρ 8=VI N∧ρ 9=VI i) (fun i=>N-i) 0 ⟨Nat.zero_le _,by simp,rfl,rfl,rfl,rfl⟩ ?_
 rintro i ρ H1 ⟨hi,rfl,g0,g3,g8,g9⟩
 have e1:TC 64 [VI 0] (aQ 0):=rR 0 (by decide) (by decide)
 have eL:∀H,jQ false [.bool false,.slice none 0 0,.slice none 0 0] 1 [(0,aQ 0)] H=some (.tree [aQ 0] (.cl 3),H):=fun H=>gD rfl rfl rfl
 by_cases dA:(i:Int)<(N:Int)
 ·have wi:IntKind.i64.wrap ((i:Int)+1)=((i+1:Nat):Int):=wrapN (i+1) (by omega) (by omega)
  simp only[Ab,g0,g3,g8,g9,dA,e1,eL,fW,VX,Nat.reduceEqDiff,Nat.reduceAdd,Nat.reduceLeDiff,Nat.reduceLT,Nat.reduceSub]
  refine gJ rfl ((Ea 0 N (by omega) (by rw[List.length_append];omega)).mono ?_)
  rintro r H' ⟨rfl,rfl⟩
  have hl:(H++cG.row 0 (((List.range i).map fun k=>VV.ref (H.length+1+k) 0 0 N N)++List.replicate (N-i) (VV.tree [] TK.nil)) 1 true::List.replicate i (.row 0 ((List.replicate N (0:Rat)).map aQ) 3 true)).length=H.length+1+i:=by simp;omega
  rw[hl,List.append_assoc,List.cons_append]
  have hr:aH (H++cG.row 0 (((List.range i).map fun k=>VV.ref (H.length+1+k) 0 0 N N)++List.replicate (N-i) (VV.tree [] TK.nil)) 1 true::(List.replicate i (.row 0 ((List.replicate N (0:Rat)).map aQ) 3 true)++[.row 0 ((List.replicate N (0:Rat)).map aQ) 3 true])) H.length 0=some ((((List.range i).map fun k=>VV.ref (H.length+1+k) 0 0 N N)++List.replicate (N-i) (VV.tree [] TK.nil)),1,true):=by rw[wI,aS]
  have a1:=bD (o:=0) (n:=N) (c:=N) (i:=i) (k := .i64) hr (by omega)
  have a2:=bU (lo:=lo) (v := .ref (H.length+1+i) 0 0 N N) (j:=i) hr (by simp;omega) dL rfl rfl
  rw[UI,List.set_cons_zero] at a2
  have hs:(((List.range i).map fun k=>VV.ref (H.length+1+k) 0 0 N N)++List.replicate (N-i) (VV.tree [] TK.nil)).set i (.ref (H.length+1+i) 0 0 N N)=((List.range (i+1)).map fun k=>VV.ref (H.length+1+k) 0 0 N N)++List.replicate (N-(i+1)) (VV.tree [] TK.nil):=by
   obtain⟨m,hm⟩:∃m,N-i=m+1:=⟨N-i-1,by omega⟩
   have hm':N-(i+1)=m:=by omega
   rw[List.set_append_right _ _ (by simp),hm,hm',List.length_map,List.length_range,Nat.sub_self,List.replicate_succ,List.set_cons_zero,List.range_succ,List.map_append,List.append_assoc]
   rfl
  rw[hs] at a2
  rw[Nat.zero_add] at a1
  simp only[a1,a2,wi,g9,fW,VX,Nat.reduceEqDiff,Nat.reduceAdd,Nat.reduceLeDiff,Nat.reduceLT,Nat.reduceSub]
  exact⟨i+1,by omega,by omega,by rw[List.replicate_succ'],by (repeat' apply And.intro)<;>first | rfl | trivial | assumption⟩
 ·have oB:i=N:=by omega
  subst oB
  simp only[Ab,g3,g8,g9,dA,fW,VX,Nat.reduceEqDiff,Nat.reduceAdd,Nat.reduceLeDiff,Nat.reduceLT,Nat.reduceSub]
  refine⟨List.prefix_append _ _,H.length,0,i,(List.range i).map fun k=>⟨H.length+1+k,0,i,List.replicate i 0⟩,by rw[List.length_replicate],by rw[List.length_replicate];exact Nat.le_refl _,⟨?_,Nat.le_refl _,by simp,?_,?_⟩,?_⟩
  ·rw[wI,aS,Nat.sub_self,List.replicate_zero,List.append_nil,List.map_map]
   simp[nC,Function.comp_def]
  ·rw[List.map_map]
   exact UB (H.length+1) i
  ·intro r hr
   obtain⟨k,hk,rfl⟩:=List.mem_map.1 hr
   rw[List.mem_range] at hk
   refine⟨by simp only;omega,by simp;omega,by simp only;omega,by simp,?_⟩
   have:H.length+1+k=H.length+(k+1):=by omega
   simp only[this]
   rw[Pg,iM,cH,List.getElem?_replicate,if_pos hk]
  ·rw[List.map_map]
   apply List.ext_getElem?
   intro k
   rw[List.getElem?_map,List.getElem?_replicate]
   by_cases hk:k<i
   ·simp[hk,List.getElem?_range]
   ·simp[hk]
theorem Nf {lo:Nat} {H:aA} {v:VV} (qs:List Rat) (d:Rat) (hd:d≠0) (hv:Rd aQ 3 qs H v) (dL:lo≤H.length) (hn:qs.length≤1000000) (hb:∀q∈qs,aZ q≤1099511627776) (hdk:aZ d≤1099511627776) :
  gQ 149 [v,aQ d] lo H (GZ (IP aQ 3 (qs.map (· / d))) H):=by
 refine gQ.walk ⟨true,false⟩ MT (Nat.le_of_ble_eq_true rfl) ?_
 have e0:∀K,jQ false [.bool false,.slice none 0 0,.slice none 0 0] 0 [] K=some (.ref K.length 0 0 0 0,K++[.row 0 [] 3 true]):=fun K=>iC rfl
 have e1:=hv.len _ (List.prefix_append H [.row 0 [] 3 true])
 simp only[IE,Er,e0,e1,aF,dD,dK,aU,aV,aO,fW,VX,Nat.reduceEqDiff,Nat.reduceAdd,Nat.reduceLeDiff,Nat.reduceLT,Nat.reduceSub]
 refine aT (fun(i:Nat) ρ H1=>i≤qs.length∧H <+: H1∧aH H1 H.length i=some (((qs.take i).map (· / d)).map aQ,3,true)∧ρ 3 = .cU (aQ d) 0∧ρ 5 = .ref H.length i 0 i i∧ρ 9=v∧ρ 10=VI qs.length∧ρ 11=VI i) (fun i=>qs.length-i) 0 ⟨Nat.zero_le _,List.prefix_append _ _,by rw[wI,aS];rfl,rfl,rfl,rfl,rfl,rfl⟩ ?_
 rintro i ρ H1 ⟨hi,hp,kD,g3,g5,g9,g10,g11⟩
 have Bk:=fR kD
 by_cases dA:(i:Int)<(qs.length:Int)
 ·obtain⟨q,hq⟩:∃q,qs[i]? = some q:=⟨_,List.getElem?_eq_getElem (by omega)⟩
  obtain⟨p,a1,a2⟩:=hv.get H1 hp i q hq
  have a2':=(a2 true).trans (dK _)
  have wi:IntKind.i64.wrap ((i:Int)+1)=((i+1:Nat):Int):=wrapN (i+1) (by omega) (by omega)
  have e3:=Jo q d hd (hb q (List.mem_of_getElem? hq)) hdk
  have eL:∀H,jQ false [.bool false,.slice none 0 0,.slice none 0 0] 1 [(0,aQ (q / d))] H=some (.tree [aQ (q / d)] (.cl 3),H):=fun H=>gD rfl rfl rfl
  have eS:∀H,cT 3 (.tree [aQ (q / d)] (.cl 3)) H=some [aQ (q / d)]:=fun H=>dQ rfl rfl
  have eP:eJ lo 3 56 (.ref H.length i 0 i i) [aQ (q / d)] (H1++[cG.row 0 [aQ q] 3 true])=some (.ref H.length (i+1) 0 (i+1) (i+1),(H1++[cG.row 0 [aQ q] 3 true]).set H.length (.row (i+1) (((qs.take (i+1)).map (· / d)).map aQ) 3 true)):=by
   rw[iG (f:=aQ) (xs:=(qs.take i).map (· / d)) (bS kD) (by simp;omega) dL (by decide) (by decide) (by omega),gV hq]
   simp only[List.map_append]
   rfl
  have s1:=AL (lo:=lo) (H:=H1) (q:=q) (by omega)
  have s2:=JU (H:=H1) (K:=[]) (q:=q)
  simp only[xP,g3,g5,g9,g10,g11,dA,a1,a2',e3,eL,eS,eP,s1,s2,wi,dK,fW,VX,Nat.reduceEqDiff,Nat.reduceAdd,Nat.reduceLeDiff,Nat.reduceLT,Nat.reduceSub]
  exact⟨i+1,by omega,by omega,kQ (jN hp) (Nat.le_refl _),cA (bS kD),by (repeat' apply And.intro)<;>first | rfl | trivial | assumption⟩
 ·have oB:i=qs.length:=by omega
  subst oB
  rw[List.take_length] at kD
  simp only[xP,g5,g10,g11,dA,fW,VX,Nat.reduceEqDiff,Nat.reduceAdd,Nat.reduceLeDiff,Nat.reduceLT,Nat.reduceSub]
  exact⟨hp,H.length,qs.length,qs.length,Nat.le_refl _,Bk,by rw[List.length_map],by rw[List.length_map];exact Nat.le_refl _,kD⟩
end Go.PM
namespace Go.PM
structure apJ (s:J6):Prop where
 b4:s.b.length≤400000000
 e4:s.e.length≤400000000
 g4:s.g.length≤400000000∧∀x∈s.g,x.length≤400000000
 bs:∀x∈s.b,x.size≤1000000000
 es:∀x∈s.e,x.size≤1000000000
 gs:∀x∈s.g,∀y∈x,y.size≤1000000000
theorem apJ.g9 {s:J6} (h:apJ s):s.g.length≤1000000000∧∀x∈s.g,x.length≤1000000000:=⟨by have:=h.g4.1;omega,fun x hx=>by have:=h.g4.2 x hx;omega⟩
end Go.PM
namespace Go.PM
def qS {β:Type} (k:Int):List (List β)→List (List ByteArray)
 | []=>[]
 | x::xs=>lD k x.length::qS (k+x.length) xs
def cW {β:Type} (xs:List (List β)):Nat:=(xs.map List.length).sum
section
variable {β:Type}
theorem Md (xs:List (List β)) (k:Int):(qS k xs).length=xs.length:=by
 induction xs generalizing k with
 | nil=>rfl
 | cons x xs ih=>simp[qS,ih]
theorem IW {xs:List (List β)} {i:Nat} {x:List β} (h:xs[i]? = some x):cW (xs.take (i+1))=cW (xs.take i)+x.length:=by
 rw[List.take_add_one,h]
 simp[cW]
theorem Fb {xs:List (List β)} {i:Nat} {x:List β} {k:Int} (h:xs[i]? = some x):(qS k xs)[i]? = some (lD (k+cW (xs.take i)) x.length):=by
 induction xs generalizing i k with
 | nil=>cases h
 |
  cons y ys ih =>
  cases i with
  | zero=>injection h with h;subst h;simp[qS,cW]
  |
   succ i =>
   simp only[qS,List.getElem?_cons_succ] at h ⊢
   rw[ih h]
   simp only[List.take_succ_cons,cW,List.map_cons,List.sum_cons,Int.natCast_add]
   rw[Int.add_assoc]
theorem Nx {xs:List (List β)} (i:Nat):cW (xs.take i)≤cW xs:=by
 induction xs generalizing i with
 | nil=>simp[cW]
 |
  cons x xs ih =>
  cases i with
  | zero=>simp[cW]
  |
   succ i =>
   have:=ih i
   simp only[List.take_succ_cons,cW,List.map_cons,List.sum_cons] at this ⊢
   omega
end
theorem DZ (k:Int) (xs:List (List ByteArray)) (hk:0≤k∧k≤10000000) (hn:xs.length≤10000000) (ht:cW xs≤10000000):TC 74 [sX (qS k xs),VI k] (VI (k+cW xs)):=by
 refine TC.walk ⟨true,false⟩ D1 rfl (Nat.le_of_ble_eq_true rfl) (HX (Bo _) rfl) rfl ?_
 simp only[yS,vV,VX,Nat.reduceEqDiff,Nat.reduceAdd]
 refine aT (fun(i:Nat) ρ H=>i≤xs.length∧H=[]∧ρ 0=sX (qS k xs)∧ρ 1=VI (k+cW (xs.take i))∧ρ 5=VI i) (fun i=>xs.length-i) 0 ⟨Nat.zero_le _,rfl,rfl,by simp only[VX,Nat.reduceEqDiff,Nat.reduceAdd];simp[cW],rfl⟩ ?_
 rintro i ρ H ⟨hi,rfl,h0,h1,h5⟩
 have hlen:=Md xs k
 by_cases dA:(i:Int)<(xs.length:Int)
 ·obtain⟨x,hx⟩:∃x,xs[i]? = some x:=⟨_,List.getElem?_eq_getElem (by omega)⟩
  have e1:=aL (f:=qC) (t := .op) (H:=[]) (size:=1) (k := .i64) (Fb (k:=k) hx) rfl
  have l1:=IW hx
  have l2:=Nx (xs:=xs) (i+1)
  have e3:=EX (k+cW (xs.take i)) x.length (by omega) (by omega)
  have oV:¬(k+(cW (xs.take i):Int)+(x.length:Int))<0:=by omega
  have wi:IntKind.i64.wrap ((i:Int)+1)=((i+1:Nat):Int):=wrapN (i+1) (by omega) (by omega)
  simp only[oJ,h0,h1,h5,dA,e1,e3,wi,hlen,oV,eq_self,VX,Nat.reduceEqDiff,Nat.reduceAdd]
  refine⟨i+1,by omega,by omega,?_⟩
  rw[l1,Int.natCast_add,←Int.add_assoc]
  (repeat' apply And.intro)<;>first | rfl | trivial
 ·have oB:i=xs.length:=by omega
  subst oB
  simp only[oJ,h0,h1,h5,dA,hlen,VX,Nat.reduceEqDiff,Nat.reduceAdd]
  rw[List.take_of_length_le (Nat.le_refl _)]
  exact aI rfl
theorem D6 {lo b g c:Nat} {H:aA} (rs:List (vC ByteArray)) (k:Int) (hr:aH H b g=some (rs.map nC,1,true)) (hR:N9 sV 1 lo H.length b H rs) (dL:lo≤b) (hk:0≤k∧k≤10000000) (hn:rs.length≤10000000) (ht:cW (rs.map (·.xs))≤10000000) :
  gQ 21 [.ref b g 0 rs.length c,VI k] lo H fun r H'=>r=VI (k+cW (rs.map (·.xs)))∧H'.length=H.length∧(∀b' g' x,(∀r∈rs,r.b≠b')→aH H b' g'=some x→aH H' b' g'=some x) ∧
   ∀i r,rs[i]? = some r→aH H' r.b r.g=some ((lD (k+cW ((rs.map (·.xs)).take i)) r.xs.length).map sV,1,true):=by
 refine gQ.walk ⟨true,false⟩ vQ (Nat.le_of_ble_eq_true rfl) ?_
 simp only[sA,pS,VX,Nat.reduceEqDiff,Nat.reduceAdd]
 refine aT (fun(i:Nat) ρ H1=>i≤rs.length∧H1.length=H.length∧(∀b' g' x,(∀r∈rs,r.b≠b')→aH H b' g'=some x→aH H1 b' g'=some x) ∧
   (∀j r,rs[j]? = some r→aH H1 r.b r.g=some ((if j<i then lD (k+cW ((rs.map (·.xs)).take j)) r.xs.length else r.xs).map sV,1,true))∧ρ 0 = .ref b g 0 rs.length c∧ρ 1=VI (k+cW ((rs.map (·.xs)).take i))∧ρ 5=VI i) (fun i=>rs.length-i) 0
  ⟨Nat.zero_le _,rfl,fun _ _ _ _ h=>h,fun j r h=>by rw[if_neg (by omega)];exact(hR.row r (List.mem_of_getElem? h)).2.2.2.2,rfl,by simp only[VX,Nat.reduceEqDiff,Nat.reduceAdd];simp[cW],rfl⟩ ?_
 rintro i ρ H1 ⟨hi,hH1,hold,acV,h0,h1,h5⟩
 have hR1:=hold b g _ (fun r hr=>(hR.row r hr).2.2.1) hr
 have el:=fL (o:=0) (n:=rs.length) (c:=c) hR1
 by_cases dA:(i:Int)<(rs.length:Int)
 ·obtain⟨r,TI⟩:∃r,rs[i]? = some r:=⟨_,List.getElem?_eq_getElem (by omega)⟩
  have Ct:=hR.row r (List.mem_of_getElem? TI)
  have hxi:(rs.map (·.xs))[i]? = some r.xs:=by simp[TI]
  have l1:=IW hxi
  have l2:=Nx (xs:=rs.map (·.xs)) (i+1)
  have e1:=bD (o:=0) (n:=rs.length) (c:=c) (i:=i) (k := .i64) hR1 (by omega)
  have e2:cE false 1 (.ptr b g i 0) H1=some (nC r):=by rw[pD (f:=nC) hR1 TI];rfl
  have wi:IntKind.i64.wrap ((i:Int)+1)=((i+1:Nat):Int):=wrapN (i+1) (by omega) (by omega)
  simp only[kX,h0,h1,h5,dA,el,e1,e2,Nat.zero_add,VX,Nat.reduceEqDiff,Nat.reduceAdd]
  have kD:=acV i r TI
  rw[if_neg (by omega)] at kD
  refine gJ rfl ((Fs r.xs _ kD (Nat.le_refl _) Ct.1 (by omega) (by omega)).mono ?_)
  rintro v H2 ⟨rfl,rfl⟩
  simp only[h5,wi,VX,Nat.reduceEqDiff,Nat.reduceAdd]
  refine⟨i+1,by omega,by omega,by simpa using hH1,fun b' g' x uD h=>cF (uD r (List.mem_of_getElem? TI)) (hold b' g' x uD h),fun j r' hj => ?_,h0,?_,rfl⟩
  ·by_cases Ht:j=i
   ·subst Ht
    rw[TI] at hj
    injection hj with hj
    subst hj
    rw[if_pos (by omega),cA kD,List.drop_length,List.append_nil]
   ·have fC:r.b≠r'.b:=fun he=>Ht (by
     have h1:(rs.map (·.b))[i]? = some r.b:=by simp[TI]
     have h2:(rs.map (·.b))[j]? = some r.b:=by simp[hj,he]
     exact QY hR.nd h2 h1)
    rw[cF fC (acV j r' hj)]
    by_cases bH:j<i
    ·rw[if_pos bH,if_pos (by omega)]
    ·rw[if_neg bH,if_neg (by omega)]
  ·rw[l1,Int.natCast_add,←Int.add_assoc]
 ·have oB:i=rs.length:=by omega
  subst oB
  simp only[kX,h0,h1,h5,dA,el,VX,Nat.reduceEqDiff,Nat.reduceAdd]
  rw[List.take_of_length_le (by simp)]
  refine⟨rfl,hH1,hold,fun j r hj => ?_⟩
  have:=acV j r hj
  rw[if_pos (List.getElem?_eq_some_iff.1 hj).1] at this
  exact this
theorem Cr {lo:Nat} {H:aA} (k:Int):gQ 21 [.tree [] .nil,VI k] lo H fun r H'=>r=VI k∧H'=H:=by
 refine gQ.walk ⟨true,false⟩ vQ (Nat.le_of_ble_eq_true rfl) ?_
 simp only[sA,pS,VX,Nat.reduceEqDiff,Nat.reduceAdd]
 refine aT (fun(_:Unit) ρ H1=>H1=H∧ρ 0 = .tree [] .nil∧ρ 1=VI k∧ρ 5=VI 0) (fun _=>0) () ⟨rfl,rfl,rfl,rfl⟩ ?_
 rintro _ ρ H1 ⟨rfl,h0,h1,h5⟩
 simp only[kX,h0,h1,h5,List.length_nil,Int.natCast_zero,Int.lt_irrefl,Int.reduceLT,VX,Nat.reduceEqDiff,Nat.reduceAdd]
theorem afT {lo hi gP:Nat} {bE:List (List ByteArray)} {H:aA} {v:VV} {k:Int} {K:VV→aA→Prop} (hv:RG sV 1 bE lo hi H v) (dL:gP≤lo) (hk:0≤k∧k≤10000000) (hn:bE.length≤10000000) (ht:cW bE≤10000000)
  (hK:∀H',H'.length=H.length→RG sV 1 (qS k bE) lo hi H' v→(∀b g x,b<lo∨hi≤b→aH H b g=some x→aH H' b g=some x)→K (VI (k+cW bE)) H') :
  cQ 21 [v,VI k] gP H K:=by
 rcases hv with⟨rfl,rfl⟩ | ⟨b,g,c,rs,h1,h2,rfl,h4,h5,rfl,h7⟩
 ·refine gJ rfl ((Cr k).mono ?_)
  rintro r H' ⟨rfl,rfl⟩
  have:=hK H' rfl (.inl ⟨rfl,rfl⟩) fun _ _ _ _ h=>h
  simpa[cW] using this
 ·have h7':N9 sV 1 gP H.length b H rs:=⟨h7.nd,fun r hr=>⟨Nat.le_trans dL (h7.row r hr).1,fR (h7.row r hr).2.2.2.2,(h7.row r hr).2.2⟩⟩
  rw[List.length_map] at h4 hn ⊢
  refine gJ rfl ((D6 (lo:=gP) (c:=c) rs k h5 h7' (Nat.le_trans dL h1) hk hn ht).mono ?_)
  rintro r H' ⟨rfl,hl,hold,rQ⟩
  refine hK _ hl ?_ fun b' g' x uD h=>hold b' g' x (fun r hr=>by have:=h7.row r hr;omega) h
  have TI:∀i,i<rs.length→∃r,rs[i]? = some r:=fun i hi=>⟨_,List.getElem?_eq_getElem hi⟩
  have hml:(qS k (rs.map (·.xs))).length=rs.length:=by rw[Md,List.length_map]
  let Wj:List (vC ByteArray):=rs.zipWith (fun r x=>{ r with xs:=x }) (qS k (rs.map (·.xs)))
  have rK:∀(i:Nat) (r:vC ByteArray),rs[i]? = some r→Wj[i]? = some { r with xs:=lD (k+cW ((rs.map (·.xs)).take i)) r.xs.length }:=fun i r hr=>by
   have hm:=Fb (k:=k) (xs:=rs.map (·.xs)) (i:=i) (x:=r.xs) (by simp[hr])
   show (List.zipWith _ _ _)[i]? = _
   rw[List.getElem?_zipWith,hr,hm]
  have BL:Wj.length=rs.length:=by simp[Wj,hml]
  have hex:∀ {γ:Type} (F G:vC ByteArray→γ),(∀(i:Nat) (r:vC ByteArray),rs[i]? = some r→F { r with xs:=lD (k+cW ((rs.map (·.xs)).take i)) r.xs.length }=G r)→Wj.map F=rs.map G:=fun F G hFG=>by
   apply List.ext_getElem?
   intro i
   rcases Nat.lt_or_ge i rs.length with h | h
   ·obtain⟨r,hr⟩:=TI i h
    rw[List.getElem?_map,List.getElem?_map,rK i r hr,hr]
    simp only[Option.map_some,hFG i r hr]
   ·rw[List.getElem?_eq_none (by rw[List.length_map,BL];exact h),List.getElem?_eq_none (by rw[List.length_map];exact h)]
  have atQ:Wj.map (·.b)=rs.map (·.b):=hex _ _ fun _ _ _=>rfl
  have UD:Wj.map nC=rs.map nC:=hex _ _ fun i r _=>by simp[nC,RW]
  have auL:Wj.map (·.xs)=qS k (rs.map (·.xs)):=by
   apply List.ext_getElem?
   intro i
   rcases Nat.lt_or_ge i rs.length with h | h
   ·obtain⟨r,hr⟩:=TI i h
    rw[List.getElem?_map,rK i r hr,Fb (x:=r.xs) (by simp[hr])]
    rfl
   ·rw[List.getElem?_eq_none (by rw[List.length_map,BL];exact h),List.getElem?_eq_none (by rw[hml];exact h)]
  refine .inr ⟨b,g,c,Wj,h1,h2,by rw[hml,List.length_map],by rw[hml];exact h4,?_,auL,by rw[atQ];exact h7.nd,fun r' Ef => ?_⟩
  ·rw[UD]
   exact hold _ _ _ (fun r hr=>(h7.row r hr).2.2.1) h5
  ·obtain⟨i,hi⟩:=List.getElem?_of_mem Ef
   obtain⟨r,hr⟩:=TI i (by rw[←BL];exact(List.getElem?_eq_some_iff.1 hi).1)
   rw[rK i r hr] at hi
   injection hi with hi
   subst hi
   have hm:=h7.row r (List.mem_of_getElem? hr)
   exact⟨hm.1,hm.2.1,hm.2.2.1,by rw[xB];exact hm.2.2.2.1,rQ i r hr⟩
theorem K7 (xs ys:List (List ByteArray)) (hn:xs.length≤1000000000) (Uy:∀x∈xs,x.length≤1000000000):TC 19 [ZT xs,ZT ys] (VB (decide (xs=ys))):=by
 refine TC.walk ⟨true,false⟩ KY rfl (Nat.le_of_ble_eq_true rfl) (HX (Aq _) (Aq _)) rfl ?_
 have e1:=FO xs ys hn Uy
 by_cases h:xs=ys
 ·rw[decide_eq_true h] at e1 ⊢
  simp only[Bx,xZ,e1,OU,VX,Nat.reduceEqDiff,Nat.reduceAdd]
  exact aI rfl
 ·rw[decide_eq_false h] at e1 ⊢
  simp only[Bx,xZ,e1,OU,VX,Nat.reduceEqDiff,Nat.reduceAdd]
  exact aI rfl
theorem G9 (k:Int) (xs:List (List ByteArray)) (hk:0≤k∧k≤10000000) (hn:xs.length≤10000000) (ht:cW xs≤10000000):TC 23 [ZT (qS k xs),VI k] (VI (k+cW xs)):=by
 refine TC.walk ⟨true,false⟩ HD rfl (Nat.le_of_ble_eq_true rfl) (HX (Aq _) rfl) rfl ?_
 have e1:=DZ k xs hk hn ht
 have h:¬(k+(cW xs:Int))<0:=by omega
 simp only[Cu,AA,e1,OU,h,VX,Nat.reduceEqDiff,Nat.reduceAdd]
 exact aI rfl
theorem aeQ {lo hi gP:Nat} {bE:List (List ByteArray)} {H:aA} {v:VV} {k:Int} {K:VV→aA→Prop} (hv:CG bE lo hi H v) (dL:gP≤lo) (hk:0≤k∧k≤10000000) (hn:bE.length≤10000000) (ht:cW bE≤10000000)
  (hK:∀H',H'.length=H.length→CG (qS k bE) lo hi H' v→(∀b g x,b<lo∨hi≤b→aH H b g=some x→aH H' b g=some x)→K (VI (k+cW bE)) H') :
  cQ 22 [v,VI k] gP H K:=by
 obtain⟨c,rfl,hv⟩:=hv
 refine gJ rfl (gQ.walk ⟨true,false⟩ Hc (Nat.le_of_ble_eq_true rfl) ?_)
 simp only[Dj,AH,PU,List.getElem?_cons_zero,VX,Nat.reduceEqDiff,Nat.reduceAdd]
 have Zr:aB c=[c]∧bP c=true:=by
  rcases hv with⟨rfl,rfl⟩ | ⟨b,g,c,rs,h1,h2,rfl,h3⟩<;>exact⟨rfl,rfl⟩
 simp only[Zr.2,List.all_cons,List.all_nil,E1,PU,List.getElem?_cons_zero,VX,Nat.reduceEqDiff,Nat.reduceAdd]
 refine afT hv dL hk hn ht fun H' h1 h2 h3 => ?_
 simp only[VX,Nat.reduceEqDiff,Nat.reduceAdd]
 exact hK H' h1 ⟨c,rfl,h2⟩ h3
def svN (s:J6):Nat:=s.b.length+cW s.g+s.e.length
theorem S4.cell {α:Type} {f:α→VV} {e lo hi:Nat} {H:aA} {v:VV} {bE:List α} (h:S4 f e bE lo hi H v):bP v=true:=by
 rcases h with⟨rfl,rfl⟩ | ⟨b,g,c,h1,h2,rfl,h3⟩<;>rfl
theorem RG.cell {α:Type} {f:α→VV} {e lo hi:Nat} {H:aA} {v:VV} {bE:List (List α)} (h:RG f e bE lo hi H v):bP v=true:=by
 rcases h with⟨rfl,rfl⟩ | ⟨b,g,c,rs,h1,h2,rfl,h3⟩<;>rfl
end Go.PM
namespace Go.PM
open Go.Lib
section
variable {α:Type} {f:α→VV} {e:Nat}
def OB (f:α→VV) (e:Nat) (bE:List (List α)) (lo hi:Nat) (H:aA) (v:VV):Prop :=
 (v = .tree [] .nil∧bE=[])∨∃b g rs,lo≤b∧b<hi∧v = .ref b g 0 bE.length bE.length∧aH H b g=some (rs.map nC,1,true)∧rs.map (·.xs)=bE∧N9 f e lo hi b H rs
theorem OB.rg {bE:List (List α)} {lo hi:Nat} {H:aA} {v:VV} (h:OB f e bE lo hi H v):RG f e bE lo hi H v:=by
 rcases h with h | ⟨b,g,rs,h1,h2,h3,h5,h6,h7⟩
 ·exact .inl h
 ·exact .inr ⟨b,g,_,rs,h1,h2,h3,Nat.le_refl _,h5,h6,h7⟩
theorem OB.cK {bE:List (List α)} {lo hi:Nat} {H H':aA} {v:VV} (h:OB f e bE lo hi H v) (hk:dI lo hi H H'):OB f e bE lo hi H' v:=by
 rcases h with h | ⟨b,g,rs,h1,h2,h3,h5,h6,h7⟩
 ·exact .inl h
 ·exact .inr ⟨b,g,rs,h1,h2,h3,hk _ _ _ h1 h2 h5,h6,h7.nd,fun r hr=>by
   obtain⟨k1,k2,k3,k4,k5⟩:=h7.row r hr
   exact⟨k1,k2,k3,k4,hk _ _ _ k1 k2 k5⟩⟩
theorem OB.wide {bE:List (List α)} {lo hi gP mC:Nat} {H:aA} {v:VV} (h:OB f e bE lo hi H v) (hl:gP≤lo) (hh:hi≤mC):OB f e bE gP mC H v:=by
 rcases h with h | ⟨b,g,rs,h1,h2,h3,h5,h6,h7⟩
 ·exact .inl h
 ·exact .inr ⟨b,g,rs,by omega,by omega,h3,h5,h6,h7.nd,fun r hr=>by
   obtain⟨k1,k2,k3,k4,k5⟩:=h7.row r hr
   exact⟨by omega,by omega,k3,k4,k5⟩⟩
theorem OB.fT {bE:List (List α)} {lo hi:Nat} {H:aA} {v:VV} (h:OB f e bE lo hi H v):bP v=true∧aB v=[v]∧isAny v=false:=by
 rcases h with⟨rfl,rfl⟩ | ⟨b,g,rs,h1,h2,rfl,h3⟩<;>exact⟨rfl,rfl,rfl⟩
theorem OB.alW {bE:List (List α)} {lo hi:Nat} {H:aA} {v:VV} (h:OB f e bE lo hi H v):oK v H=some (VI bE.length):=by
 rcases h with⟨rfl,rfl⟩ | ⟨b,g,rs,h1,h2,rfl,h5,h6,h7⟩
 ·rfl
 ·exact fL h5
theorem OB.snoc {bE:List (List α)} {lo gP hi:Nat} {H:aA} {v:VV} (h:OB f e bE lo hi H v) (dL:gP≤lo) (hn:bE.length≤1000000000) (r:vC α) (hhi:hi≤r.b) (Ae:lo≤r.b) (hc:r.xs.length≤r.c) (hr:aH H r.b r.g=some (r.xs.map f,e,true)) :
  ∃v' H3,eJ gP 1 24 v [.ref r.b r.g 0 r.xs.length r.c] H=some (v',H3)∧OB f e (bE++[r.xs]) lo H3.length H3 v'∧(∀b' g' x,b'<lo→aH H b' g'=some x→aH H3 b' g'=some x)∧H.length≤H3.length ∧
   (∀n,n≤lo→BG n H→BG n H3)∧(∀H0:aA,H0.length≤lo→H0 <+: H→H0 <+: H3)∧(∀b' g' x,aH H b' g'=some x→(∀g0 n0 c0,v ≠ .ref b' g0 0 n0 c0)→aH H3 b' g'=some x):=by
 have hb:=fR hr
 rcases h with⟨rfl,rfl⟩ | ⟨b,g,rs,h1,h2,rfl,h5,h6,h7⟩
 ·refine⟨.ref H.length 0 0 1 1,H++[.row 0 [nC r] 1 true],by simp[eJ,nC],.inr ⟨H.length,0,[r],by omega,by simp,rfl,fN,rfl,by simp,fun s hs => ?_⟩,fun _ _ _ _ h=>bS h,by simp,fun n hn hO=>hO.app (by simp[oA,fB,nC];omega),fun H0 _ hp=>jN hp,fun _ _ _ h _=>bS h⟩
  rw[List.mem_singleton] at hs
  subst hs
  exact⟨Ae,by simp;omega,by omega,hc,bS hr⟩
 ·subst h6
  rw[List.length_map] at hn ⊢
  have sW:=iG (f:=nC) (xs:=rs) (x:=r) (lo:=gP) (bytes:=24) h5 rfl (by omega) (by decide) (by decide) (by omega)
  refine⟨_,_,sW,.inr ⟨b,g+1,rs++[r],h1,by rw[List.length_set];exact fR h5,by simp,cA h5,by simp,?_,fun s hs => ?_⟩,fun b' g' x uD h=>cF (by omega) h,by simp,fun n hn hO=>hO.set (by omega) ?_,fun H0 hl hp=>kQ hp (by omega),fun b' g' x h fC=>cF (fun he=>fC g _ _ (by rw[he])) h⟩
  ·rw[List.map_append,List.nodup_append]
   refine⟨h7.nd,by simp,fun a ha c UM => ?_⟩
   obtain⟨s,hs,rfl⟩:=List.mem_map.1 ha
   have:=h7.row s hs
   simp only[List.map_cons,List.map_nil,List.mem_singleton] at UM
   omega
  ·rcases List.mem_append.1 hs with hs | hs
   ·obtain⟨k1,k2,k3,k4,k5⟩:=h7.row s hs
    exact⟨k1,by rw[List.length_set];exact fR k5,k3,k4,cF (by omega) k5⟩
   ·rw[List.mem_singleton] at hs
    subst hs
    exact⟨Ae,by rw[List.length_set];exact hb,by omega,hc,cF (by omega) hr⟩
  ·rw[Dt]
   intro x hx
   obtain⟨s,hs,rfl⟩:=List.mem_map.1 hx
   rcases List.mem_append.1 hs with hs | hs
   ·have:=h7.row s hs
    simp[nC,fB];omega
   ·rw[List.mem_singleton] at hs
    subst hs
    simp[nC,fB];omega
end
def Yv {α:Type} (f:α→VV) (e:Nat) (o:Option (List α)) (lo hi:Nat) (H:aA) (v:VV):Prop:=match o with
 | none=>v = .tree [] .nil
 | some ys=>IP f e ys lo hi H v
theorem IP.cK {α:Type} {f:α→VV} {e:Nat} {ys:List α}:∀ {lo hi H H' v},IP f e ys lo hi H v→dI lo hi H H'→IP f e ys lo hi H' v:=by
 rintro lo hi H H' v ⟨b,g,c,h1,h2,h3,h4,h5⟩ hk
 exact⟨b,g,c,h1,h2,h3,h4,hk _ _ _ h1 h2 h5⟩
theorem Yv.cK {α:Type} {f:α→VV} {e:Nat} {o:Option (List α)}:∀ {lo hi H H' v},Yv f e o lo hi H v→dI lo hi H H'→Yv f e o lo hi H' v:=by
 intro lo hi H H' v h hk
 cases o with
 | none=>exact h
 | some ys=>exact IP.cK h hk
theorem F8 {n n':Nat} {L:aA} (h:n≤n') (hL:eK n' L=true):eK n L=true:=by
 unfold eK at hL ⊢
 rw[List.all_eq_true] at hL ⊢
 intro x hx
 have:=hL x hx
 cases x with
 | dead=>rfl
 | row g es e w=>exact AX h es this
theorem AJ {n:Nat} {H:aA} (h:n≤H.length):GQ H (List.replicate n .dead++List.replicate (H.length-n) .dead):=by
 refine⟨by simp;omega,fun b g es e w hb => ?_⟩
 rw[List.replicate_append_replicate] at hb
 have:=List.eq_of_mem_replicate (List.mem_of_getElem? hb)
 cases this
theorem AZ {n k:Nat}:eK n (List.replicate k .dead)=true:=by
 unfold eK
 rw[List.all_eq_true]
 intro x hx
 rw[List.eq_of_mem_replicate hx]
def Jz (q:Rat):ByteArray:=⟨(Eg q).toArray⟩
def BR (qs:List Rat):Option (List ByteArray):=if qs.all vP=true then some (qs.map Jz) else none
theorem Q4 {qs:List Rat} {q:Rat} (hq:q∈qs) (h:vP q=false):BR qs=none:=if_neg (fun ha=>by
 rw[List.all_eq_true] at ha
 rw[ha q hq] at h
 cases h)
theorem Om {qs:List Rat} (h:∀q∈qs,vP q=true):BR qs=some (qs.map Jz):=if_pos (List.all_eq_true.2 h)
set_option maxHeartbeats 1000000 in
theorem JJ (qs:List Rat) (hn:qs.length≤1000000) (hb:∀q∈qs,aZ q≤1099511627776):FC 147 [bI aQ qs] (W0 (Yv sV 1 (BR qs)) (BR qs).isSome):=by
 refine FC.L9 ⟨true,false⟩ JE (Nat.le_of_ble_eq_true rfl) fun n => ?_
 have e0:∀K,jQ false [.string ⟨#[]⟩] 0 [] K=some (.ref K.length 0 0 0 0,K++[.row 0 [] 1 true]):=fun K=>iC rfl
 simp only[Ee,Ch,e0,List.length_replicate,fW,VX,Nat.reduceEqDiff,Nat.reduceAdd,Nat.reduceLeDiff,Nat.reduceLT,Nat.reduceSub]
 refine Sy (fun(i:Nat) ρ H=>i≤qs.length∧(∀q∈qs.take i,vP q=true)∧H=List.replicate n cG.dead++[cG.row i (((qs.take i).map Jz).map sV) 1 true]∧ρ 4 = .ref n i 0 i i∧ρ 10=bI aQ qs∧ρ 11=VI qs.length∧ρ 12=VI i) (fun i=>qs.length-i) 0 ⟨Nat.zero_le _,by simp,rfl,rfl,rfl,rfl,rfl⟩ ?_
 rintro i ρ H ⟨hi,sZ,rfl,g4,g10,g11,g12⟩
 have kD:aH (List.replicate n cG.dead++[cG.row i (((qs.take i).map Jz).map sV) 1 true]) n i=some (((qs.take i).map Jz).map sV,1,true):=by rw[zI,aS]
 by_cases dA:(i:Int)<(qs.length:Int)
 ·obtain⟨q,hq⟩:∃q,qs[i]? = some q:=⟨_,List.getElem?_eq_getElem (by omega)⟩
  have hqm:=List.mem_of_getElem? hq
  have a1:=fun H=>aL (f:=aQ) (t := .op) (H:=H) (size:=3) (k := .i64) hq rfl
  have wi:IntKind.i64.wrap ((i:Int)+1)=((i+1:Nat):Int):=wrapN (i+1) (by omega) (by omega)
  have e2:=JH q (hb q hqm)
  have s1:=AL (lo:=n) (H:=List.replicate n cG.dead++[cG.row i (((qs.take i).map Jz).map sV) 1 true]) (q:=q) (by simp)
  have s2:=JU (H:=List.replicate n cG.dead++[cG.row i (((qs.take i).map Jz).map sV) 1 true]) (K:=[]) (q:=q)
  cases hf:vP q with
  |
   false =>
   rw[hf] at e2
   rw[Q4 hqm hf]
   simp only[pK,g4,g10,g11,g12,dA,a1,e2,s1,s2,dK,fW,VX,Nat.reduceEqDiff,Nat.reduceAdd,Nat.reduceLeDiff,Nat.reduceLT,Nat.reduceSub]
   exact⟨_,AJ (by simp),rfl,AZ,.tree [] .nil,rfl,rfl⟩
  |
   true =>
   rw[hf] at e2
   have eL:∀H,jQ false [.string ⟨#[]⟩] 1 [(0,bB (Eg q))] H=some (.tree [sV (Jz q)] (.cl 1),H):=fun H=>gD rfl rfl rfl
   have eS:∀H,cT 1 (.tree [sV (Jz q)] (.cl 1)) H=some [sV (Jz q)]:=fun H=>dQ rfl rfl
   have eP:eJ n 1 16 (.ref n i 0 i i) [sV (Jz q)] (List.replicate n cG.dead++[cG.row i (((qs.take i).map Jz).map sV) 1 true]++[.row 0 [aQ q] 3 true])=some (.ref n (i+1) 0 (i+1) (i+1),(List.replicate n cG.dead++[cG.row (i+1) (((qs.take (i+1)).map Jz).map sV) 1 true])++[.row 0 [aQ q] 3 true]):=by
    rw[iG (f:=sV) (xs:=(qs.take i).map Jz) (bS kD) (by simp;omega) (Nat.le_refl _) (by decide) (by decide) (by omega),gV hq]
    simp only[List.map_append,List.append_assoc,Bl]
    rfl
   simp only[pK,g4,g10,g11,g12,dA,a1,e2,s1,s2,eL,eS,eP,wi,dK,fW,VX,Nat.reduceEqDiff,Nat.reduceAdd,Nat.reduceLeDiff,Nat.reduceLT,Nat.reduceSub]
   rw[List.take_left' (by simp)]
   refine⟨i+1,by omega,by rw[ahB,DC (oE _ (gN fun _=>rfl)),NO],by omega,fun p hp => ?_,rfl,?_⟩
   ·rw[gV hq] at hp
    rcases List.mem_append.1 hp with h | h
    ·exact sZ p h
    ·rw[List.mem_singleton] at h;subst h;exact hf
   ·simp only[Bj,g10,g11,FK (Mq _),Np (show n<(List.replicate n cG.dead++[cG.row i (((qs.take i).map Jz).map sV) 1 true]).length by simp),VX,Nat.reduceEqDiff,Nat.reduceAdd,List.take_zero,kH,List.all_nil,List.length_nil,Bj,Rw,FK]
 ·have oB:i=qs.length:=by omega
  subst oB
  rw[List.take_length] at sZ kD
  rw[Om sZ]
  simp only[pK,g4,g10,g11,g12,dA,List.take_length,fW,VX,Nat.reduceEqDiff,Nat.reduceAdd,Nat.reduceLeDiff,Nat.reduceLT,Nat.reduceSub]
  refine⟨_,⟨rfl,fun _ _ _ _ _ h=>h⟩,by simp[fB,oA,kC],by simp only[eK,List.all_cons,List.all_nil,Bool.and_true];exact Ra (fun _=>rfl) _,.ref n qs.length 0 qs.length qs.length,rfl,⟨n,qs.length,qs.length,Nat.le_refl _,by simp,by simp,by simp,kD⟩⟩
def uU (m:List (List Rat)):Option (List (List ByteArray)):=m.mapM BR
theorem Od {n lo:Nat} {args iH:List VV} {F:Nat} {P:Nat→Nat→aA→VV→Prop} {ok:Bool} {H:aA} {K:VV→aA→Prop} (h:FC F iH (W0 P ok)) (xS:Ci.contains F=true) (hf:args.mapM (PM.fz depth H)=some iH) (hO:BG n H)
  (hP:∀ {lo hi H H' v},P lo hi H v→dI lo hi H H'→P lo hi H' v) (hk:∀v H',H <+: H'→BG n H'→fB n v=true→P H.length H'.length H' v→K (.eX [v,.sc (.bool ok)]) H'):cQ F args lo H K:=by
 refine h.aaO xS hf ?_
 rintro r L ⟨v,rfl,hv⟩ hr hL
 have hvo:fB H.length v=true:=by
  simp only[fB,oA,Bool.and_eq_true] at hr
  exact hr.1
 refine hk v _ (List.prefix_append _ _) (hO.pre ?_) (N1 hO.len v hvo) ?_
 ·exact F8 hO.len hL
 ·rw[List.length_append]
  exact hP hv dI.move
set_option maxHeartbeats 2000000 in
theorem Hp (m:List (List Rat)) (hn:m.length≤1000000) (hb:∀r∈m,r.length≤1000000∧∀q∈r,aZ q≤1099511627776):FC 71 [bI (bI aQ) m] (W0 (CG ((uU m).getD [])) (uU m).isSome):=by
 refine FC.L9 ⟨true,false⟩ HM (Nat.le_of_ble_eq_true rfl) fun n => ?_
 have s0:bQ n 1 (.ptr (n+1) 0 0 0) (.agg [.tree [] .nil]) (List.replicate n cG.dead++[cG.row 0 [.tree [] .nil] 1 true,.row 0 [.tree [] .nil] 1 true])=some (List.replicate n cG.dead++[cG.row 0 [.tree [] .nil] 1 true,.row 0 [.agg [.tree [] .nil]] 1 true]):=by
  rw[bU (e:=1) (g:=0) (j:=0) (by rw[wF,iM,aS]) (by exact Nat.zero_lt_one) (by omega) rfl rfl,P5]
  rfl
 simp only[CM,A8,s0,xF,List.length_replicate,List.length_cons,List.length_nil,List.append_assoc,List.cons_append,List.nil_append,dJ,fW,VX,Nat.reduceEqDiff,Nat.reduceAdd,Nat.reduceLeDiff,Nat.reduceLT,Nat.reduceSub]
 refine aT (fun(i:Nat) ρ H=>i≤m.length∧BG n H∧(∃x v bE,aH H n 0=some ([.tree [] .nil],1,true)∧aH H (n+1) 0=some ([x],1,true)∧aB x=[v]∧uU (m.take i)=some bE∧OB sV 1 bE (n+2) H.length H v)∧ρ 2 = .ptr n 0 0 0∧ρ 4 = .ptr (n+1) 0 0 0∧ρ 10=bI (bI aQ) m∧ρ 11=VI m.length∧ρ 12=VI i) (fun i=>m.length-i) 0
  ⟨Nat.zero_le _,⟨[.row 0 [.tree [] .nil] 1 true,.row 0 [.agg [.tree [] .nil]] 1 true],rfl,rfl⟩,⟨.agg [.tree [] .nil],.tree [] .nil,[],by rw[zI,aS],by rw[wF,iM,aS],rfl,rfl,.inl ⟨rfl,rfl⟩⟩,rfl,rfl,rfl,rfl,rfl⟩ ?_
 rintro i ρ H ⟨hi,hO,⟨x,v,bE,uK,FB,hx,Gh,hv⟩,g2,g4,g10,g11,g12⟩
 have Bk:=fR FB
 by_cases dA:(i:Int)<(m.length:Int)
 ·obtain⟨r,hr⟩:∃r,m[i]? = some r:=⟨_,List.getElem?_eq_getElem (by omega)⟩
  have Ct:=hb r (List.mem_of_getElem? hr)
  have a1:=fun H=>aL (f:=bI aQ) (t := .op) (H:=H) (size:=1) (k := .i64) hr rfl
  have wi:IntKind.i64.wrap ((i:Int)+1)=((i+1:Nat):Int):=wrapN (i+1) (by omega) (by omega)
  simp only[sI,g2,g4,g10,g11,g12,dA,a1,fW,VX,Nat.reduceEqDiff,Nat.reduceAdd,Nat.reduceLeDiff,Nat.reduceLT,Nat.reduceSub]
  refine Od (n:=n) (JJ r Ct.1 Ct.2) rfl (Zn (aI (Mq _))) hO Yv.cK fun u H2 p2 hO2 _ hu => ?_
  cases ht:BR r with
  |
   none =>
   rw[ht] at hu
   have hu:u = .tree [] .nil:=hu
   subst hu
   have ajK:uU m=none:=mapM_none ht (List.mem_of_getElem? hr)
   rw[ajK]
   have s1:bQ n 1 (.ptr n 0 0 0) (.agg [.tree [] .nil]) H2=some (H2.set n (.row 0 [.agg [.tree [] .nil]] 1 true)):=by
    rw[bU (cS p2 uK) (by exact Nat.zero_lt_one) (Nat.le_refl _) rfl rfl]
    rfl
   have s2:cE true 1 (.ptr n 0 0 0) (H2.set n (.row 0 [.agg [.tree [] .nil]] 1 true))=some (.agg [.tree [] .nil]):=by
    rw[bO,cA (cS p2 uK)]
    rfl
   simp only[g2,g4,s1,s2,Option.isSome_none,fW,VX,Nat.reduceEqDiff,Nat.reduceAdd,Nat.reduceLeDiff,Nat.reduceLT,Nat.reduceSub]
   exact⟨_,AJ (by rw[List.length_set];have:=p2.length_le;omega),rfl,AZ,.agg [.tree [] .nil],rfl,_,rfl,.inl ⟨rfl,rfl⟩⟩
  |
   some ys =>
   rw[ht] at hu
   obtain⟨b,g,c,k1,k2,rfl,k3,k4⟩:=hu
   ·have eL:∀K,jQ false [.slice none 0 0] 1 [(0,.ref b g 0 ys.length c)] K=some (.tree [.ref b g 0 ys.length c] (.cl 1),K):=fun K=>gD rfl rfl rfl
    have eS:∀K,cT 1 (.tree [.ref b g 0 ys.length c] (.cl 1)) K=some [.ref b g 0 ys.length c]:=fun K=>dQ rfl rfl
    obtain⟨v',H3,ap,Yz,cK,hlen,M5,yM,_⟩:=(hv.cK (dI.pre p2)).snoc (gP:=n) (by omega) (by rw[sT Gh,List.length_take];omega) ⟨b,g,c,ys⟩ k1 (by simp only;omega) k3 k4
    have T7:=cK _ _ _ (by omega) (cS p2 FB)
    have l1:cE false 1 (.ptr (n+1) 0 0 0) H2=some v:=by
     rw[bO,cS p2 FB]
     simp[dC,hx]
    have l2:aH H2 (n+1) 0=some ([x],1,true):=cS p2 FB
    have uX:=Yz.fT
    have s1:bQ n 1 (.ptr (n+1) 0 0 0) v' H3=some (H3.set (n+1) (.row 0 [v'] 1 true)):=by
     rw[bU T7 (by exact Nat.zero_lt_one) (by omega) (by rw[uX.2.1];rfl) (by rw[uX.2.1];simp[uX.1])]
     rfl
    have hO3:=(M5 n (by omega) hO2).set (b:=n+1) (g:=0) (e:=1) (es:=[v']) (w:=true) (by omega) (by
     rcases Yz with⟨rfl,_⟩ | ⟨b',g',Wj,q1,q2,rfl,_⟩
     ·rfl
     ·simp[oA,fB];omega)
    simp only[g4,g12,wi,eL,eS,l1,ap,s1,T7,l2,zO,Nat.add_zero,Option.isSome_some,fW,VX,Nat.reduceEqDiff,Nat.reduceAdd,Nat.reduceLeDiff,Nat.reduceLT,Nat.reduceSub]
    refine⟨i+1,by omega,by omega,hO3,⟨v',v',bE++[ys],cF (by omega) (cK _ _ _ (by omega) (cS p2 uK)),cA T7,uX.2.1,?_,?_⟩,by (repeat' apply And.intro)<;>first | rfl | trivial | assumption⟩
    ·rw[gV hr]
     exact HI Gh ht
    ·rw[List.length_set]
     exact Yz.cK (dI.set (by omega))
 ·have oB:i=m.length:=by omega
  subst oB
  rw[List.take_length] at Gh
  rw[Gh]
  have uX:=hv.fT
  have l1:cE true 1 (.ptr (n+1) 0 0 0) H=some (.agg [v]):=by
   rw[bO,FB]
   simp[dC,hx]
  have s1:bQ n 1 (.ptr n 0 0 0) (.agg [v]) H=some (H.set n (.row 0 [.agg [v]] 1 true)):=by
   rw[bU uK (by exact Nat.zero_lt_one) (Nat.le_refl _) rfl (by simp[aB,uX.1])]
   rfl
  have s2:cE true 1 (.ptr n 0 0 0) (H.set n (.row 0 [.agg [v]] 1 true))=some (.agg [v]):=by
   rw[bO,cA uK]
   rfl
  simp only[sI,g2,g4,g10,g11,g12,dA,l1,s1,s2,Option.isSome_some,fW,VX,Nat.reduceEqDiff,Nat.reduceAdd,Nat.reduceLeDiff,Nat.reduceLT,Nat.reduceSub]
  have M5:fB n v=true:=by
   rcases hv with⟨rfl,_⟩ | ⟨b',g',Wj,q1,q2,rfl,_⟩
   ·rfl
   ·simp[fB];omega
  obtain⟨L,rfl,hL⟩:=hO
  refine⟨L.set 0 (.row 0 [.agg [v]] 1 true),⟨by simp,fun _ _ _ _ _ h=>by rw[Bl];exact h⟩,by simp[fB,oA,M5,kC],?_,.agg [v],rfl,v,rfl,?_⟩
  ·have:=(BG.set (n:=n) (b:=n) (g:=0) (e:=1) (es:=[.agg [v]]) (w:=true) ⟨L,rfl,hL⟩ (Nat.le_refl _) (by simp[oA,fB,M5]))
   rw[Bl] at this
   obtain⟨L',h1,h2⟩:=this
   rw[List.append_cancel_left h1]
   exact h2
  ·rw[←Bl,List.length_set]
   have:=hv.rg.cK (H':=(List.replicate n cG.dead++L).set n (.row 0 [.agg [v]] 1 true)) (dI.set (by omega))
   rw[xF] at this
   exact this.wide (by omega) (Nat.le_refl _)
end Go.PM
namespace Go.PM
open Go.Lib
section
variable {g:List (List Rat)} {e row:List Rat} {n i:Nat} {st:List Bool}
end
end Go.PM
namespace Go.PM
def qJ:aD:=(LS [LO 2 (.new [(.bool false),(.slice none 0 0),(.slice none 0 0)]),LO 3 (.mv LF)] (LS [LM 7 0,LO 8 (.call 115 [(LT 7)]),LM 6 8,LO 9 (LX 6 0),LO 10 (LX 6 1),LO 4 (.new [(.bool false),(.slice none 0 0),(.slice none 0 0)]),LN (.store 3 (LT 4) (LT 9)),LM 5 10] (LS [LO 11 (LK 4),LM 12 5,LM 13 12,LY 13 14 (LK 4),⟨(some 15),(.call 68 [(LT 14)]),(some (13,true)),true,[]⟩,LY 13 16 (.bin .gtr (LT 15) (LI 0)),LO 17 (.pick (LT 13) (LT 16) LF),LN (.store 3 (LT 2) (LT 11)),LM 3 17] .ret)))
def uC:aR:=⟨18,[(.cell 2 true 3),(.tmp 3)],qJ⟩
theorem JC:fV 159=some uC:=by kernel_rfl
end Go.PM