/- Texts of a claim, in one: part 11. -/
import Derived.KernelRfl
import Derived.Test.YtjmflicajplclaaGreatDoorKGj
set_option linter.unusedSimpArgs false
set_option linter.unusedVariables false
namespace Go.PM
open Go.Lib
theorem Qj {α:Type} {l:List α} (h:l.Nodup) {i j:Nat} {x:α} (hi:l[i]? = some x) (hj:l[j]? = some x):i=j:=by
 obtain⟨hi,oJ⟩:=List.getElem?_eq_some_iff.1 hi
 obtain⟨hj,hj'⟩:=List.getElem?_eq_some_iff.1 hj
 have h:=List.pairwise_iff_getElem.1 h
 rcases Nat.lt_trichotomy i j with bA | heq | hgt
 ·exact absurd (oJ.trans hj'.symm) (h i j hi hj bA)
 ·exact heq
 ·exact absurd (hj'.trans oJ.symm) (h j i hj hi hgt)
section
variable {α:Type} {f:α→VV} {e lo hi:Nat} {H H':aA} {v:VV}
def dC (lo hi:Nat) (H H':aA):Prop:=∀b g x,lo≤b→b<hi→aH H b g=some x→aH H' b g=some x
theorem dC.pre (h:H <+: H'):dC lo hi H H':=fun _ _ _ _ _=>cC h
theorem dC.refl:dC lo hi H H:=fun _ _ _ _ _ h=>h
theorem dC.trans {H'':aA} (h:dC lo hi H H') (h':dC lo hi H' H''):dC lo hi H H'':=fun b g x h1 h2 h3=>h' b g x h1 h2 (h b g x h1 h2 h3)
theorem dC.sub {l h':Nat} (h:dC lo hi H H') (hl:lo≤l) (hh:h'≤hi):dC l h' H H':=fun b g x h1 h2=>h b g x (by omega) (by omega)
theorem dC.set {b:Nat} {x:bT} (hb:b<lo∨hi≤b):dC lo hi H (H.set b x):=fun _ _ _ h1 h2=>cG (by omega)
theorem dC.move {L:aA}:dC H.length hi (List.replicate H.length .dead++L) (H++L):=fun _ _ _ h1 _=>WN h1
def SI (f:α→VV) (e:Nat) (bB:List α) (lo hi:Nat) (H:aA) (v:VV):Prop :=
 (v = .tree [] .nil∧bB=[])∨∃b g c,lo≤b∧b<hi∧v = .ref b g 0 bB.length c∧bB.length≤c∧aH H b g=some (bB.map f,e,true)
theorem SI.cB {bB:List α} (h:SI f e bB lo hi H v) (hk:dC lo hi H H'):SI f e bB lo hi H' v:=by
 rcases h with h | ⟨b,g,c,h1,h2,h3,h4,h5⟩
 ·exact .inl h
 ·exact .inr ⟨b,g,c,h1,h2,h3,h4,hk _ _ _ h1 h2 h5⟩
theorem SI.wide {bB:List α} {jI oJ:Nat} (h:SI f e bB lo hi H v) (hl:jI≤lo) (hh:hi≤oJ):SI f e bB jI oJ H v:=by
 rcases h with h | ⟨b,g,c,h1,h2,h3⟩
 ·exact .inl h
 ·exact .inr ⟨b,g,c,by omega,by omega,h3⟩
theorem Wc {d b g c:Nat} {xs:List α} {w:Bool} (hp:∀x,aN (f x)=true) (h:aH H b g=some (xs.map f,e,w)) (hc:xs.length≤c):fz (d+2) H (.ref b g 0 xs.length c)=some (aO f xs):=by
 have:aN (.ref b g 0 xs.length c)=false:=rfl
 show PM.fz ((d+1)+1) H _=_
 unfold PM.fz
 simp only[this,h,Bool.false_eq_true,if_false]
 rw[if_pos ⟨by simp,hc⟩,List.drop_zero,List.take_of_length_le (by simp),mapM_pure (n:=d) (eR hp)]
 rfl
theorem SI.fz {d:Nat} {bB:List α} (h:SI f e bB lo hi H v) (hp:∀x,aN (f x)=true):PM.fz (d+2) H v=some (aO f bB):=by
 rcases h with⟨rfl,rfl⟩ | ⟨b,g,c,h1,h2,rfl,h4,h5⟩
 ·exact Kj
 ·exact Wc hp h5 h4
structure vM (α:Type) where
 b:Nat
 g:Nat
 c:Nat
 xs:List α
def mK (r:vM α):VV := .ref r.b r.g 0 r.xs.length r.c
structure Ng (f:α→VV) (e lo hi b:Nat) (H:aA) (rs:List (vM α)):Prop where
 nd:(rs.map (·.b)).Nodup
 row:∀r∈rs,lo≤r.b∧r.b<hi∧r.b≠b∧r.xs.length≤r.c∧aH H r.b r.g=some (r.xs.map f,e,true)
def RG (f:α→VV) (e:Nat) (bB:List (List α)) (lo hi:Nat) (H:aA) (v:VV):Prop :=
 (v = .tree [] .nil∧bB=[])∨∃b g c rs,lo≤b∧b<hi∧v = .ref b g 0 bB.length c∧bB.length≤c∧aH H b g=some (rs.map mK,1,true)∧rs.map (·.xs)=bB∧Ng f e lo hi b H rs
theorem RG.cB {bB:List (List α)} (h:RG f e bB lo hi H v) (hk:dC lo hi H H'):RG f e bB lo hi H' v:=by
 rcases h with h | ⟨b,g,c,rs,h1,h2,h3,h4,h5,h6,h7⟩
 ·exact .inl h
 ·exact .inr ⟨b,g,c,rs,h1,h2,h3,h4,hk _ _ _ h1 h2 h5,h6,h7.nd,fun r hr=>by
   obtain⟨k1,k2,k3,k4,k5⟩:=h7.row r hr
   exact⟨k1,k2,k3,k4,hk _ _ _ k1 k2 k5⟩⟩
theorem RG.wide {bB:List (List α)} {jI oJ:Nat} (h:RG f e bB lo hi H v) (hl:jI≤lo) (hh:hi≤oJ):RG f e bB jI oJ H v:=by
 rcases h with h | ⟨b,g,c,rs,h1,h2,h3,h4,h5,h6,h7⟩
 ·exact .inl h
 ·exact .inr ⟨b,g,c,rs,by omega,by omega,h3,h4,h5,h6,h7.nd,fun r hr=>by
   obtain⟨k1,k2,k3,k4,k5⟩:=h7.row r hr
   exact⟨by omega,by omega,k3,k4,k5⟩⟩
theorem U6 {d b g c lo hi:Nat} {rs:List (vM α)} {w:Bool} (hp:∀x,aN (f x)=true) (h:aH H b g=some (rs.map mK,1,w)) (hc:rs.length≤c) (hR:Ng f e lo hi b H rs) :
  fz (d+3) H (.ref b g 0 rs.length c)=some (aO (aO f) (rs.map (·.xs))):=by
 have:aN (.ref b g 0 rs.length c)=false:=rfl
 show PM.fz ((d+2)+1) H _=_
 unfold PM.fz
 simp only[this,h,Bool.false_eq_true,if_false]
 rw[if_pos ⟨by simp,hc⟩,List.drop_zero,List.take_of_length_le (by simp),mapM_map (f:=mK) (f':=fun r=>aO f r.xs) fun r hr=>Wc hp (hR.row r hr).2.2.2.2 (hR.row r hr).2.2.2.1]
 simp[aO,List.map_map]
theorem RG.fz {d:Nat} {bB:List (List α)} (h:RG f e bB lo hi H v) (hp:∀x,aN (f x)=true):PM.fz (d+3) H v=some (aO (aO f) bB):=by
 rcases h with⟨rfl,rfl⟩ | ⟨b,g,c,rs,h1,h2,rfl,h4,h5,rfl,h7⟩
 ·exact Kj
 ·rw[List.length_map] at h4 ⊢
  exact U6 hp h5 h4 h7
theorem UZ {d:Nat} {us Fi:List VV} (h:us.mapM (PM.fz (d+1) H)=some Fi):PM.fz (d+2) H (.agg us)=some (.agg Fi):=by
 have e:PM.fz (d+2) H (.agg us)=if aN (.agg us)=true then some (.agg us) else (us.mapM (PM.fz (d+1) H)).map .agg:=rfl
 rw[e]
 by_cases hq:aN (.agg us)=true
 ·rw[if_pos hq]
  have:us.mapM (PM.fz (d+1) H)=some us:=mapM_pure hq
  rw[this] at h
  cases h
  rfl
 ·rw[if_neg hq,h]
  rfl
def Xw (P:Nat→Nat→aA→VV→Prop) (ok:Bool) (n:Nat) (r:VV) (L:aA):Prop :=
 ∃v,r = .eY [v,.sc (.bool ok)]∧P n (n+L.length) (List.replicate n .dead++L) v
theorem Lb {F lo:Nat} {args hC:List VV} {P:Nat→Nat→aA→VV→Prop} {ok:Bool} {H:aA} {K:VV→aA→Prop} (h:FC F hC (Xw P ok)) (sT:AN.contains F=true) (hf:args.mapM (PM.fz depth H)=some hC)
  (hP:∀ {lo hi H H' v},P lo hi H v→dC lo hi H H'→P lo hi H' v) (hk:∀v H',H <+: H'→P H.length H'.length H' v→K (.eY [v,.sc (.bool ok)]) H'):cT F args lo H K:=by
 refine h.call sT hf ?_
 rintro r L ⟨v,rfl,hv⟩
 refine hk v _ (List.prefix_append _ _) ?_
 rw[List.length_append]
 exact hP hv dC.move
end
def F6 (T:VV) (lo hi:Nat) (H:aA) (v:VV):Prop:=∀H',dC lo hi H H'→fz depth H' v=some T
theorem F6.cB {T:VV}:∀ {lo hi H H' v},F6 T lo hi H v→dC lo hi H H'→F6 T lo hi H' v:=fun h hk _ h'=>h _ (hk.trans h')
theorem F6.now {T v:VV} {lo hi:Nat} {H:aA} (h:F6 T lo hi H v):fz depth H v=some T:=h H dC.refl
def CG (bB:List (List ByteArray)) (lo hi:Nat) (H:aA) (v:VV):Prop:=∃c,v = .agg [c]∧RG sV 1 bB lo hi H c
theorem CG.cB {bB:List (List ByteArray)}:∀ {lo hi H H' v},CG bB lo hi H v→dC lo hi H H'→CG bB lo hi H' v:=by
 rintro lo hi H H' v ⟨c,h1,h2⟩ hk
 exact⟨c,h1,h2.cB hk⟩
theorem CG.fz {bB:List (List ByteArray)} {lo hi:Nat} {H:aA} {v:VV} (h:CG bB lo hi H v):PM.fz depth H v=some (YK bB):=by
 obtain⟨c,rfl,h⟩:=h
 refine UZ (d:=6) ?_
 rw[List.mapM_cons,h.fz (d:=4) fun _=>rfl]
 rfl
theorem CG.seen {bB:List (List ByteArray)} {lo hi:Nat} {H:aA} {v:VV} (h:CG bB lo hi H v):F6 (YK bB) lo hi H v:=fun _ hk=>(h.cB hk).fz
def UJ (s:JY) (lo hi:Nat) (H:aA) (v:VV):Prop:=∃a b c m1 m2,v = .agg [a,b,c]∧lo≤m1∧m1≤m2∧m2≤hi∧SI sV 1 s.b lo m1 H a∧RG sV 1 s.g m1 m2 H b∧SI sV 1 s.e m2 hi H c
theorem UJ.cB {s:JY}:∀ {lo hi H H' v},UJ s lo hi H v→dC lo hi H H'→UJ s lo hi H' v:=by
 rintro lo hi H H' v ⟨a,b,c,m1,m2,h1,k1,k2,k3,h2,h3,h4⟩ hk
 exact⟨a,b,c,m1,m2,h1,k1,k2,k3,h2.cB (hk.sub (by omega) (by omega)),h3.cB (hk.sub (by omega) (by omega)),h4.cB (hk.sub (by omega) (by omega))⟩
theorem ajT {s:JY} {l1 h1 l2 h2 l3 h3:Nat} {H:aA} {a b c:VV} (ha:SI sV 1 s.b l1 h1 H a) (hb:RG sV 1 s.g l2 h2 H b) (hc:SI sV 1 s.e l3 h3 H c):PM.fz depth H (.agg [a,b,c])=some (svV s):=by
 refine UZ (d:=6) ?_
 rw[List.mapM_cons,ha.fz (d:=5) fun _=>rfl]
 rw[List.mapM_cons,hb.fz (d:=4) fun _=>rfl]
 rw[List.mapM_cons,hc.fz (d:=5) fun _=>rfl]
 rfl
theorem UJ.fz {s:JY} {lo hi:Nat} {H:aA} {v:VV} (h:UJ s lo hi H v):PM.fz depth H v=some (svV s):=by
 obtain⟨a,b,c,m1,m2,rfl,k1,k2,k3,h2,h3,h4⟩:=h
 exact ajT h2 h3 h4
theorem UJ.seen {s:JY} {lo hi:Nat} {H:aA} {v:VV} (h:UJ s lo hi H v):F6 (svV s) lo hi H v:=fun _ hk=>(h.cB hk).fz
theorem SI.seen {bB:List ByteArray} {lo hi:Nat} {H:aA} {v:VV} (h:SI sV 1 bB lo hi H v):F6 (fM bB) lo hi H v:=fun _ hk=>(h.cB hk).fz (d:=6) fun _=>rfl
def SE (k:Int):ByteArray:=⟨(109::(if k≤0 then [48] else decDigits k.toNat)).toArray⟩
theorem B5 (k:Int) (hk:0≤k∧k≤1000000000):TC 101 [VI k] (.sc (.string (SE k))):=by
 refine TC.walk ⟨true,false⟩ Jq rfl (Nat.le_of_ble_eq_true rfl) rfl rfl ?_
 by_cases h0:k≤0
 ·have e:SE k=⟨#[109,48]⟩:=by unfold SE;rw[if_pos h0]
  rw[e]
  simp only[zX,uR,h0,VX,Nat.reduceEqDiff,Nat.reduceAdd]
  exact aF rfl
 obtain⟨n,rfl⟩:∃n:Nat,k=n:=⟨k.toNat,by omega⟩
 have e1:∀(x:UInt8) (H:aA),mF false [.int .u8 0] 1 [(0,bV x)] H=some (.tree [bV x] (.cl 1),H):=fun x H=>iJ rfl rfl rfl
 simp only[zX,uR,h0,VX,Nat.reduceEqDiff,Nat.reduceAdd]
 refine aQ (fun(s:Nat×List UInt8) ρ H=>s.1≤n∧H=[]∧ρ 0=VI s.1∧ρ 3=aU s.2∧decDigits n=kW s.1++s.2) (fun s=>s.1) (n,[]) ⟨Nat.le_refl _,rfl,rfl,rfl,by rw[List.append_nil,kW,if_neg (by omega)]⟩ ?_
 rintro⟨r,bs⟩ ρ H ⟨hr,rfl,g0,g3,hd⟩
 simp only at hr hd g0 g3
 have sS:bs.length≤11:=by
  have h1:=yG n 10 (by omega)
  rw[hd,List.length_append] at h1
  omega
 by_cases hz:(0:Int)<(r:Int)
 ·have em:=RM (r:Int)
  have eq:=aiU (r:Int) (by omega) (by omega)
  have m1:((r:Int)).tmod 10=((r % 10:Nat):Int):=by rw[Int.tmod_eq_emod_of_nonneg (by omega)];omega
  have m2:((r:Int)).tdiv 10=((r / 10:Nat):Int):=by rw[Int.tdiv_eq_ediv_of_nonneg (by omega)];omega
  rw[m1] at em
  rw[m2] at eq
  have w1:IntKind.i64.wrap (48+((r % 10:Nat):Int))=((48+r % 10:Nat):Int):=wrapN _ (by omega) (by omega)
  have w2:IntKind.u8.wrap ((48+r % 10:Nat):Int)=((d10 (r % 10)).toNat:Int):=by
   rw[Nz (Nat.mod_lt _ (by decide))]
   simp[IntKind.wrap,IntKind.bits,IntKind.signed]
   omega
  have bs2:=fun bC (h:dX bC (.tmp 12) = .tree [bV (d10 (r % 10))] (.cl 1))=>(E0.tree (bs:=[d10 (r % 10)]) (k := .cl 1) (H:=[])).str (fl:=⟨true,false⟩) (lo:=0) h
  have Wn:decDigits n=kW (r / 10)++d10 (r % 10)::bs:=by
   refine GZ ?_
   rw[hd,kW,if_neg (by omega)]
  have ea:=qD [d10 (r % 10)] bs (by have:=sS;simp only[List.length_cons,List.length_nil];omega)
  simp only[tS,g0,g3,hz,em,eq,w1,w2,e1,Pg,VX,Nat.reduceEqDiff,Nat.reduceAdd]
  rw[bs2 _ rfl]
  simp only[g0,g3,em,eq,ea,VX,Nat.reduceEqDiff,Nat.reduceAdd]
  exact⟨(r / 10,d10 (r % 10)::bs),by simp only;omega,by simp only;omega,rfl,rfl,Wn⟩
 ·have sN:r=0:=by omega
  subst sN
  simp only[tS,g0,hz,VX,Nat.reduceEqDiff,Nat.reduceAdd]
  have hb:bs=decDigits n:=by rw[hd,kW,if_pos rfl,List.nil_append]
  have e:SE (n:Int)=⟨(109::bs).toArray⟩:=by
   unfold SE
   rw[if_neg h0,Int.toNat_natCast,hb]
  have ea:=qD [109] bs (by simp only[List.length_cons,List.length_nil];omega)
  have ea:dB .add (.string ⟨#[109]⟩) (.string ⟨bs.toArray⟩)=some (.string ⟨(109::bs).toArray⟩):=ea
  rw[e]
  simp only[g3,ea,VX,Nat.reduceEqDiff,Nat.reduceAdd]
  exact aF rfl
theorem afG (k:Int):dB .neq (.string (SE k)) (.string (SE k))=some (.bool false):=by
 unfold SE
 rw[PL]
 simp
abbrev kG (k:Int) (n:Nat):List ByteArray:=(iota k n).map SE
theorem wT (k:Int) (n:Nat):(kG k n).length=n:=by rw[List.length_map,Rf]
theorem SX {k:Int} {n i:Nat} (h:i<n):(kG k n)[i]? = some (SE (k+i)):=by
 rw[List.getElem?_map]
 simp[iota,List.getElem?_range,h]
theorem xB {lo b g n c:Nat} {H:aA} (xs:List ByteArray) (k:Int) (hr:aH H b g=some (xs.map sV,1,true)) (hn:n≤xs.length) (eQ:lo≤b) (hk:0≤k∧k≤100000000) (QZ:n≤100000000) :
  jO 37 [.ref b g 0 n c,VI k] lo H fun r H'=>r=VI (k+n)∧H'=H.set b (.row g ((kG k n++xs.drop n).map sV) 1 true):=by
 refine jO.walk ⟨true,false⟩ Ff (Nat.le_of_ble_eq_true rfl) ?_
 have hb:b<H.length:=(List.getElem?_eq_some_iff.1 (cL.1 hr)).1
 have h00:H=H.set b (.row g ((kG k 0++xs.drop 0).map sV) 1 true):=by
  have h':=cL.1 hr
  obtain⟨bA,Ch⟩:=List.getElem?_eq_some_iff.1 h'
  have:kG k 0++xs.drop 0=xs:=by simp[iota]
  rw[this,←Ch,List.set_getElem_self]
 simp only[As,xH,VX,Nat.reduceEqDiff,Nat.reduceAdd]
 refine aQ (fun(i:Nat) ρ H1=>i≤n∧H1=H.set b (.row g ((kG k i++xs.drop i).map sV) 1 true)∧ρ 0 = .ref b g 0 n c∧ρ 1=VI (k+i)∧ρ 5=VI i) (fun i=>n-i) 0 ⟨Nat.zero_le _,h00,rfl,by simp only[VX,Nat.reduceEqDiff,Nat.reduceAdd];simp,rfl⟩ ?_
 rintro i ρ H1 ⟨hi,rfl,h0,h1,h5⟩
 have hR:aH (H.set b (.row g ((kG k i++xs.drop i).map sV) 1 true)) b g=some ((kG k i++xs.drop i).map sV,1,true):=cL.2 (List.getElem?_set_self hb)
 have hlen:(kG k i++xs.drop i).length=xs.length:=by rw[List.length_append,wT,List.length_drop];omega
 have el:=dR (o:=0) (n:=n) (c:=c) hR
 by_cases cP:(i:Int)<(n:Int)
 ·have e1:=aY (o:=0) (n:=n) (c:=c) (i:=i) (k := .i64) hR (by omega)
  have e2:=fF (f:=sV) (e:=1) (x:=SE (k+i)) (j:=i) (lo:=lo) hR (by omega) eQ rfl rfl
  have e3:=B5 (k+i) (by omega)
  have hs:(kG k i++xs.drop i).set i (SE (k+i))=kG k (i+1)++xs.drop (i+1):=by
   obtain⟨x,hx⟩:∃x,xs[i]? = some x:=⟨_,List.getElem?_eq_getElem (by omega)⟩
   have hd:xs.drop i=x::xs.drop (i+1):=by
    have bA:=List.getElem?_eq_some_iff.1 hx
    rw[List.drop_eq_getElem_cons bA.1,bA.2]
   rw[List.set_append_right _ _ (by rw[wT];exact Nat.le_refl _),wT,Nat.sub_self,hd,List.set_cons_zero]
   have:kG k (i+1)=kG k i++[SE (k+i)]:=by
    show (iota k (i+1)).map SE=(iota k i).map SE++[SE (k+i)]
    unfold iota
    rw[List.range_succ,List.map_append,List.map_append]
    rfl
   rw[this,List.append_assoc]
   rfl
  rw[List.set_set,hs] at e2
  have w1:IntKind.i64.wrap (k+i+1)=k+((i+1:Nat):Int):=by rw[wrap64 (by omega) (by omega)];omega
  have wi:IntKind.i64.wrap ((i:Int)+1)=((i+1:Nat):Int):=wrapN (i+1) (by omega) (by omega)
  simp only[pE,h0,h1,h5,cP,el,e1,e2,e3,w1,wi,VX,Nat.reduceEqDiff,Nat.reduceAdd]
  exact⟨i+1,by omega,by omega,by (repeat' apply And.intro)<;>first | rfl | trivial⟩
 ·have nS:i=n:=by omega
  subst nS
  simp only[pE,h0,h1,h5,cP,el,VX,Nat.reduceEqDiff,Nat.reduceAdd]
theorem Fg (k:Int) (n:Nat) (hk:0≤k∧k≤100000000) (hn:n≤100000000):TC 150 [fM (kG k n),VI k] (VI (k+n)):=by
 refine TC.walk ⟨true,false⟩ Fe rfl (Nat.le_of_ble_eq_true rfl) (CL (gO _) rfl) rfl ?_
 simp only[AR,yJ,VX,Nat.reduceEqDiff,Nat.reduceAdd]
 refine aQ (fun(i:Nat) ρ H=>i≤n∧H=[]∧ρ 0=fM (kG k n)∧ρ 1=VI (k+i)∧ρ 5=VI i) (fun i=>n-i) 0 ⟨Nat.zero_le _,rfl,rfl,by simp only[VX,Nat.reduceEqDiff,Nat.reduceAdd];simp,rfl⟩ ?_
 rintro i ρ H ⟨hi,rfl,h0,h1,h5⟩
 have hlen:=wT k n
 by_cases cP:(i:Int)<(n:Int)
 ·have hx:=SX (k:=k) (n:=n) (i:=i) (by omega)
  have e1:=aI (f:=sV) (t := .op) (H:=[]) (size:=1) (k := .i64) hx rfl
  have e3:=B5 (k+i) (by omega)
  have w1:IntKind.i64.wrap (k+i+1)=k+((i+1:Nat):Int):=by rw[wrap64 (by omega) (by omega)];omega
  have wi:IntKind.i64.wrap ((i:Int)+1)=((i+1:Nat):Int):=wrapN (i+1) (by omega) (by omega)
  simp only[pD,h0,h1,h5,cP,hlen,e1,e3,w1,wi,afG,VX,Nat.reduceEqDiff,Nat.reduceAdd]
  exact⟨i+1,by omega,by omega,by (repeat' apply And.intro)<;>first | rfl | trivial⟩
 ·have nS:i=n:=by omega
  subst nS
  simp only[pD,h0,h1,h5,cP,hlen,VX,Nat.reduceEqDiff,Nat.reduceAdd]
  exact aF rfl
theorem Ws {lo b:Nat} {xs:List ByteArray} {H:aA} {k:Int} {K:VV→aA→Prop} (h:aH H b 0=some ((gB kJ xs).map sV,1,true)) (eQ:lo≤b) (hk:0≤k∧k≤100000000) (hn:xs.length≤100000000)
  (hK:∀x,K (VI (k+xs.length)) (H.set b x)):cT 37 [.ref b 0 0 xs.length (xs.length+room xs.length),VI k] lo H K:=by
 refine gC rfl ((xB (gB kJ xs) k h (by rw[IF];omega) eQ hk hn).mono ?_)
 rintro r H' ⟨rfl,rfl⟩
 exact hK _
end Go.PM
namespace Go.PM
section
variable {α:Type} {f:α→VV} {e:Nat}
structure Rd (f:α→VV) (e:Nat) (xs:List α) (H:aA) (v:VV):Prop where
 len:∀H',H <+: H'→oC v H'=some (VI xs.length)
 get:∀H',H <+: H'→∀(i:Nat) x,xs[i]? = some x→∃p,bH e v (VI i) H'=some p∧∀ag,cI ag e p H'=dA ag e (f x) 0
 cell:aB v=[v]∧bP v=true∧isAny v=false
theorem Rd.pre {xs:List α} {H H':aA} {v:VV} (h:Rd f e xs H v) (hh:H <+: H'):Rd f e xs H' v:=⟨fun H2 h2=>h.len H2 (hh.trans h2),fun H2 h2=>h.get H2 (hh.trans h2),h.cell⟩
theorem Rd.tree {xs:List α} {H:aA} {t:TK} (hs:∀x,(aB (f x)).length=e):Rd f e xs H (.tree (xs.map f) t) :=
 ⟨fun _ _=>dQ,fun _ _ i x hx=>⟨_,aI hx (hs x),fun ag=>JV⟩,rfl,rfl,rfl⟩
theorem Rd.row {xs:List α} {H:aA} {b g n c:Nat} {w:Bool} (h:aH H b g=some (xs.map f,e,w)) (hn:n=xs.length):Rd f e xs H (.ref b g 0 n c):=by
 subst hn
 refine⟨fun H' hh=>dR (cC hh h),fun H' hh i x hx => ?_,rfl,rfl,rfl⟩
 have hi:=(List.getElem?_eq_some_iff.1 hx).1
 have e1:=aY (o:=0) (n:=xs.length) (c:=c) (i:=i) (k := .i64) (cC hh h) hi
 rw[Nat.zero_add] at e1
 exact⟨_,e1,fun ag=>oP (f:=f) (cC hh h) hx⟩
structure MG (f:α→VV) (e lo hi b g:Nat) (H:aA) (rs:List (vM α)):Prop where
 out:aH H b g=some (rs.map mK,1,true)
 blo:lo≤b
 bhi:b<hi
 rows:Ng f e lo hi b H rs
variable {lo hi b g:Nat} {H H':aA} {rs:List (vM α)}
theorem MG.cB (h:MG f e lo hi b g H rs) (hk:dC lo hi H H'):MG f e lo hi b g H' rs :=
 ⟨hk _ _ _ h.blo h.bhi h.out,h.blo,h.bhi,h.rows.nd,fun r hr=>by
  obtain⟨k1,k2,k3,k4,k5⟩:=h.rows.row r hr
  exact⟨k1,k2,k3,k4,hk _ _ _ k1 k2 k5⟩⟩
theorem MG.pre (h:MG f e lo hi b g H rs) (hh:H <+: H'):MG f e lo hi b g H' rs:=h.cB (dC.pre hh)
theorem MG.len {n c:Nat} (h:MG f e lo hi b g H rs):oC (.ref b g 0 n c) H=some (VI n):=dR h.out
theorem MG.addr {i n c:Nat} (h:MG f e lo hi b g H rs) (hi:i<n):bH 1 (.ref b g 0 n c) (VI i) H=some (.ptr b g i 0):=by
 have:=aY (o:=0) (n:=n) (c:=c) (i:=i) (k := .i64) h.out hi
 rwa [Nat.zero_add] at this
theorem MG.cell {i:Nat} {r:vM α} (h:MG f e lo hi b g H rs) (hr:rs[i]? = some r):cI false 1 (.ptr b g i 0) H=some (.ref r.b r.g 0 r.xs.length r.c):=by
 rw[oP (f:=mK) h.out hr]
 rfl
theorem MG.row {i:Nat} {r:vM α} (h:MG f e lo hi b g H rs) (hr:rs[i]? = some r):aH H r.b r.g=some (r.xs.map f,e,true):=(h.rows.row r (List.mem_of_getElem? hr)).2.2.2.2
theorem MG.at {i j n c:Nat} {r:vM α} (h:MG f e lo hi b g H rs) (hr:rs[i]? = some r) (hj:j<n):bH e (.ref r.b r.g 0 n c) (VI j) H=some (.ptr r.b r.g j 0):=by
 have:=aY (o:=0) (n:=n) (c:=c) (i:=j) (k := .i64) (h.row hr) hj
 rwa [Nat.zero_add] at this
theorem MG.get {i j:Nat} {ag:Bool} {r:vM α} {x:α} (h:MG f e lo hi b g H rs) (hr:rs[i]? = some r) (hx:r.xs[j]? = some x):cI ag e (.ptr r.b r.g j 0) H=dA ag e (f x) 0:=oP (f:=f) (h.row hr) hx
theorem MG.inj {i j:Nat} {r s:vM α} (h:MG f e lo hi b g H rs) (hr:rs[i]? = some r) (hs:rs[j]? = some s) (he:r.b=s.b):i=j:=by
 have h1:(rs.map (·.b))[i]? = some r.b:=by simp[hr]
 have h2:(rs.map (·.b))[j]? = some r.b:=by simp[hs,he]
 exact Qj h.rows.nd h1 h2
theorem KU {β γ:Type} {F:β→γ} {l:List β} {i:Nat} {x y:β} (hx:l[i]? = some x) (he:F y=F x):(l.set i y).map F=l.map F:=by
 apply List.ext_getElem?
 intro j
 rw[List.getElem?_map,List.getElem?_map,List.getElem?_set]
 split
 ·rename_i OA
  subst OA
  split
  ·rw[hx,Option.map_some,Option.map_some,he]
  ·rename_i hn
   rw[(List.getElem?_eq_none (by omega))] at hx
   cases hx
 ·rfl
theorem MG.set {i:Nat} {r:vM α} {ys:List α} (h:MG f e lo hi b g H rs) (hr:rs[i]? = some r) (hl:ys.length=r.xs.length):MG f e lo hi b g (H.set r.b (.row r.g (ys.map f) e true)) (rs.set i { r with xs:=ys }):=by
 have MX:=h.rows.row r (List.mem_of_getElem? hr)
 refine⟨?_,h.blo,h.bhi,?_,fun s hs => ?_⟩
 ·rw[KU hr (by simp[mK,hl])]
  exact cG MX.2.2.1 h.out
 ·rw[KU (F:=fun r:vM α=>r.b) (y:={ r with xs:=ys }) hr rfl]
  exact h.rows.nd
 ·obtain⟨j,hj⟩:=List.getElem?_of_mem hs
  rw[List.getElem?_set] at hj
  split at hj
  ·rename_i OA
   split at hj
   ·cases hj
    exact⟨MX.1,MX.2.1,MX.2.2.1,by rw[hl];exact MX.2.2.2.1,cS MX.2.2.2.2⟩
   ·cases hj
  ·rename_i OA
   have PR:=h.rows.row s (List.mem_of_getElem? hj)
   exact⟨PR.1,PR.2.1,PR.2.2.1,PR.2.2.2.1,cG (fun he=>OA (h.inj hr hj he)) PR.2.2.2.2⟩
theorem MG.put {i j jI:Nat} {r:vM α} {y:α} (h:MG f e lo hi b g H rs) (hr:rs[i]? = some r) (hj:j<r.xs.length) (eQ:jI≤lo) (hv:(aB (f y)).length=e) (hs:(aB (f y)).all bP=true) :
  bX jI e (.ptr r.b r.g j 0) (f y) H=some (H.set r.b (.row r.g ((r.xs.set j y).map f) e true)) :=
 fF (f:=f) (h.row hr) hj (Nat.le_trans eQ (h.rows.row r (List.mem_of_getElem? hr)).1) hv hs
theorem MG.lt {i:Nat} {r:vM α} (h:MG f e lo hi b g H rs) (hr:rs[i]? = some r):lo≤r.b∧r.b<hi∧r.b<H.length:=⟨(h.rows.row r (List.mem_of_getElem? hr)).1,(h.rows.row r (List.mem_of_getElem? hr)).2.1,iR (h.row hr)⟩
theorem MG.bB {c:Nat} (h:MG f e lo hi b g H rs) (hc:rs.length≤c):RG f e (rs.map (·.xs)) lo hi H (.ref b g 0 rs.length c) := .inr ⟨b,g,c,rs,h.blo,h.bhi,by rw[List.length_map],by rw[List.length_map];exact hc,h.out,rfl,h.rows⟩
theorem MG.fz {d c:Nat} (h:MG f e lo hi b g H rs) (hc:rs.length≤c) (hp:∀x,aN (f x)=true):PM.fz (d+3) H (.ref b g 0 rs.length c)=some (aO (aO f) (rs.map (·.xs))):=U6 hp h.out hc h.rows
theorem MG.wide {jI oJ:Nat} (h:MG f e lo hi b g H rs) (hl:jI≤lo) (hh:hi≤oJ):MG f e jI oJ b g H rs:=⟨h.out,by have:=h.blo;omega,by have:=h.bhi;omega,h.rows.nd,fun r hr=>by
 obtain⟨k1,k2,k3,k4,k5⟩:=h.rows.row r hr
 exact⟨by omega,by omega,k3,k4,k5⟩⟩
end
theorem mH:type_of% (And.intro @eV<|And.intro @Ba<|And.intro @nB.eq_1<|And.intro @qG.eq_1<|And.intro @qG.eq_2<|And.intro @EG.eq_1<|And.intro @EG.eq_2<|And.intro @wP.eq_1<|And.intro @wP.eq_2<|And.intro @FV<|And.intro @Bw<|And.intro @Dy<|And.intro @DE<|And.intro @List.take_zero.{0}<|And.intro @List.take_succ_cons.{0}<|And.intro @List.take_nil.{0}<|And.intro @List.drop_zero.{0}<|And.intro @List.drop_succ_cons.{0}<|And.intro @List.drop_nil.{0}<|And.intro @List.append_nil.{0} <| @Nat.le_refl):=And.intro @eV<|And.intro @Ba<|And.intro @nB.eq_1<|And.intro @qG.eq_1<|And.intro @qG.eq_2<|And.intro @EG.eq_1<|And.intro @EG.eq_2<|And.intro @wP.eq_1<|And.intro @wP.eq_2<|And.intro @FV<|And.intro @Bw<|And.intro @Dy<|And.intro @DE<|And.intro @List.take_zero.{0}<|And.intro @List.take_succ_cons.{0}<|And.intro @List.take_nil.{0}<|And.intro @List.drop_zero.{0}<|And.intro @List.drop_succ_cons.{0}<|And.intro @List.drop_nil.{0}<|And.intro @List.append_nil.{0} <| @Nat.le_refl
def Qw (P:Nat→Nat→aA→VV→Prop) (H:aA) (r:VV) (H':aA):Prop:=H <+: H'∧P H.length H'.length H' r
theorem yC {F lo:Nat} {args:List VV} {P:Nat→Nat→aA→VV→Prop} {H:aA} {K:VV→aA→Prop} (sT:AN.contains F=true) (h:jO F args lo H (Qw P H)) (hk:∀r L,P H.length (H++L).length (H++L) r→K r (H++L)):cT F args lo H K:=by
 refine gC sT (h.mono ?_)
 rintro r H' ⟨⟨L,rfl⟩,hP⟩
 exact hk r L hP
end Go.PM
namespace Go.PM
open Go.Lib
abbrev cell0:bT := .row 0 [.agg [VB false,.tree [] .nil,.tree [] .nil]] 3 true
def gT (qs:List Rat):Rat:=qs.foldl (· + ·) 0
theorem Ah {qs:List Rat} {i:Nat} {q:Rat} (h:qs[i]? = some q):gT (qs.take (i+1))=gT (qs.take i)+q:=by
 rw[jU h,gT,List.foldl_append];rfl
theorem NK {B:Nat}:∀ {qs:List Rat},(∀q∈qs,aZ q≤B)→∀a:Rat,aZ (qs.foldl (· + ·) a)≤qs.length*(B+1)+aZ a
 | [],_,a=>by simp
 |
  q::qs,h,a=>by
  have h1:=NK (fun x hx=>h x (List.mem_cons_of_mem _ hx)) (a+q)
  have h2:=DY a q
  have h3:=h q List.mem_cons_self
  rw[List.foldl_cons,List.length_cons,Nat.succ_mul]
  omega
theorem yK {B:Nat} {qs:List Rat} (h:∀q∈qs,aZ q≤B) (i:Nat):aZ (gT (qs.take i))≤qs.length*(B+1)+1:=by
 have h1:=NK (qs:=qs.take i) (fun q hq=>h q (List.mem_of_mem_take hq)) 0
 have h2:(qs.take i).length*(B+1)≤qs.length*(B+1):=Nat.mul_le_mul_right _ (by rw[List.length_take];omega)
 rw[xR] at h1
 unfold gT
 omega
set_option maxHeartbeats 1000000 in
abbrev rz:VV := .agg [VB false,.tree [] .nil,.tree [] .nil]
theorem Ak {H H1:aA} {b:Nat} {x:bT} (h:H <+: H1) (hb:H.length≤b):H <+: H1.set b x:=by
 obtain⟨L,rfl⟩:=h
 rw[List.set_append_right _ _ hb]
 exact List.prefix_append _ _
theorem RE {H H1 L:aA} (h:H <+: H1):H <+: H1++L:=h.trans (List.prefix_append _ _)
theorem FB {lo:Nat} {H:aA} {q:Rat} (h:lo≤H.length):bX lo 3 (.ptr H.length 0 0 0) (bK q) (H++[cell0])=some (H++[.row 0 [bK q] 3 true]):=by
 rw[cF (g:=0) (e:=3) (j:=0) iZ (by exact Nat.zero_lt_one) h rfl rfl,GD]
 rfl
theorem We {H K:aA} {q:Rat}:cI true 3 (.ptr H.length 0 0 0) (H ++ .row 0 [bK q] 3 true::K)=some (bK q):=by
 rw[cD,Bh,aS]
 exact fD _
theorem SL {lo:Nat} {H:aA} {v:VV} (qs:List Rat) {B:Nat} (hv:Rd bK 3 qs H v) (eQ:lo≤H.length) (hb:∀q∈qs,aZ q≤B) (hk:qs.length*(B+1)+1≤1099511627776) (hB:B≤1099511627776) (hn:qs.length≤1000000000) :
  jO 70 [v] lo H (Qw (fun _ _ _ r=>r=bK (gT qs)) H):=by
 refine jO.walk ⟨true,false⟩ Uw (Nat.le_of_ble_eq_true rfl) ?_
 have e1:TC 64 [VI 0] (bK 0):=Be 0 (by decide) (by decide)
 have e2:=hv.len (H++[cell0,.row 0 [bK 0] 3 true]) (List.prefix_append _ _)
 have s0:bX lo 3 (.ptr (H.length+1) 0 0 0) (bK 0) (H++[cell0,cell0])=some (H++[cell0,.row 0 [bK 0] 3 true]):=by
  have:=FB (lo:=lo) (H:=H++[cell0]) (q:=0) (by rw[List.length_append];omega)
  simpa only[List.length_append,List.length_cons,List.length_nil,Nat.zero_add,List.append_assoc,List.cons_append,List.nil_append] using this
 simp only[Sy,LW,e1,e2,s0,List.length_append,List.length_cons,List.length_nil,List.append_assoc,List.cons_append,List.nil_append,mH,VX,Nat.reduceEqDiff,Nat.reduceAdd,Nat.reduceLeDiff,Nat.reduceLT,Nat.reduceSub]
 refine aQ (fun(i:Nat) ρ H1=>i≤qs.length∧H <+: H1∧aH H1 H.length 0=some ([rz],3,true)∧aH H1 (H.length+1) 0=some ([bK (gT (qs.take i))],3,true)∧ρ 2 = .ptr H.length 0 0 0∧ρ 3 = .ptr (H.length+1) 0 0 0∧ρ 7=v∧ρ 8=VI qs.length∧ρ 9=VI i) (fun i=>qs.length-i) 0 ⟨Nat.zero_le _,List.prefix_append _ _,Bh.trans aS,OC.trans (lB.trans aS),rfl,rfl,rfl,rfl,rfl⟩ ?_
 rintro i ρ H1 ⟨hi,hp,sN,Fy,g2,g3,g7,g8,g9⟩
 have Ds:=iR Fy
 by_cases cP:(i:Int)<(qs.length:Int)
 ·obtain⟨q,hq⟩:∃q,qs[i]? = some q:=⟨_,List.getElem?_eq_getElem (by omega)⟩
  obtain⟨p,a1,a2⟩:=hv.get H1 hp i q hq
  have a2':=(a2 true).trans (fD _)
  have wi:IntKind.i64.wrap ((i:Int)+1)=((i+1:Nat):Int):=wrapN (i+1) (by omega) (by omega)
  have h1:=yK hb i
  have h2:=hb q (List.mem_of_getElem? hq)
  have h3:(i+1)*(B+1)≤qs.length*(B+1):=Nat.mul_le_mul_right _ (by omega)
  have e3:=CR (gT (qs.take i)) q (by omega) (by omega)
  rw[←Ah hq] at e3
  have s1:=FB (lo:=lo) (H:=H1) (q:=q) (by omega)
  have s2:=We (H:=H1) (K:=[]) (q:=q)
  have s3:cI true 3 (.ptr (H.length+1) 0 0 0) (H1++[.row 0 [bK q] 3 true])=some (bK (gT (qs.take i))):=by
   rw[cD,fW Fy]
   exact fD _
  have s4:=cF (lo:=lo) (v:=bK (gT (qs.take (i+1)))) (j:=0) (fW (L:=[.row 0 [bK q] 3 true]) Fy) (by exact Nat.zero_lt_one) (by omega) rfl rfl
  rw[List.set_cons_zero] at s4
  simp only[Dl,g2,g3,g7,g8,g9,cP,a1,a2',e3,s1,s2,s3,s4,wi,fD,mH,VX,Nat.reduceEqDiff,Nat.reduceAdd,Nat.reduceLeDiff,Nat.reduceLT,Nat.reduceSub]
  exact⟨i+1,by omega,by omega,Ak (RE hp) (by omega),cG (by omega) (fW sN),cS (fW Fy),by (repeat' apply And.intro)<;>first | rfl | trivial | assumption⟩
 ·have nS:i=qs.length:=by omega
  subst nS
  rw[List.take_length] at Fy
  have s3:cI true 3 (.ptr (H.length+1) 0 0 0) H1=some (bK (gT qs)):=by
   rw[cD,Fy]
   exact fD _
  have s4:=cF (lo:=lo) (v:=bK (gT qs)) (j:=0) sN (by exact Nat.zero_lt_one) eQ rfl rfl
  rw[List.set_cons_zero] at s4
  have s5:cI true 3 (.ptr H.length 0 0 0) (H1.set H.length (.row 0 [bK (gT qs)] 3 true))=some (bK (gT qs)):=by
   rw[cD,cS sN]
   exact fD _
  simp only[Dl,g2,g3,g8,g9,cP,s3,s4,s5,mH,VX,Nat.reduceEqDiff,Nat.reduceAdd,Nat.reduceLeDiff,Nat.reduceLT,Nat.reduceSub]
  exact⟨Ak hp (Nat.le_refl _),rfl⟩
theorem Ow {q:Rat}:lG q<0↔q<0:=by
 have e:q.num<0↔q<0:=by rw[←Int.not_le,Rat.num_nonneg];constructor<;>intro h<;>grind
 rw[←e]
 rcases Int.lt_trichotomy q.num 0 with h | h | h
 ·rw[oN h];omega
 ·rw[lX h];omega
 ·rw[oU h];omega
theorem Kv (q:Rat):TC 67 [bK q] (VB (decide (q<0))):=by
 refine TC.walk ⟨true,false⟩ KI rfl (Nat.le_of_ble_eq_true rfl) (by simp[aL,kZ]) rfl ?_
 have e1:=mJ q
 by_cases h:lG q<0
 ·rw[decide_eq_true (Ow.1 h)]
  simp only[Bx,xD,e1,h,aK,dN,fD,bF,bE,aT,kQ,Nat.reduceLeDiff,Nat.reduceLT,Nat.reduceSub,CV,jB,kS,rM,yZ,Ad,bne_iff_ne,ne_eq,not_false_eq_true,not_true_eq_false,VX,Nat.reduceEqDiff,Nat.reduceAdd]
  exact aF rfl
 ·rw[decide_eq_false (mt Ow.2 h)]
  simp only[Bx,xD,e1,h,aK,dN,fD,bF,bE,aT,kQ,Nat.reduceLeDiff,Nat.reduceLT,Nat.reduceSub,CV,jB,kS,rM,yZ,Ad,bne_iff_ne,ne_eq,not_false_eq_true,not_true_eq_false,VX,Nat.reduceEqDiff,Nat.reduceAdd]
  exact aF rfl
theorem Bj (xs:List Rat) (g:Nat) (p:Rat→Bool) (hg:∀x∈xs,TC g [bK x] (VB (p x))) (hn:xs.length≤1000000000) :
  ∃k:Int,(0≤k↔xs.any p=true)∧TC 141 [aO bK xs,.tY g []] (VI k):=by
 refine⟨match xs.findIdx? p with | some i=>i | none => -1,?_,?_⟩
 ·cases h:xs.findIdx? p with
  |
   none =>
   rw[List.findIdx?_eq_none_iff] at h
   simp only[List.any_eq_true]
   constructor
   ·intro h';omega
   ·rintro⟨x,hx,hp⟩;rw[h x hx] at hp;cases hp
  |
   some i =>
   simp only[List.any_eq_true]
   obtain⟨hi,hp,_⟩:=List.findIdx?_eq_some_iff_getElem.1 h
   exact⟨fun _=>⟨_,List.getElem_mem hi,hp⟩,fun _=>by omega⟩
 ·refine TC.walk ⟨true,false⟩ nQ rfl (Nat.le_of_ble_eq_true rfl) (by simp[aL,yE];rfl) rfl ?_
  simp only[iE,gQ,VX,Nat.reduceEqDiff,Nat.reduceAdd]
  refine aQ (fun(i:Nat) ρ H=>i≤xs.length∧H=[]∧(∀j x,j<i→xs[j]? = some x→p x=false)∧ρ 0=aO bK xs∧ρ 1 = .tY g []∧ρ 7=VI xs.length∧ρ 8=VI i) (fun i=>xs.length-i) 0 ⟨Nat.zero_le _,rfl,fun j x h=>by omega,rfl,rfl,rfl,rfl⟩ ?_
  rintro i ρ H ⟨hi,rfl,lF,h0,h1,h7,h8⟩
  by_cases cP:(i:Int)<(xs.length:Int)
  ·obtain⟨x,hx⟩:∃x,xs[i]? = some x:=⟨_,List.getElem?_eq_getElem (by omega)⟩
   have e1:=aI (f:=bK) (t := .op) (H:=[]) (size:=3) (k := .i64) hx rfl
   have wi:IntKind.i64.wrap ((i:Int)+1)=((i+1:Nat):Int):=wrapN (i+1) (by omega) (by omega)
   have e2:=hg x (List.mem_of_getElem? hx)
   cases hp:p x with
   |
    false =>
    rw[hp] at e2
    simp only[cN,h0,h1,h7,h8,cP,e1,e2,wi,BF,List.append_nil,aK,dN,fD,bF,bE,aT,VX,Nat.reduceEqDiff,Nat.reduceAdd]
    refine⟨i+1,by omega,by omega,fun j y hj hy => ?_,by (repeat' apply And.intro)<;>first | rfl | trivial⟩
    rcases Nat.lt_or_ge j i with Ec | Ec
    ·exact lF j y Ec hy
    ·have:j=i:=by omega
     subst this
     rw[hx] at hy
     injection hy with hy
     exact hy▸hp
   |
    true =>
    rw[hp] at e2
    simp only[cN,h0,h1,h7,h8,cP,e1,e2,wi,BF,List.append_nil,aK,dN,fD,bF,bE,aT,VX,Nat.reduceEqDiff,Nat.reduceAdd]
    have:xs.findIdx? p=some i:=by
     rw[List.findIdx?_eq_some_iff_getElem]
     obtain⟨bA,Ch⟩:=List.getElem?_eq_some_iff.1 hx
     exact⟨bA,by rw[Ch];exact hp,fun j hj=>by
      have:=lF j _ hj (List.getElem?_eq_getElem (by omega))
      simp[this]⟩
    rw[this]
    exact aF rfl
  ·simp only[cN,h0,h1,h7,h8,cP,VX,Nat.reduceEqDiff,Nat.reduceAdd]
   have:xs.findIdx? p=none:=by
    rw[List.findIdx?_eq_none_iff]
    intro x hx
    obtain⟨j,hj⟩:=List.getElem?_of_mem hx
    exact lF j x (by have:=(List.getElem?_eq_some_iff.1 hj).1;omega) hj
   rw[this]
   exact aF rfl
theorem yN (xs:List Rat) (g:Nat) (p:Rat→Bool) (hg:∀x∈xs,TC g [bK x] (VB (p x))) (hn:xs.length≤1000000000):TC 66 [aO bK xs,.tY g []] (VB (xs.any p)):=by
 refine TC.walk ⟨true,false⟩ lY rfl (Nat.le_of_ble_eq_true rfl) (by simp[aL,yE];rfl) rfl ?_
 obtain⟨k,hk,hc⟩:=Bj xs g p hg hn
 have e:decide (0≤k)=xs.any p:=by
  cases h:xs.any p with
  | true=>rw[decide_eq_true (hk.2 h)]
  | false=>rw[decide_eq_false fun h'=>by rw[hk.1 h'] at h;cases h]
 simp only[gJ,fX,hc,e,VX,Nat.reduceEqDiff,Nat.reduceAdd]
 exact aF rfl
def jP (qs:List Rat):Bool := !(qs.any fun q=>decide (q<0))&&decide (gT qs=1)
def pO (xs:List ByteArray):Option (List Rat):=match BO xs with
 | some qs=>if jP qs=true then some qs else none
 | none=>none
theorem Mx {xs:List ByteArray} {qs:List Rat} (h:pO xs=some qs):BO xs=some qs∧jP qs=true:=by
 unfold pO at h
 split at h
 ·rename_i ps hp
  split at h
  ·rename_i hw
   cases h
   exact⟨hp,hw⟩
  ·cases h
 ·cases h
theorem KW {n:Nat} (h:n≤300):n*(665+1)+1≤1099511627776:=by omega
theorem Cu {xs:List ByteArray} {qs:List Rat} (h:BO xs=some qs):pO xs=if jP qs=true then some qs else none:=by unfold pO;rw[h]
theorem Ix {xs:List ByteArray} (h:BO xs=none):pO xs=none:=by unfold pO;rw[h]
theorem xG:Ni none = .eY [aO bK [],VB false]:=rfl
theorem E7 (qs:List Rat):Ni (some qs) = .eY [aO bK qs,VB true]:=rfl
set_option maxHeartbeats 1000000 in
theorem HY (xs:List ByteArray) (hn:xs.length≤1000000000) (hs:∀s∈xs,s.size≤1000000000):TC 98 [fM xs] (Ni (pO xs)):=by
 refine TC.walk ⟨true,false⟩ HN rfl (Nat.le_of_ble_eq_true rfl) (by simp[aL,gO]) (NC _) ?_
 have e1:=So xs hn hs
 cases h:BO xs with
 |
  none =>
  rw[h,xG] at e1
  rw[Ix h,xG]
  simp only[nY,lC,e1,VX,Nat.reduceEqDiff,Nat.reduceAdd]
  exact EW
 |
  some qs =>
  rw[h,E7] at e1
  rw[Cu h]
  obtain⟨hb,hl,_⟩:=E1 h
  have e2:=yN qs 67 (fun q=>decide (q<0)) (fun q _=>Kv q) (by omega)
  have hm:qs.length*666≤199800:=by omega
  have e3:=fun(K:aA)=>SL (lo:=0) (H:=K) (v:=aO bK qs) qs (B:=665) (Rd.tree DF) (Nat.zero_le _) hb (KW hl) (by decide) (by omega)
  have hsb:=yK hb qs.length
  rw[List.take_length] at hsb
  have e4:=HB (gT qs) (by omega)
  cases Jj:qs.any (fun q=>decide (q<0)) with
  |
   true =>
   rw[Jj] at e2
   have hw:¬jP qs=true:=by unfold jP;rw[Jj];simp
   rw[if_neg hw,xG]
   simp only[nY,lC,e1,e2,VX,Nat.reduceEqDiff,Nat.reduceAdd]
   exact EW
  |
   false =>
   rw[Jj] at e2
   by_cases Xy:gT qs=1
   ·rw[decide_eq_true Xy] at e4
    have hw:jP qs=true:=by unfold jP;rw[Jj,decide_eq_true Xy];rfl
    rw[if_pos hw,E7]
    simp only[nY,lC,e1,e2,VX,Nat.reduceEqDiff,Nat.reduceAdd]
    refine yC rfl (e3 _) fun r L hr => ?_
    subst hr
    simp only[e4,VX,Nat.reduceEqDiff,Nat.reduceAdd]
    exact aF (XS (yE _) rfl)
   ·rw[decide_eq_false Xy] at e4
    have hw:¬jP qs=true:=by unfold jP;rw[Jj,decide_eq_false Xy];simp
    rw[if_neg hw,xG]
    simp only[nY,lC,e1,e2,VX,Nat.reduceEqDiff,Nat.reduceAdd]
    refine yC rfl (e3 _) fun r L hr => ?_
    subst hr
    simp only[e4,VX,Nat.reduceEqDiff,Nat.reduceAdd]
    exact EW
end Go.PM
namespace Go.PM
open Go.Lib
end Go.PM
namespace Go.PM
def zT:aD:=(LS [LO 10 (.bin .lss (LT 9) (LT 8))] (.seq (.cond (LT 10) .skip (.exit 0)) (.seq (.block 1 (LS [LM 11 9,LM 4 11] (.dH [LM 12 3,LM 13 4,LO 14 (.call 64 [(LI 0)]),LO 15 (.lit [(.bool false),(.slice none 0 0),(.slice none 0 0)] 1 [(0,(LT 14))]),LM 16 0,LO 17 (.call 162 [(LT 15),(LT 16)]),LO 18 (.iaddr 1 (LT 12) (LT 13)),LN (.store 1 (LT 18) (LT 17))]))) (.dH [LO 19 (.bin .add (LT 9) (LI 1)),LM 9 19]))))
def F4:aD:=(LS [LO 2 (.mv (.const (.slice none 0 0)))] (LS [LM 5 0,LO 6 (.make [(.slice none 0 0)] 24 (LT 5) (LT 5)),LM 3 6] (.seq (LS [LM 7 3,LO 8 (.len (LT 7)),LO 9 (.mv (LI 0))] (.block 0 (.loop zT))) (LS [LM 20 3,LM 2 20] .ret))))
def KL:aR:=⟨21,[(.tmp 2)],F4⟩
theorem PF:gD 99=some KL:=by kernel_rfl
def rA:aD:=(LS [LO 13 (.bin .lss (LT 12) (LT 11))] (.seq (.cond (LT 13) .skip (.exit 0)) (.seq (.block 1 (LS [LO 14 (.iaddr 1 (LT 10) (LT 12)),LO 15 (LL 14),LM 6 15] (LS [LM 17 6,LO 18 (.call 147 [(LT 17)]),LM 16 18,LO 19 (LX 16 0),LO 20 (LX 16 1),LM 7 19,LM 8 20] (.seq (LS [LM 21 8,LO 22 (.un .not (LT 21))] (.cond (LT 22) (LS [LO 23 (.build [(.slice none 0 0)] [(0,1)] []),LN (.store 1 (LT 2) (LT 23)),LO 3 (.mv LF)] .ret) .skip)) (.dH [LO 24 (LA 0 4),LO 25 (LL 24),LM 26 7,LO 27 (.lit [(.slice none 0 0)] 1 [(0,(LT 26))]),LO 28 (.app 1 24 (LT 25) (LT 27)),LO 29 (LA 0 4),LN (.store 1 (LT 29) (LT 28))]))))) (.dH [LO 30 (.bin .add (LT 12) (LI 1)),LM 12 30]))))
def Ar:aD:=(LS [LO 2 (.new [(.slice none 0 0)]),LO 3 (.mv LF)] (LS [LO 9 (.build [(.slice none 0 0)] [(0,1)] []),LO 4 (.new [(.slice none 0 0)]),LN (.store 1 (LT 4) (LT 9))] (.seq (LS [LM 10 0,LO 11 (.len (LT 10)),LO 12 (.mv (LI 0))] (.block 0 (.loop rA))) (LS [LO 31 (.load true 1 (LT 4)),LN (.store 1 (LT 2) (LT 31)),LO 3 (.mv LG)] .ret))))
def Cw:aR:=⟨32,[(.cell 2 true 1),(.tmp 3)],Ar⟩
theorem Ib:gD 71=some Cw:=by kernel_rfl
end Go.PM
namespace Go.PM
open Go.Lib
abbrev Mr (x:VV):VV := .agg [x]
theorem VF {x:VV}:dA false 1 (Mr x) 0=some x:=rfl
end Go.PM
namespace Go.PM
theorem Ph (n:Nat) (h:n<18446744073709551616):dB .and (.int .u64 (n:Int)) (.int .u64 4294967295)=some (.int .u64 ((n % 4294967296:Nat):Int)):=by
 simp only[dB,if_true]
 have h1:(BitVec.ofInt IntKind.u64.bits (n:Int) &&& BitVec.ofInt IntKind.u64.bits 4294967295).toNat=n % 4294967296:=by
  rw[BitVec.toNat_and]
  have e1:(BitVec.ofInt IntKind.u64.bits (n:Int)).toNat=n:=by
   rw[BitVec.toNat_ofInt]
   simp only[IntKind.bits]
   omega
  have e2:(BitVec.ofInt IntKind.u64.bits 4294967295).toNat=2^32-1:=by
   rw[BitVec.toNat_ofInt]
   simp only[IntKind.bits]
   omega
  rw[e1,e2,Nat.and_two_pow_sub_one_eq_mod]
 rw[h1,dT _ (by omega)]
end Go.PM
namespace Go.PM
def Mo (cs:List jG) (i:Nat):Int:=((cs[i]?).map (·.t)).getD 0
def Yy (cs:List jG) (i:Nat):Int:=((cs[i]?).map (·.w)).getD 0
def klC (cs:List jG) (i:Nat):Int:=((cs[i]?).map (·.k)).getD 0
def Ig (st:List Int) (i:Nat):Int:=(st[i]?).getD 0
theorem Ud {cs:List jG} {i:Nat} {x:jG} (h:cs[i]? = some x):Mo cs i=x.t:=by simp[Mo,h]
theorem amM {cs:List jG} {i:Nat} {x:jG} (h:cs[i]? = some x):Yy cs i=x.w:=by simp[Yy,h]
theorem ZE {st:List Int} {i:Nat} {x:Int} (h:st[i]? = some x):Ig st i=x:=by simp[Ig,h]
def inS (cs:List jG) (st:List Int) (t:Int) (i:Nat):Bool:=decide (0≤Ig st i)&&decide (Ig st i≤t)&&decide (t<Ig st i+Yy cs i)
def bz (cs:List jG) (st:List Int) (t:Int):Nat:=(List.range cs.length).countP (inS cs st t)
def isW (cs:List jG) (st:List Int) (t:Int) (i:Nat):Bool:=decide (Ig st i<0)&&decide (Mo cs i≤t)
def wt (cs:List jG) (st:List Int) (t:Int):List Nat:=(List.range cs.length).filter (isW cs st t)
def Jf (cH:Int) (cs:List jG) (i k:Nat):Bool :=
 if cH=1 then true else if cH=2 then decide (Yy cs i<Yy cs k) else if cH=3 then decide (klC cs i<klC cs k) else false
def yU (cH:Int) (cs:List jG) (b:Option Nat) (i:Nat):Option Nat:=match b with
 | none=>some i
 | some k=>if Jf cH cs i k then some i else some k
def nxt (cH:Int) (cs:List jG) (st:List Int) (t:Int):Option Nat:=(wt cs st t).foldl (yU cH cs) none
def fill (cH rH:Int) (cs:List jG) (t:Int):Nat→List Int→List Int
 | 0,st=>st
 |
  n+1,st=>if (bz cs st t:Int)<rH then (match nxt cH cs st t with
  | none=>st
  | some k=>fill cH rH cs t n (st.set k t)) else st
def full (cH rH:Int) (cs:List jG) (st:List Int) (t:Int):Prop:=rH≤(bz cs st t:Int)∨nxt cH cs st t=none
def runT (cH rH:Int) (cs:List jG):Int→Nat→List Int→List Int
 | _,0,st=>st
 | t,n+1,st=>runT cH rH cs (t+1) n (fill cH rH cs t cs.length st)
def stL (cH rH:Int) (cs:List jG):List Int:=runT cH rH cs 0 100000 (List.replicate cs.length (-1))
section
variable {cH rH:Int} {cs:List jG} {st:List Int} {t:Int}
theorem wD (h:full cH rH cs st t) (n:Nat):fill cH rH cs t n st=st:=by
 cases n with
 | zero=>rfl
 |
  succ n =>
  rw[fill]
  rcases h with h | h
  ·rw[if_neg (by omega)]
  ·split
   ·rw[h]
   ·rfl
theorem Oz (m:Nat):∀(t:Int) (n:Nat),(∀u,t≤u→u<t+m→full cH rH cs st u)→m≤n→runT cH rH cs t n st=runT cH rH cs (t+m) (n-m) st:=by
 induction m with
 | zero=>intro t n _ _;simp
 |
  succ m ih =>
  intro t n h hm
  obtain⟨n,rfl⟩:∃k,n=k+1:=⟨n-1,by omega⟩
  rw[runT,wD (h t (Int.le_refl _) (by omega)),ih (t+1) n (fun u h1 h2=>h u (by omega) (by omega)) (by omega)]
  congr 1
  ·omega
  ·omega
theorem WM (n:Nat):∀(t:Int),(∀u,t≤u→full cH rH cs st u)→runT cH rH cs t n st=st:=by
 intro t h
 rw[Oz n t n (fun u h1 _=>h u h1) (Nat.le_refl _),Nat.sub_self]
 rfl
theorem Vj {a b:Int} (ha:0≤a) (HC:a≤b) (hb:b≤100000) (h:∀u,a≤u→u<b→full cH rH cs st u):runT cH rH cs a (100000-a).toNat st=runT cH rH cs b (100000-b).toNat st:=by
 rw[Oz (b-a).toNat a _ (fun u h1 h2=>h u h1 (by omega)) (by omega)]
 congr 1
 ·omega
 ·omega
theorem acZ {a:Int} (ha:0≤a) (hb:a<100000):runT cH rH cs a (100000-a).toNat st=runT cH rH cs (a+1) (100000-(a+1)).toNat (fill cH rH cs a cs.length st):=by
 rw[show (100000-a).toNat=(100000-(a+1)).toNat+1 by omega,runT]
theorem N6 {ws:List Nat} {k:Nat}:∃j,(ws.foldl (yU cH cs) (some k))=some j∧(j=k∨j∈ws):=by
 induction ws generalizing k with
 | nil=>exact⟨k,rfl,.inl rfl⟩
 |
  cons i ws ih =>
  rw[List.foldl_cons]
  have:∃q,yU cH cs (some k) i=some q∧(q=k∨q=i):=by
   unfold yU
   simp only
   split
   ·exact⟨i,rfl,.inr rfl⟩
   ·exact⟨k,rfl,.inl rfl⟩
  obtain⟨q,hq,hqq⟩:=this
  rw[hq]
  obtain⟨j,h1,h2⟩:=ih (k:=q)
  refine⟨j,h1,?_⟩
  rcases h2 with rfl | h2
  ·rcases hqq with rfl | rfl
   ·exact .inl rfl
   ·exact .inr List.mem_cons_self
  ·exact .inr (List.mem_cons_of_mem _ h2)
theorem yA:nxt cH cs st t=none↔wt cs st t=[]:=by
 unfold nxt
 cases h:wt cs st t with
 | nil=>exact⟨fun _=>rfl,fun _=>rfl⟩
 |
  cons i ws =>
  refine⟨fun h2 => ?_,fun h2=>(by cases h2)⟩
  rw[List.foldl_cons] at h2
  obtain⟨j,h3,_⟩:=N6 (cH:=cH) (cs:=cs) (ws:=ws) (k:=i)
  rw[show yU cH cs none i=some i from rfl,h3] at h2
  cases h2
theorem PE {k:Nat} (h:nxt cH cs st t=some k):k∈wt cs st t:=by
 unfold nxt at h
 cases hw:wt cs st t with
 | nil=>rw[hw] at h;cases h
 |
  cons i ws =>
  rw[hw,List.foldl_cons] at h
  obtain⟨j,h3,h4⟩:=N6 (cH:=cH) (cs:=cs) (ws:=ws) (k:=i)
  rw[show yU cH cs none i=some i from rfl,h3] at h
  injection h with h
  subst h
  rcases h4 with rfl | h4
  ·exact List.mem_cons_self
  ·exact List.mem_cons_of_mem _ h4
theorem LR {k:Nat}:k∈wt cs st t↔k<cs.length∧Ig st k<0∧Mo cs k≤t:=by
 simp[wt,isW]
theorem abY:(wt cs st t).Nodup:=List.Pairwise.filter _ List.nodup_range
theorem Gb {k i:Nat} (hk:k<st.length):Ig (st.set k t) i=if i=k then t else Ig st i:=by
 unfold Ig
 rw[List.getElem?_set]
 by_cases h:i=k
 ·subst h
  simp[hk]
 ·rw[if_neg (fun h'=>h h'.symm),if_neg h]
theorem O1 {p q:Nat→Bool} {k:Nat} (hp:p k=false) (h:∀i,i≠k→q i=p i):∀n,(List.range n).countP q=(List.range n).countP p+if k<n∧q k=true then 1 else 0:=by
 intro n
 induction n with
 | zero=>simp
 |
  succ n ih =>
  rw[List.range_succ,List.countP_append,List.countP_append,ih]
  by_cases hk:n=k
  ·subst hk
   simp only[List.countP_singleton,hp]
   cases hq:q n<;>simp
  ·rw[List.countP_singleton,List.countP_singleton,h n hk]
   have:(k<n+1∧q k=true)↔(k<n∧q k=true):=by
    constructor
    ·rintro⟨h1,h2⟩;exact⟨by omega,h2⟩
    ·rintro⟨h1,h2⟩;exact⟨by omega,h2⟩
   simp only[this]
   omega
theorem akL {k:Nat} {u:Int} (hk:k<cs.length) (hl:st.length=cs.length) (hs:Ig st k<0) (h0:0≤t):bz cs (st.set k t) u=bz cs st u+if t≤u∧u<t+Yy cs k then 1 else 0:=by
 unfold bz
 rw[O1 (p:=inS cs st u) (q:=inS cs (st.set k t) u) (k:=k)]
 ·congr 1
  have:(k<cs.length∧inS cs (st.set k t) u k=true)↔(t≤u∧u<t+Yy cs k):=by
   simp only[inS,Gb (t:=t) (i:=k) (by omega:k<st.length),if_true,Bool.and_eq_true,decide_eq_true_eq]
   constructor
   ·rintro⟨_,⟨_,h1⟩,h2⟩;exact⟨h1,h2⟩
   ·rintro⟨h1,h2⟩;exact⟨hk,⟨h0,h1⟩,h2⟩
  simp only[this]
 ·simp only[inS]
  rw[decide_eq_false (by omega)]
  rfl
 ·intro i hi
  simp only[inS,Gb (t:=t) (i:=i) (by omega:k<st.length),if_neg hi]
theorem amH {k:Nat} {u:Int} (hl:st.length=cs.length) (hk:k<cs.length) (h0:0≤t):wt cs (st.set k t) u=(wt cs st u).filter (· != k):=by
 unfold wt
 rw[List.filter_filter]
 refine List.filter_congr fun i hi => ?_
 simp only[isW,Gb (t:=t) (i:=i) (by omega:k<st.length)]
 by_cases h:i=k
 ·subst h
  simp
  omega
 ·simp[h]
def Fw (st:List Int):Nat:=st.countP (fun s=>decide (s<0))
theorem AW {k:Nat} (hk:k<st.length) (hs:Ig st k<0) (h0:0≤t):Fw (st.set k t)+1=Fw st:=by
 unfold Fw
 rw[List.countP_set hk]
 have hx:st[k]=Ig st k:=by
  rw[ZE (x:=st[k]) (List.getElem?_eq_getElem hk)]
 have h1:decide (st[k]<0)=true:=by rw[hx];exact decide_eq_true hs
 have h2:decide (t<0)=false:=decide_eq_false (by omega)
 have h3:0<st.countP (fun s=>decide (s<0)):=by
  rw[List.countP_pos_iff]
  exact⟨st[k],List.getElem_mem hk,h1⟩
 simp only[h1,h2,if_true,Bool.false_eq_true,if_false]
 omega
theorem XG (hl:st.length=cs.length) (h0:0≤t):∀(n m:Nat),Fw st≤n→Fw st≤m→fill cH rH cs t n st=fill cH rH cs t m st:=by
 intro n
 induction n generalizing st with
 |
  zero =>
  intro m hn hm
  have hf:full cH rH cs st t:=by
   right
   rw[yA]
   cases hw:wt cs st t with
   | nil=>rfl
   |
    cons i ws =>
    have h1:i∈wt cs st t:=by rw[hw];exact List.mem_cons_self
    obtain⟨h2,h3,_⟩:=LR.1 h1
    have:=AW (t:=t) (by omega:i<st.length) h3 h0
    omega
  rw[wD hf,wD hf]
 |
  succ n ih =>
  intro m hn hm
  cases m with
  |
   zero =>
   have hf:full cH rH cs st t:=by
    right
    rw[yA]
    cases hw:wt cs st t with
    | nil=>rfl
    |
     cons i ws =>
     have h1:i∈wt cs st t:=by rw[hw];exact List.mem_cons_self
     obtain⟨h2,h3,_⟩:=LR.1 h1
     have:=AW (t:=t) (by omega:i<st.length) h3 h0
     omega
   rw[wD hf,wD hf]
  |
   succ m =>
   rw[fill,fill]
   split
   ·split
    ·rfl
    ·rename_i k hk
     obtain⟨h2,h3,_⟩:=LR.1 (PE hk)
     have:=AW (t:=t) (by omega:k<st.length) h3 h0
     exact ih (by simp[hl]) m (by omega) (by omega)
   ·rfl
theorem Wd:Fw st≤st.length:=List.countP_le_length
theorem Yb {k:Nat} (hl:st.length=cs.length) (h0:0≤t) (hb:(bz cs st t:Int)<rH) (hk:nxt cH cs st t=some k):fill cH rH cs t cs.length (st.set k t)=fill cH rH cs t cs.length st:=by
 obtain⟨h2,h3,_⟩:=LR.1 (PE hk)
 have h4:=AW (t:=t) (by omega:k<st.length) h3 h0
 have h5:=Wd (st:=st)
 rw[XG (st:=st) hl h0 cs.length (cs.length+1) (by omega) (by omega)]
 conv=>rhs;rw[fill,if_pos hb,hk]
def evT (cs:List jG) (st:List Int) (i:Nat):Int:=if 0≤Ig st i then Ig st i+Yy cs i else Mo cs i
def ajF (cs:List jG) (st:List Int) (t:Int) (b:Int) (i:Nat):Int:=if t<evT cs st i∧(b<0∨evT cs st i<b) then evT cs st i else b
def later (cs:List jG) (st:List Int) (t:Int):Int:=(List.range cs.length).foldl (ajF cs st t) (-1)
structure Way (cs:List jG) (st:List Int) (t:Int):Prop where
 len:st.length=cs.length
 low:∀i,i<cs.length → -1≤Ig st i
 high:∀i,i<cs.length→Ig st i≤t
 bd:∀i,i<cs.length→Ig st i+1000*(Fw st:Int)≤10000+1000*(cs.length:Int)
 tm:0≤t∧t+1000*(Fw st:Int)≤11000+1000*(cs.length:Int)
theorem Way.set {k:Nat} (h:Way cs st t) (hk:k<cs.length) (hs:Ig st k<0):Way cs (st.set k t) t:=by
 have hl:=h.len
 have YB:=h.tm
 have h4:=AW (t:=t) (by omega:k<st.length) hs YB.1
 refine⟨by simp[hl],fun i hi => ?_,fun i hi => ?_,fun i hi => ?_,YB.1,by omega⟩
 all_goals rw[Gb (by omega:k<st.length)]
 ·have:=h.low i hi
  split<;>omega
 ·have:=h.high i hi
  split<;>omega
 ·have:=h.bd i hi
  split<;>omega
theorem Way.le (h:Way cs st t) (hc:mC cs):t≤35000∧∀i,i<cs.length→Ig st i≤34000:=by
 have hlen:=hc.2
 have YB:=h.tm
 refine⟨by omega,fun i hi => ?_⟩
 have:=h.bd i hi
 omega
theorem mC.bnd (hc:mC cs) {i:Nat} (hi:i<cs.length):(0≤Mo cs i∧Mo cs i≤10000)∧(1≤Yy cs i∧Yy cs i≤1000):=by
 have hx:cs[i]? = some cs[i]:=List.getElem?_eq_getElem hi
 have:=hc.at hx
 rw[Ud hx,amM hx]
 exact⟨this.1,this.2.1⟩
def K9 (cH:Int) (cs:List jG) (ws:List Nat):Nat :=
 if cH=1 then ws.length-1 else if cH=2∨cH=3 then (List.range ws.length).foldl (fun b k=>if Jf cH cs (ws.getD k 0) (ws.getD b 0) then k else b) 0 else 0
theorem T0 {ws:List Nat} {k:Nat} (h:∀i j,Jf cH cs i j=false):ws.foldl (yU cH cs) (some k)=some k:=by
 induction ws with
 | nil=>rfl
 |
  cons i ws ih =>
  rw[List.foldl_cons]
  have:yU cH cs (some k) i=some k:=by
   unfold yU
   simp only[h]
   rfl
  rw[this,ih]
theorem abH {ws:List Nat} (fC:ws≠[]) (hr:0≤cH∧cH≤3):K9 cH cs ws<ws.length∧ws[K9 cH cs ws]? = ws.foldl (yU cH cs) none:=by
 have hlen:0<ws.length:=List.length_pos_iff.2 fC
 unfold K9
 by_cases h1:cH=1
 ·rw[if_pos h1]
  rcases List.eq_nil_or_concat ws with rfl | ⟨xs,y,rfl⟩
  ·exact absurd rfl fC
  ·rw[List.concat_eq_append,List.foldl_append]
   refine⟨by simp,?_⟩
   simp only[List.length_append,List.length_cons,List.length_nil,Nat.zero_add,Nat.add_sub_cancel,List.foldl_cons,List.foldl_nil]
   rw[List.getElem?_append_right (Nat.le_refl _),Nat.sub_self]
   unfold yU
   split
   ·rfl
   ·simp only[Jf,if_pos h1,if_true]
    rfl
 ·rw[if_neg h1]
  by_cases h2:cH=2∨cH=3
  ·rw[if_pos h2]
   have auI:∀i,Jf cH cs i i=false:=fun i=>by
    unfold Jf
    rw[if_neg h1]
    split
    ·exact decide_eq_false (by omega)
    ·split
     ·exact decide_eq_false (by omega)
     ·rfl
   have key:∀n,n<ws.length→(List.range (n+1)).foldl (fun b k=>if Jf cH cs (ws.getD k 0) (ws.getD b 0) then k else b) 0<ws.length ∧
     ws[(List.range (n+1)).foldl (fun b k=>if Jf cH cs (ws.getD k 0) (ws.getD b 0) then k else b) 0]? = (ws.take (n+1)).foldl (yU cH cs) none:=by
    intro n
    induction n with
    |
     zero =>
     intro _
     have:(List.range (0+1)).foldl (fun b k=>if Jf cH cs (ws.getD k 0) (ws.getD b 0) then k else b) 0=0:=by
      simp[List.range_succ,auI]
     rw[this]
     refine⟨hlen,?_⟩
     cases ws with
     | nil=>exact absurd rfl fC
     | cons i ws=>rfl
    |
     succ n ih =>
     intro hn
     obtain⟨g1,g2⟩:=ih (by omega)
     rw[List.range_succ,List.foldl_append,List.foldl_cons,List.foldl_nil]
     generalize (List.range (n+1)).foldl (fun b k=>if Jf cH cs (ws.getD k 0) (ws.getD b 0) then k else b) 0=b at *
     obtain⟨x,hx⟩:∃x,ws[n+1]? = some x:=⟨_,List.getElem?_eq_getElem hn⟩
     obtain⟨y,hy⟩:∃y,ws[b]? = some y:=⟨_,List.getElem?_eq_getElem g1⟩
     rw[List.take_add_one,hx,List.foldl_append,←g2,hy]
     simp only[Option.toList_some,List.foldl_cons,List.foldl_nil,List.getD_eq_getElem?_getD,hx,hy,Option.getD_some,yU]
     split
     ·exact⟨hn,hx⟩
     ·exact⟨g1,hy⟩
   have:=key (ws.length-1) (by omega)
   rw[show ws.length-1+1=ws.length by omega,List.take_of_length_le (Nat.le_refl _)] at this
   exact this
  ·rw[if_neg h2]
   refine⟨hlen,?_⟩
   have hb:∀i j,Jf cH cs i j=false:=fun i j=>by
    unfold Jf
    rw[if_neg h1,if_neg (by omega),if_neg (by omega)]
   cases ws with
   | nil=>exact absurd rfl fC
   |
    cons i ws =>
    rw[List.foldl_cons,show yU cH cs none i=some i from rfl,T0 hb]
    rfl
end
end Go.PM
namespace Go.PM
def TE (st:List Int) (i:Nat):Bool:=decide (Ig st i<0)
def gtB (u e:Int):Bool:=decide (u<e)
section
variable {cH rH:Int} {cs:List jG} {st:List Int} {t:Int}
theorem mC.sorted (hc:mC cs):∀ {i j:Nat},i≤j→j<cs.length→Mo cs i≤Mo cs j:=by
 intro i j OA hj
 induction j with
 |
  zero =>
  have:i=0:=by omega
  subst this
  exact Int.le_refl _
 |
  succ j ih =>
  rcases Nat.lt_or_ge i (j+1) with h | h
  ·have h1:=ih (by omega) (by omega)
   have hx:cs[j+1]? = some cs[j+1]:=List.getElem?_eq_getElem hj
   have hy:cs[j]? = some cs[j]:=List.getElem?_eq_getElem (by omega)
   have h2:=(hc.1 (j+1) _ hx).2 _ (by omega) (by rw[Nat.add_sub_cancel];exact hy)
   rw[Ud hx]
   rw[Ud hy] at h1
   omega
  ·have:i=j+1:=by omega
   subst this
   exact Int.le_refl _
theorem Gj {eX:Nat} (anX:eX≤cs.length) (past:∀i,i<eX→Mo cs i≤t) (fut:∀i,eX≤i→i<cs.length→t<Mo cs i):wt cs st t=(List.range eX).filter (TE st):=by
 unfold wt
 rw[show cs.length=eX+(cs.length-eX) by omega,List.range_add,List.filter_append]
 have h1:(List.range eX).filter (isW cs st t)=(List.range eX).filter (TE st):=by
  refine List.filter_congr fun i hi => ?_
  rw[List.mem_range] at hi
  simp[isW,TE,past i hi]
 have h2:((List.range (cs.length-eX)).map fun x=>eX+x).filter (isW cs st t)=[]:=by
  rw[List.filter_eq_nil_iff]
  intro i hi
  obtain⟨j,hj,rfl⟩:=List.mem_map.1 hi
  rw[List.mem_range] at hj
  have:=fut (eX+j) (by omega) (by omega)
  simp only[isW,Bool.and_eq_true,decide_eq_true_eq]
  omega
 rw[h1,h2,List.append_nil]
structure O7 (cH rH:Int) (cs:List jG) (st:List Int) (t:Int) (eX:Nat) (ws:List Nat) (ends:List Int):Prop where
 len:st.length=cs.length
 low:∀i,i<cs.length → -1≤Ig st i
 high:∀i,i<cs.length→Ig st i≤t
 bd:∀i,i<cs.length→Ig st i+1000*(Fw st:Int)≤10000+1000*(cs.length:Int)
 tm : -1≤t
 N0:eX≤cs.length
 past:∀i,i<eX→Mo cs i≤t
 fut:∀i,eX≤i→i<cs.length→t<Mo cs i∧Ig st i<0
 wsq:ws=wt cs st t
 cnt:∀u,t≤u→ends.countP (gtB u)=bz cs st u
 ef:∀e∈ends,t<e
 eb:∀e∈ends,e+1000*(Fw st:Int)≤11000+1000*(cs.length:Int)
 fl:full cH rH cs st t
 room:ws.length+ends.length≤eX
 es:(ends.length:Int)≤rH
 run:runT cH rH cs (t+1) (100000-(t+1)).toNat st=stL cH rH cs
theorem F2 {n i:Nat} (h:i<n):Ig (List.replicate n (-1)) i = -1:=ZE (by rw[List.getElem?_replicate,if_pos h])
theorem O7.start (hc:mC cs) (hs:1≤rH):O7 cH rH cs (List.replicate cs.length (-1)) (-1) 0 [] []:=by
 have hw:wt cs (List.replicate cs.length (-1)) (-1)=[]:=by
  rw[Gj (Nat.zero_le _) (fun i hi=>by omega) fun i _ hi=>by have:=hc.bnd hi;omega]
  rfl
 have hu:Fw (List.replicate cs.length (-1))=cs.length:=by simp[Fw,List.countP_replicate]
 refine⟨by simp,fun i hi=>by rw[F2 hi];decide,fun i hi=>by rw[F2 hi];decide,fun i hi=>by rw[F2 hi,hu];omega,by decide,Nat.zero_le _,fun i hi=>by omega,fun i _ hi=>⟨by have:=hc.bnd hi;omega,by rw[F2 hi];decide⟩,hw.symm,fun u _ => ?_,fun e he=>(by cases he),fun e he=>(by cases he),.inr (yA.2 hw),Nat.le_refl _,by simp;omega,rfl⟩
 unfold bz
 rw[(List.countP_eq_zero (p:=inS cs (List.replicate cs.length (-1)) u)).2]
 ·rfl
 ·intro i hi
  rw[List.mem_range] at hi
  simp only[inS,F2 hi,Bool.and_eq_true,decide_eq_true_eq]
  omega
def PV (w:Bool) (b e:Int):Int:=if b<0∨(w=true∧e<b) then e else b
theorem akX {es:List Int} {b:Int} (h:0≤b):es.foldl (PV false) b=b:=by
 induction es with
 | nil=>rfl
 |
  cons e es ih =>
  rw[List.foldl_cons]
  have:PV false b e=b:=by
   unfold PV
   rw[if_neg (by simp;omega)]
  rw[this,ih]
theorem aiJ:∀ {es:List Int} {b:Int},(∀e∈es,0≤e)→(es.foldl (PV true) b=b∨es.foldl (PV true) b∈es)∧(∀e∈es,es.foldl (PV true) b≤e)∧(0≤b→es.foldl (PV true) b≤b)∧(es≠[]→0≤es.foldl (PV true) b)
 | [],b,_=>⟨.inl rfl,fun e he=>(by cases he),fun _=>Int.le_refl _,fun h=>absurd rfl h⟩
 |
  e::es,b,h=>by
  rw[List.foldl_cons]
  have h1:=h e List.mem_cons_self
  have h2:∀e'∈es,0≤e':=fun e' he=>h e' (List.mem_cons_of_mem _ he)
  have hm:(PV true b e=b∨PV true b e=e)∧PV true b e≤e∧(0≤b→PV true b e≤b)∧0≤PV true b e:=by
   unfold PV
   by_cases hc:b<0∨(true=true∧e<b)
   ·rw[if_pos hc]
    refine⟨.inr rfl,Int.le_refl _,fun hb => ?_,h1⟩
    rcases hc with hc | hc<;>omega
   ·rw[if_neg hc]
    simp at hc
    exact⟨.inl rfl,hc.2,fun _=>Int.le_refl _,hc.1⟩
  obtain⟨m1,m2,m3,m4⟩:=hm
  obtain⟨g1,g2,g3,g4⟩:=aiJ (es:=es) (b:=PV true b e) h2
  have g3:=g3 m4
  refine⟨?_,?_,fun hb=>by have:=m3 hb;omega,fun _ => ?_⟩
  ·rcases g1 with g1 | g1
   ·rw[g1]
    rcases m1 with m1 | m1
    ·exact .inl m1
    ·rw[m1];exact .inr List.mem_cons_self
   ·exact .inr (List.mem_cons_of_mem _ g1)
  ·intro e' he
   rcases List.mem_cons.1 he with rfl | he
   ·omega
   ·exact g2 e' he
  ·rcases g1 with g1 | g1
   ·rw[g1];exact m4
   ·exact h2 _ g1
def Pc (cs:List jG) (eX:Nat):Int:=if eX<cs.length then Mo cs eX else -1
def KM (cs:List jG) (eX:Nat) (ws:List Nat) (ends:List Int):Int:=ends.foldl (PV (decide (0<ws.length))) (Pc cs eX)
theorem O7.abK {eX:Nat} {ws:List Nat} {ends:List Int} (h:O7 cH rH cs st t eX ws ends):ends.length=bz cs st t:=by
 rw[←h.cnt t (Int.le_refl _),List.countP_eq_length.2]
 intro e he
 exact decide_eq_true (h.ef e he)
theorem O7.time {eX:Nat} {ws:List Nat} {ends:List Int} (h:O7 cH rH cs st t eX ws ends) (hc:mC cs) (hs:1≤rH) (hg:eX<cs.length∨0<ws.length) :
  (t<KM cs eX ws ends∧KM cs eX ws ends+1000*(Fw st:Int)≤11000+1000*(cs.length:Int))∧(∀i,eX≤i→i<cs.length→KM cs eX ws ends≤Mo cs i) ∧
   (eX<cs.length∧Mo cs eX=KM cs eX ws ends∨0<ws.length∧KM cs eX ws ends∈ends)∧runT cH rH cs (KM cs eX ws ends) (100000-KM cs eX ws ends).toNat st=stL cH rH cs:=by
 have YB:=h.tm
 have PS:=Wd (st:=st)
 have hlen:=h.len
 have he0:∀e∈ends,0≤e:=fun e he=>by have:=h.ef e he;omega
 have awU:=hc.2
 by_cases hw:0<ws.length
 ·have hbz:rH≤(bz cs st t:Int):=by
   rcases h.fl with hf | hf
   ·exact hf
   ·rw[yA,←h.wsq] at hf
    rw[hf] at hw
    simp at hw
  have fC:ends≠[]:=by
   intro he
   have:=h.abK
   rw[he] at this
   simp at this
   omega
  obtain⟨g1,g2,g3,g4⟩:=aiJ (es:=ends) (b:=Pc cs eX) he0
  have Wr:KM cs eX ws ends=ends.foldl (PV true) (Pc cs eX):=by unfold KM;rw[decide_eq_true hw]
  rw[Wr]
  generalize ends.foldl (PV true) (Pc cs eX)=w at *
  have g4:=g4 fC
  have Kk:(eX<cs.length∧Mo cs eX=w)∨w∈ends:=by
   rcases g1 with g1 | g1
   ·unfold Pc at g1
    split at g1
    ·rename_i mX
     exact .inl ⟨mX,g1.symm⟩
    ·omega
   ·exact .inr g1
  have htw:t<w∧w+1000*(Fw st:Int)≤11000+1000*(cs.length:Int):=by
   rcases Kk with⟨h1,h2⟩ | h1
   ·have:=h.fut eX (Nat.le_refl _) h1
    have:=hc.bnd h1
    omega
   ·exact⟨h.ef _ h1,h.eb _ h1⟩
  refine⟨htw,fun i h1 h2 => ?_,Kk.imp id fun h1=>⟨hw,h1⟩,?_⟩
  ·have h3:=hc.sorted h1 h2
   have h4:=hc.bnd (i:=eX) (by omega)
   have h5:Pc cs eX=Mo cs eX:=by unfold Pc;rw[if_pos (by omega)]
   have:=g3 (by rw[h5];omega)
   omega
  ·rw[←h.run]
   refine(Vj (by omega) (by omega) (by omega) fun u h1 h2 => .inl ?_).symm
   rw[←h.cnt u (by omega),(List.countP_eq_length (p:=gtB u)).2 fun e he=>decide_eq_true (by have:=g2 e he;omega),h.abK]
   exact hbz
 ·have mX:eX<cs.length:=by omega
  have h5:Pc cs eX=Mo cs eX:=by unfold Pc;rw[if_pos mX]
  have h4:=hc.bnd mX
  have hf:=(h.fut eX (Nat.le_refl _) mX).1
  have Wr:KM cs eX ws ends=Mo cs eX:=by unfold KM;rw[decide_eq_false hw,akX (by rw[h5];omega),h5]
  rw[Wr]
  refine⟨⟨hf,by omega⟩,fun i h1 h2=>hc.sorted h1 h2,.inl ⟨mX,rfl⟩,?_⟩
  rw[←h.run]
  refine(Vj (by omega) (by omega) (by omega) fun u h1 h2 => .inr ?_).symm
  rw[yA,Gj h.N0 (fun i hi=>by have:=h.past i hi;omega) fun i h3 h4=>by have:=hc.sorted h3 h4;omega]
  have e1:=Gj (st:=st) h.N0 h.past fun i h3 h4=>(h.fut i h3 h4).1
  rw[←e1,←h.wsq]
  exact List.eq_nil_of_length_eq_zero (by omega)
theorem O7.done {eX:Nat} {ws:List Nat} {ends:List Int} (h:O7 cH rH cs st t eX ws ends) (anX:¬eX<cs.length) (hw:¬0<ws.length):st=stL cH rH cs:=by
 rw[←h.run]
 refine(WM _ _ fun u hu => .inr ?_).symm
 have mX:=h.N0
 have e1:=Gj (st:=st) h.N0 h.past fun i h3 h4=>(h.fut i h3 h4).1
 rw[yA,Gj h.N0 (fun i hi=>by have:=h.past i hi;omega) fun i h3 h4=>by omega,←e1,←h.wsq]
 exact List.eq_nil_of_length_eq_zero (by omega)
structure Ph4 (cH rH:Int) (cs:List jG) (st0:List Int) (now:Int) (eX tot:Nat) (st:List Int) (ws:List Nat) (ends:List Int):Prop where
 Yk:Way cs st now
 wsq:ws=wt cs st now
 cnt:∀u,now≤u→ends.countP (gtB u)=bz cs st u
 ef:∀e∈ends,now<e
 eb:∀e∈ends,e+1000*(Fw st:Int)≤11000+1000*(cs.length:Int)
 fl:fill cH rH cs now cs.length st=fill cH rH cs now cs.length st0
 past:∀i,i<eX→Mo cs i≤now
 fut:∀i,eX≤i→i<cs.length→now<Mo cs i∧Ig st i<0
 tot:ws.length+ends.length=tot
 es:(ends.length:Int)≤rH
theorem BQ:∀ {l:List Nat} {i k:Nat},l.Nodup→l[i]? = some k→l.eraseIdx i=l.filter (· != k)
 | [],_,_,_,h=>by cases h
 |
  x::l,0,k,hn,h=>by
  injection h with h
  subst h
  rw[List.nodup_cons] at hn
  rw[List.eraseIdx_cons_zero,List.filter_cons_of_neg (by simp),List.filter_eq_self.2]
  intro y hy
  have:y≠x:=fun he=>hn.1 (he▸hy)
  simpa using this
 |
  x::l,i+1,k,hn,h=>by
  rw[List.nodup_cons] at hn
  rw[List.getElem?_cons_succ] at h
  have hx:x≠k:=fun he=>hn.1 (he▸List.mem_of_getElem? h)
  rw[List.eraseIdx_cons_succ,List.filter_cons_of_pos (by simpa using hx),BQ hn.2 h]
theorem Ph4.step {now:Int} {st0:List Int} {eX tot:Nat} {ws:List Nat} {ends:List Int} (h:Ph4 cH rH cs st0 now eX tot st ws ends) (hc:mC cs) (hr:0≤cH∧cH≤3) (hb:(ends.length:Int)<rH) (fC:0<ws.length) :
  ∃k,ws[K9 cH cs ws]? = some k∧k<cs.length∧K9 cH cs ws<ws.length∧(0≤now∧now≤35000)∧Ph4 cH rH cs st0 now eX tot (st.set k now) (ws.eraseIdx (K9 cH cs ws)) (ends++[now+Yy cs k]):=by
 have Xk:ws≠[]:=fun he=>by rw[he] at fC;simp at fC
 obtain⟨g1,g2⟩:=abH (cs:=cs) Xk hr
 obtain⟨k,hk⟩:∃k,ws[K9 cH cs ws]? = some k:=⟨_,List.getElem?_eq_getElem g1⟩
 have hnx:nxt cH cs st now=some k:=by
  unfold nxt
  rw[←h.wsq,←g2,hk]
 obtain⟨m1,m2,m3⟩:=LR.1 (PE hnx)
 have YB:=h.Yk.tm
 have hle:=(h.Yk.le hc).1
 have hbz:(bz cs st now:Int)=ends.length:=by
  rw[←h.cnt now (Int.le_refl _),(List.countP_eq_length (p:=gtB now)).2 fun e he=>decide_eq_true (h.ef e he)]
 have OO:k<st.length:=by rw[h.Yk.len];exact m1
 have hus:=AW (t:=now) OO m2 YB.1
 have hwk:=(hc.bnd m1).2
 refine⟨k,hk,m1,g1,⟨YB.1,hle⟩,h.Yk.set m1 m2,?_,?_,?_,?_,?_,h.past,?_,?_,?_⟩
 ·rw[amH h.Yk.len m1 YB.1,←h.wsq]
  exact BQ (by rw[h.wsq];exact abY) hk
 ·intro u hu
  rw[List.countP_append,h.cnt u hu,akL m1 h.Yk.len m2 YB.1,List.countP_singleton]
  congr 1
  simp only[gtB,decide_eq_true_eq]
  by_cases hq:u<now+Yy cs k
  ·rw[if_pos hq,if_pos ⟨hu,hq⟩]
  ·rw[if_neg hq,if_neg fun h'=>hq h'.2]
 ·intro e he
  rcases List.mem_append.1 he with he | he
  ·exact h.ef e he
  ·rw[List.mem_singleton] at he
   omega
 ·intro e he
  rcases List.mem_append.1 he with he | he
  ·have:=h.eb e he
   omega
  ·rw[List.mem_singleton] at he
   omega
 ·rw[Yb h.Yk.len YB.1 (by rw[hbz];exact hb) hnx,h.fl]
 ·intro i h1 h2
  have h3:=h.fut i h1 h2
  refine⟨h3.1,?_⟩
  rw[Gb OO,if_neg (fun he=>by subst he;omega)]
  exact h3.2
 ·rw[List.length_eraseIdx_of_lt g1,List.length_append,List.length_cons,List.length_nil]
  have:=h.tot
  omega
 ·rw[List.length_append,List.length_cons,List.length_nil]
  omega
theorem Ph4.done {now:Int} {st0:List Int} {eX tot:Nat} {ws:List Nat} {ends:List Int} (h:Ph4 cH rH cs st0 now eX tot st ws ends) (hc:mC cs) (mX:eX≤cs.length) (ht:tot≤eX) (hf:rH≤(ends.length:Int)∨ws=[])
  (hr:runT cH rH cs now (100000-now).toNat st0=stL cH rH cs):O7 cH rH cs st now eX ws ends:=by
 have YB:=h.Yk.tm
 have hle:=(h.Yk.le hc).1
 have hbz:(bz cs st now:Int)=ends.length:=by
  rw[←h.cnt now (Int.le_refl _),(List.countP_eq_length (p:=gtB now)).2 fun e he=>decide_eq_true (h.ef e he)]
 have aiM:full cH rH cs st now:=by
  rcases hf with hf | hf
  ·exact .inl (by rw[hbz];exact hf)
  ·exact .inr (yA.2 (by rw[←h.wsq];exact hf))
 refine⟨h.Yk.len,h.Yk.low,h.Yk.high,h.Yk.bd,by omega,mX,h.past,h.fut,h.wsq,h.cnt,h.ef,h.eb,aiM,by rw[h.tot];exact ht,h.es,?_⟩
 have h1:=wD aiM cs.length
 rw[h.fl] at h1
 rw[acZ YB.1 (by omega),h1] at hr
 exact hr
end
end Go.PM
namespace Go.PM
theorem Eg (n:Nat) (h:n<4294967296):TC 207 [VK .u64 1,VK .u64 (n:Int)] (.eY [VK .u64 0,VK .u64 (n:Int)]):=by
 refine TC.walk ⟨true,false⟩ GK rfl (Nat.le_of_ble_eq_true rfl) rfl rfl ?_
 have a1:dB .and (.int .u64 1) (.int .u64 4294967295)=some (.int .u64 1):=Ph 1 (by decide)
 have a2:dB .and (.int .u64 (n:Int)) (.int .u64 4294967295)=some (.int .u64 (n:Int)):=by rw[Ph n (by omega),Nat.mod_eq_of_lt h]
 have a0:dB .and (.int .u64 0) (.int .u64 4294967295)=some (.int .u64 0):=Ph 0 (by decide)
 have s1:dB .shr (.int .u64 1) (.int .u64 32)=some (.int .u64 0):=nC 1 .u64
 have s0:dB .shr (.int .u64 0) (.int .u64 32)=some (.int .u64 0):=nC 0 .u64
 have s2:dB .shr (.int .u64 (n:Int)) (.int .u64 32)=some (.int .u64 0):=by rw[nC n .u64,Nat.div_eq_of_lt h];rfl
 have w0:IntKind.u64.wrap 0=0:=dT 0 (by decide)
 have wn:IntKind.u64.wrap (n:Int)=n:=dT n (by omega)
 simp only[BZ,zK,a0,a1,a2,s0,s1,s2,w0,wn,Int.one_mul,Int.zero_mul,Int.mul_zero,Int.add_zero,VX,Nat.reduceEqDiff,Nat.reduceAdd]
 exact aF rfl
theorem FO (n:Nat) (h:n<4294967296):TC 187 [VK .u64 1,VK .u64 (n:Int)] (.eY [VK .u64 0,VK .u64 (n:Int)]):=by
 refine TC.walk ⟨true,false⟩ JB rfl (Nat.le_of_ble_eq_true rfl) rfl rfl ?_
 simp only[EJ,BU,Eg n h,VX,Nat.reduceEqDiff,Nat.reduceAdd]
 exact aF rfl
end Go.PM
namespace Go.PM
section
variable {α:Type} {f:α→VV} {H:aA} {b g e lo:Nat} {X Y:List α}
theorem Q2 {o:Nat}:cR (X.map f) o (Y.map f)=(X.take o++Y++X.drop (o+Y.length)).map f:=by
 simp[cR]
theorem NF {o d cc:Nat} {y:VV} (h:aH H b g=some (X.map f,e,true)) (hy:cW e y H=some (Y.map f)) (eQ:lo≤b) (ho:o+(Y.take d).length≤X.length) :
  IJ lo e (.ref b g o d cc) y H=some (VI (Y.take d).length,H.set b (.row g ((X.take o++Y.take d++X.drop (o+(Y.take d).length)).map f) e true)):=by
 simp only[IJ,hy,h]
 rw[←List.map_take,Q2,if_pos ⟨trivial,eQ,by simpa using ho⟩,List.length_map]
end
end Go.PM
namespace Go.PM
end Go.PM
namespace Go.PM
open Go.Lib
def Mc {α:Type} (f:α→VV) (e:Nat) (bB:List α) (lo hi:Nat) (H:aA) (v:VV):Prop :=
 ∃b g c,lo≤b∧b<hi∧v = .ref b g 0 bB.length c∧bB.length≤c∧aH H b g=some (bB.map f,e,true)
def TabIs {α:Type} (f:α→VV) (e:Nat) (m:List (List α)) (lo hi:Nat) (H:aA) (v:VV):Prop :=
 ∃b g c rs,v = .ref b g 0 m.length c∧m.length≤c∧MG f e lo hi b g H rs∧rs.map (·.xs)=m
theorem Se {α:Type} {f:α→VV} {lo b k e bytes:Nat} {H:aA} {xs:List α} {x:α} (h:aH H b k=some (xs.map f,e,true)) (hk:k=xs.length) (eQ:lo≤b) (he:1≤e) (hb:1≤bytes) (Ck:(k+1)*bytes≤140737488355328) :
 eO lo e bytes (.ref b k 0 k k) [f x] H=some (.ref b (k+1) 0 (k+1) (k+1),H.set b (.row (k+1) ((xs++[x]).map f) e true)):=gY h hk eQ he hb Ck
theorem Mc.rd {α:Type} {f:α→VV} {e lo hi:Nat} {bB:List α} {H:aA} {v:VV} (h:Mc f e bB lo hi H v):Rd f e bB H v:=by
 obtain⟨b,g,c,h1,h2,rfl,h3,h4⟩:=h
 exact Rd.row h4 rfl
theorem Eh {lo:Nat} {H:aA} (q:Rat) (N:Nat) (hN:N≤1000000) (eQ:lo≤H.length) :
  jO 162 [.tree [bK q] (.cl 3),VI N] lo H fun r H'=>r = .ref H.length 0 0 N N∧H'=H++[.row 0 ((List.replicate N q).map bK) 3 true]:=by
 refine jO.walk ⟨true,false⟩ pI (Nat.le_of_ble_eq_true rfl) ?_
 have eM:=FO N (by omega)
 have c1:IntKind.u64.wrap ((1:Nat):Int)=1:=dT 1 (by decide)
 have c2:IntKind.u64.wrap (N:Int)=(N:Int):=dT N (by omega)
 have c3:IntKind.i64.wrap (N:Int)=(N:Int):=wrap64 (by omega) (by omega)
 have g1:¬(N:Int)<0:=by omega
 have g2:¬(0:Int)<0:=by decide
 have g3:¬(9223372036854775807:Int)<(N:Int):=by omega
 have em:=fun H=>qV (H:=H) (f:=id) (x:=rz) (z:=[.bool false,.slice none 0 0,.slice none 0 0]) (bytes:=56) (n:=N) rfl (by omega) (by omega)
 have s1:cW 3 (.tree [bK q] (.cl 3)) (H++[.row 0 ((List.replicate N rz).map id) 3 true])=some ([bK q].map id):=fK (v:=bK q) rfl rfl
 have r1:aH (H++[.row 0 ((List.replicate N rz).map id) 3 true]) H.length 0=some ((List.replicate N rz).map id,3,true):=by rw[Bh,aS]
 have s2:=NF (f:=id) (Y:=[bK q]) (lo:=lo) (o:=0) (d:=N) (cc:=N) (y := .tree [bK q] (.cl 3)) r1 s1 eQ (by simp;omega)
 rw[Un] at s2
 simp only[jA,iM,eM,c1,c2,c3,g1,g2,g3,em,s2,mH,VX,Nat.reduceEqDiff,Nat.reduceAdd,Nat.reduceLeDiff,Nat.reduceLT,Nat.reduceSub]
 refine aQ (fun(i:Nat) ρ H1=>i≤N∧(i=0→N=0)∧H1=H++[.row 0 ((List.replicate i (bK q)++List.replicate (N-i) rz).map id) 3 true]∧ρ 7 = .ref H.length 0 0 N N∧ρ 8=VI i) (fun i=>N-i) (min 1 N) ?_ ?_
 refine⟨by omega,by omega,?_,rfl,?_⟩
 ·congr 2
  cases N with
  | zero=>rfl
  |
   succ N =>
   have:min 1 (N+1)=1:=by omega
   rw[this]
   simp[List.replicate_succ]
 ·cases N with
  | zero=>rfl
  |
   succ N =>
   have:min 1 (N+1)=1:=by omega
   simp only[this,mH,VX,Nat.reduceEqDiff,Nat.reduceAdd,Nat.reduceLeDiff,Nat.reduceLT,Nat.reduceSub]
   try simp
 rintro i ρ H1 ⟨hi,h0,rfl,h7,h8⟩
 have hr:aH (H++[.row 0 ((List.replicate i (bK q)++List.replicate (N-i) rz).map id) 3 true]) H.length 0=some ((List.replicate i (bK q)++List.replicate (N-i) rz).map id,3,true):=by rw[Bh,aS]
 have el:=dR (o:=0) (n:=N) (c:=N) hr
 by_cases cP:(i:Int)<(N:Int)
 ·have hXl:(List.replicate i (bK q)++List.replicate (N-i) rz).length=N:=by simp;omega
  have uN:∀X:List VV,X=List.replicate i (bK q)++List.replicate (N-i) rz→(((X.map id).drop 0).take i).all (fun x=>(aB x).all bP)=true:=by
   rintro X rfl
   rw[List.map_id,List.drop_zero,List.take_append_of_le_length (by simp),List.take_of_length_le (by simp),List.all_eq_true]
   intro x hx
   rw[List.eq_of_mem_replicate hx]
   rfl
  have q1:=MZ (o:=0) (n:=N) (c:=N) (l:=i) (k1 := .i64) hr hi (Nat.le_refl _)
  have q2:=uG (o:=0) (n:=N) (c:=N) (h:=i) (k2 := .i64) hr hi
  have hY:((List.replicate i (bK q)++List.replicate (N-i) rz).drop 0).take i=List.replicate i (bK q):=by
   rw[List.drop_zero,List.take_append_of_le_length (by simp),List.take_of_length_le (by simp)]
  have q3:cW 3 (.ref H.length 0 0 i N) (H++[.row 0 ((List.replicate i (bK q)++List.replicate (N-i) rz).map id) 3 true])=some ((List.replicate i (bK q)).map id):=by
   have hs:=uN _ rfl
   simp only[cW,hr]
   rw[if_pos ⟨trivial,by rw[List.length_map,hXl];omega,hs⟩,List.map_id,List.map_id,hY]
  have hYd:(List.replicate i (bK q)).take (N-i)=List.replicate (min (N-i) i) (bK q):=List.take_replicate
  have q4:=NF (f:=id) (lo:=lo) (o:=i) (d:=N-i) (cc:=N-i) hr q3 eQ (by rw[hYd,hXl];simp;omega)
  rw[Un,hYd,List.length_replicate,List.take_append_of_le_length (by simp),List.take_of_length_le (by simp)] at q4
  have hX':List.replicate i (bK q)++List.replicate (min (N-i) i) (bK q)++(List.replicate i (bK q)++List.replicate (N-i) rz).drop (i+min (N-i) i)=List.replicate (i+min (N-i) i) (bK q)++List.replicate (N-(i+min (N-i) i)) rz:=by
   rw[List.replicate_append_replicate,List.drop_append,List.drop_of_length_le (by simp),List.nil_append,List.length_replicate,List.drop_replicate]
   congr 2
   omega
  rw[hX'] at q4
  have wi:IntKind.i64.wrap ((i:Int)+((min (N-i) i:Nat):Int))=((i+min (N-i) i:Nat):Int):=wrapN _ (by omega) (by omega)
  simp only[eK,h7,h8,el,cP,q1,q2,q3,q4,wi,mH,VX,Nat.reduceEqDiff,Nat.reduceAdd,Nat.reduceLeDiff,Nat.reduceLT,Nat.reduceSub]
  exact⟨i+min (N-i) i,by omega,by omega,by omega,by (repeat' apply And.intro)<;>first | rfl | trivial | assumption⟩
 ·have nS:i=N:=by omega
  subst nS
  simp only[eK,h7,h8,el,cP,mH,VX,Nat.reduceEqDiff,Nat.reduceAdd,Nat.reduceLeDiff,Nat.reduceLT,Nat.reduceSub]
  rw[Nat.sub_self,List.replicate_zero,List.append_nil,List.map_id,List.map_replicate]
theorem S7 (a n:Nat):((List.range n).map fun k=>a+k).Nodup:=List.pairwise_map.2 (List.nodup_range.imp fun h=>by omega)
theorem Pe {lo:Nat} {H:aA} (N:Nat) (hN:N≤1000) (eQ:lo≤H.length) :
  jO 99 [VI N] lo H (Qw (TabIs bK 3 (List.replicate N (List.replicate N (0:Rat)))) H):=by
 refine jO.walk ⟨true,false⟩ PF (Nat.le_of_ble_eq_true rfl) ?_
 have em:=fun H=>qV (H:=H) (f:=id) (x := .tree [] .nil) (z:=[.slice none 0 0]) (bytes:=24) (n:=N) rfl (by omega) (by omega)
 have el0:=dR (H:=H++[.row 0 ((List.replicate N (VV.tree [] .nil)).map id) 1 true]) (b:=H.length) (g:=0) (o:=0) (n:=N) (c:=N) iZ
 simp only[KL,F4,em,el0,List.length_cons,List.length_nil,Nat.zero_add,mH,VX,Nat.reduceEqDiff,Nat.reduceAdd,Nat.reduceLeDiff,Nat.reduceLT,Nat.reduceSub]
 refine aQ (fun(i:Nat) ρ H1=>i≤N∧H1=H ++ .row 0 (((List.range i).map fun k=>VV.ref (H.length+1+k) 0 0 N N)++List.replicate (N-i) (VV.tree [] TK.nil)) 1 true::List.replicate i (.row 0 ((List.replicate N (0:Rat)).map bK) 3 true)∧ρ 0=VI N∧ρ 3 = .ref H.length 0 0 N N∧ρ 8=VI N∧ρ 9=VI i) (fun i=>N-i) 0 ⟨Nat.zero_le _,by simp,rfl,rfl,rfl,rfl⟩ ?_
 rintro i ρ H1 ⟨hi,rfl,g0,g3,g8,g9⟩
 have e1:TC 64 [VI 0] (bK 0):=Be 0 (by decide) (by decide)
 have eL:∀H,mF false [.bool false,.slice none 0 0,.slice none 0 0] 1 [(0,bK 0)] H=some (.tree [bK 0] (.cl 3),H):=fun H=>iJ rfl rfl rfl
 by_cases cP:(i:Int)<(N:Int)
 ·have wi:IntKind.i64.wrap ((i:Int)+1)=((i+1:Nat):Int):=wrapN (i+1) (by omega) (by omega)
  simp only[zT,g0,g3,g8,g9,cP,e1,eL,mH,VX,Nat.reduceEqDiff,Nat.reduceAdd,Nat.reduceLeDiff,Nat.reduceLT,Nat.reduceSub]
  refine gC rfl ((Eh 0 N (by omega) (by rw[List.length_append];omega)).mono ?_)
  rintro r H' ⟨rfl,rfl⟩
  have hl:(H++bT.row 0 (((List.range i).map fun k=>VV.ref (H.length+1+k) 0 0 N N)++List.replicate (N-i) (VV.tree [] TK.nil)) 1 true::List.replicate i (.row 0 ((List.replicate N (0:Rat)).map bK) 3 true)).length=H.length+1+i:=by simp;omega
  rw[hl,List.append_assoc,List.cons_append]
  have hr:aH (H++bT.row 0 (((List.range i).map fun k=>VV.ref (H.length+1+k) 0 0 N N)++List.replicate (N-i) (VV.tree [] TK.nil)) 1 true::(List.replicate i (.row 0 ((List.replicate N (0:Rat)).map bK) 3 true)++[.row 0 ((List.replicate N (0:Rat)).map bK) 3 true])) H.length 0=some ((((List.range i).map fun k=>VV.ref (H.length+1+k) 0 0 N N)++List.replicate (N-i) (VV.tree [] TK.nil)),1,true):=by rw[Bh,aS]
  have a1:=aY (o:=0) (n:=N) (c:=N) (i:=i) (k := .i64) hr (by omega)
  have a2:=cF (lo:=lo) (v := .ref (H.length+1+i) 0 0 N N) (j:=i) hr (by simp;omega) eQ rfl rfl
  rw[Un,List.set_cons_zero] at a2
  have hs:(((List.range i).map fun k=>VV.ref (H.length+1+k) 0 0 N N)++List.replicate (N-i) (VV.tree [] TK.nil)).set i (.ref (H.length+1+i) 0 0 N N)=((List.range (i+1)).map fun k=>VV.ref (H.length+1+k) 0 0 N N)++List.replicate (N-(i+1)) (VV.tree [] TK.nil):=by
   obtain⟨m,hm⟩:∃m,N-i=m+1:=⟨N-i-1,by omega⟩
   have hm':N-(i+1)=m:=by omega
   rw[List.set_append_right _ _ (by simp),hm,hm',List.length_map,List.length_range,Nat.sub_self,List.replicate_succ,List.set_cons_zero,List.range_succ,List.map_append,List.append_assoc]
   rfl
  rw[hs] at a2
  rw[Nat.zero_add] at a1
  simp only[a1,a2,wi,g9,mH,VX,Nat.reduceEqDiff,Nat.reduceAdd,Nat.reduceLeDiff,Nat.reduceLT,Nat.reduceSub]
  exact⟨i+1,by omega,by omega,by rw[List.replicate_succ'],by (repeat' apply And.intro)<;>first | rfl | trivial | assumption⟩
 ·have nS:i=N:=by omega
  subst nS
  simp only[zT,g3,g8,g9,cP,mH,VX,Nat.reduceEqDiff,Nat.reduceAdd,Nat.reduceLeDiff,Nat.reduceLT,Nat.reduceSub]
  refine⟨List.prefix_append _ _,H.length,0,i,(List.range i).map fun k=>⟨H.length+1+k,0,i,List.replicate i 0⟩,by rw[List.length_replicate],by rw[List.length_replicate];exact Nat.le_refl _,⟨?_,Nat.le_refl _,by simp,?_,?_⟩,?_⟩
  ·rw[Bh,aS,Nat.sub_self,List.replicate_zero,List.append_nil,List.map_map]
   simp[mK,Function.comp_def]
  ·rw[List.map_map]
   exact S7 (H.length+1) i
  ·intro r hr
   obtain⟨k,hk,rfl⟩:=List.mem_map.1 hr
   rw[List.mem_range] at hk
   refine⟨by simp only;omega,by simp;omega,by simp only;omega,by simp,?_⟩
   have:H.length+1+k=H.length+(k+1):=by omega
   simp only[this]
   rw[OC,lB,cL,List.getElem?_replicate,if_pos hk]
  ·rw[List.map_map]
   apply List.ext_getElem?
   intro k
   rw[List.getElem?_map,List.getElem?_replicate]
   by_cases hk:k<i
   ·simp[hk,List.getElem?_range]
   ·simp[hk]
end Go.PM
namespace Go.PM
structure aoU (s:JY):Prop where
 b4:s.b.length≤400000000
 e4:s.e.length≤400000000
 g4:s.g.length≤400000000∧∀x∈s.g,x.length≤400000000
 bs:∀x∈s.b,x.size≤1000000000
 es:∀x∈s.e,x.size≤1000000000
 gs:∀x∈s.g,∀y∈x,y.size≤1000000000
theorem aoU.g9 {s:JY} (h:aoU s):s.g.length≤1000000000∧∀x∈s.g,x.length≤1000000000:=⟨by have:=h.g4.1;omega,fun x hx=>by have:=h.g4.2 x hx;omega⟩
end Go.PM
namespace Go.PM
def qP {β:Type} (k:Int):List (List β)→List (List ByteArray)
 | []=>[]
 | x::xs=>kG k x.length::qP (k+x.length) xs
def cQ {β:Type} (xs:List (List β)):Nat:=(xs.map List.length).sum
section
variable {β:Type}
theorem Kd (xs:List (List β)) (k:Int):(qP k xs).length=xs.length:=by
 induction xs generalizing k with
 | nil=>rfl
 | cons x xs ih=>simp[qP,ih]
theorem Ir {xs:List (List β)} {i:Nat} {x:List β} (h:xs[i]? = some x):cQ (xs.take (i+1))=cQ (xs.take i)+x.length:=by
 rw[List.take_add_one,h]
 simp[cQ]
theorem Fs {xs:List (List β)} {i:Nat} {x:List β} {k:Int} (h:xs[i]? = some x):(qP k xs)[i]? = some (kG (k+cQ (xs.take i)) x.length):=by
 induction xs generalizing i k with
 | nil=>cases h
 |
  cons y ys ih =>
  cases i with
  | zero=>injection h with h;subst h;simp[qP,cQ]
  |
   succ i =>
   simp only[qP,List.getElem?_cons_succ] at h ⊢
   rw[ih h]
   simp only[List.take_succ_cons,cQ,List.map_cons,List.sum_cons,Int.natCast_add]
   rw[Int.add_assoc]
theorem N8 {xs:List (List β)} (i:Nat):cQ (xs.take i)≤cQ xs:=by
 induction xs generalizing i with
 | nil=>simp[cQ]
 |
  cons x xs ih =>
  cases i with
  | zero=>simp[cQ]
  |
   succ i =>
   have:=ih i
   simp only[List.take_succ_cons,cQ,List.map_cons,List.sum_cons] at this ⊢
   omega
end
theorem D9 (k:Int) (xs:List (List ByteArray)) (hk:0≤k∧k≤10000000) (hn:xs.length≤10000000) (ht:cQ xs≤10000000):TC 74 [rX (qP k xs),VI k] (VI (k+cQ xs)):=by
 refine TC.walk ⟨true,false⟩ D6 rfl (Nat.le_of_ble_eq_true rfl) (CL (Bc _) rfl) rfl ?_
 simp only[zD,vC,VX,Nat.reduceEqDiff,Nat.reduceAdd]
 refine aQ (fun(i:Nat) ρ H=>i≤xs.length∧H=[]∧ρ 0=rX (qP k xs)∧ρ 1=VI (k+cQ (xs.take i))∧ρ 5=VI i) (fun i=>xs.length-i) 0 ⟨Nat.zero_le _,rfl,rfl,by simp only[VX,Nat.reduceEqDiff,Nat.reduceAdd];simp[cQ],rfl⟩ ?_
 rintro i ρ H ⟨hi,rfl,h0,h1,h5⟩
 have hlen:=Kd xs k
 by_cases cP:(i:Int)<(xs.length:Int)
 ·obtain⟨x,hx⟩:∃x,xs[i]? = some x:=⟨_,List.getElem?_eq_getElem (by omega)⟩
  have e1:=aI (f:=fM) (t := .op) (H:=[]) (size:=1) (k := .i64) (Fs (k:=k) hx) rfl
  have l1:=Ir hx
  have l2:=N8 (xs:=xs) (i+1)
  have e3:=Fg (k+cQ (xs.take i)) x.length (by omega) (by omega)
  have lU:¬(k+(cQ (xs.take i):Int)+(x.length:Int))<0:=by omega
  have wi:IntKind.i64.wrap ((i:Int)+1)=((i+1:Nat):Int):=wrapN (i+1) (by omega) (by omega)
  simp only[oE,h0,h1,h5,cP,e1,e3,wi,hlen,lU,eq_self,VX,Nat.reduceEqDiff,Nat.reduceAdd]
  refine⟨i+1,by omega,by omega,?_⟩
  rw[l1,Int.natCast_add,←Int.add_assoc]
  (repeat' apply And.intro)<;>first | rfl | trivial
 ·have nS:i=xs.length:=by omega
  subst nS
  simp only[oE,h0,h1,h5,cP,hlen,VX,Nat.reduceEqDiff,Nat.reduceAdd]
  rw[List.take_of_length_le (Nat.le_refl _)]
  exact aF rfl
theorem D5 {lo b g c:Nat} {H:aA} (rs:List (vM ByteArray)) (k:Int) (hr:aH H b g=some (rs.map mK,1,true)) (hR:Ng sV 1 lo H.length b H rs) (eQ:lo≤b) (hk:0≤k∧k≤10000000) (hn:rs.length≤10000000) (ht:cQ (rs.map (·.xs))≤10000000) :
  jO 21 [.ref b g 0 rs.length c,VI k] lo H fun r H'=>r=VI (k+cQ (rs.map (·.xs)))∧H'.length=H.length∧(∀b' g' x,(∀r∈rs,r.b≠b')→aH H b' g'=some x→aH H' b' g'=some x) ∧
   ∀i r,rs[i]? = some r→aH H' r.b r.g=some ((kG (k+cQ ((rs.map (·.xs)).take i)) r.xs.length).map sV,1,true):=by
 refine jO.walk ⟨true,false⟩ vB (Nat.le_of_ble_eq_true rfl) ?_
 simp only[rL,pK,VX,Nat.reduceEqDiff,Nat.reduceAdd]
 refine aQ (fun(i:Nat) ρ H1=>i≤rs.length∧H1.length=H.length∧(∀b' g' x,(∀r∈rs,r.b≠b')→aH H b' g'=some x→aH H1 b' g'=some x) ∧
   (∀j r,rs[j]? = some r→aH H1 r.b r.g=some ((if j<i then kG (k+cQ ((rs.map (·.xs)).take j)) r.xs.length else r.xs).map sV,1,true))∧ρ 0 = .ref b g 0 rs.length c∧ρ 1=VI (k+cQ ((rs.map (·.xs)).take i))∧ρ 5=VI i) (fun i=>rs.length-i) 0
  ⟨Nat.zero_le _,rfl,fun _ _ _ _ h=>h,fun j r h=>by rw[if_neg (by omega)];exact(hR.row r (List.mem_of_getElem? h)).2.2.2.2,rfl,by simp only[VX,Nat.reduceEqDiff,Nat.reduceAdd];simp[cQ],rfl⟩ ?_
 rintro i ρ H1 ⟨hi,hH1,hold,YW,h0,h1,h5⟩
 have hR1:=hold b g _ (fun r hr=>(hR.row r hr).2.2.1) hr
 have el:=dR (o:=0) (n:=rs.length) (c:=c) hR1
 by_cases cP:(i:Int)<(rs.length:Int)
 ·obtain⟨r,Th⟩:∃r,rs[i]? = some r:=⟨_,List.getElem?_eq_getElem (by omega)⟩
  have MX:=hR.row r (List.mem_of_getElem? Th)
  have hxi:(rs.map (·.xs))[i]? = some r.xs:=by simp[Th]
  have l1:=Ir hxi
  have l2:=N8 (xs:=rs.map (·.xs)) (i+1)
  have e1:=aY (o:=0) (n:=rs.length) (c:=c) (i:=i) (k := .i64) hR1 (by omega)
  have e2:cI false 1 (.ptr b g i 0) H1=some (mK r):=by rw[oP (f:=mK) hR1 Th];rfl
  have wi:IntKind.i64.wrap ((i:Int)+1)=((i+1:Nat):Int):=wrapN (i+1) (by omega) (by omega)
  simp only[kC,h0,h1,h5,cP,el,e1,e2,Nat.zero_add,VX,Nat.reduceEqDiff,Nat.reduceAdd]
  have pL:=YW i r Th
  rw[if_neg (by omega)] at pL
  refine gC rfl ((xB r.xs _ pL (Nat.le_refl _) MX.1 (by omega) (by omega)).mono ?_)
  rintro v H2 ⟨rfl,rfl⟩
  simp only[h5,wi,VX,Nat.reduceEqDiff,Nat.reduceAdd]
  refine⟨i+1,by omega,by omega,by simpa using hH1,fun b' g' x vJ h=>cG (vJ r (List.mem_of_getElem? Th)) (hold b' g' x vJ h),fun j r' hj => ?_,h0,?_,rfl⟩
  ·by_cases Ec:j=i
   ·subst Ec
    rw[Th] at hj
    injection hj with hj
    subst hj
    rw[if_pos (by omega),cS pL,List.drop_length,List.append_nil]
   ·have fC:r.b≠r'.b:=fun he=>Ec (by
     have h1:(rs.map (·.b))[i]? = some r.b:=by simp[Th]
     have h2:(rs.map (·.b))[j]? = some r.b:=by simp[hj,he]
     exact Qj hR.nd h2 h1)
    rw[cG fC (YW j r' hj)]
    by_cases bA:j<i
    ·rw[if_pos bA,if_pos (by omega)]
    ·rw[if_neg bA,if_neg (by omega)]
  ·rw[l1,Int.natCast_add,←Int.add_assoc]
 ·have nS:i=rs.length:=by omega
  subst nS
  simp only[kC,h0,h1,h5,cP,el,VX,Nat.reduceEqDiff,Nat.reduceAdd]
  rw[List.take_of_length_le (by simp)]
  refine⟨rfl,hH1,hold,fun j r hj => ?_⟩
  have:=YW j r hj
  rw[if_pos (List.getElem?_eq_some_iff.1 hj).1] at this
  exact this
theorem Ci {lo:Nat} {H:aA} (k:Int):jO 21 [.tree [] .nil,VI k] lo H fun r H'=>r=VI k∧H'=H:=by
 refine jO.walk ⟨true,false⟩ vB (Nat.le_of_ble_eq_true rfl) ?_
 simp only[rL,pK,VX,Nat.reduceEqDiff,Nat.reduceAdd]
 refine aQ (fun(_:Unit) ρ H1=>H1=H∧ρ 0 = .tree [] .nil∧ρ 1=VI k∧ρ 5=VI 0) (fun _=>0) () ⟨rfl,rfl,rfl,rfl⟩ ?_
 rintro _ ρ H1 ⟨rfl,h0,h1,h5⟩
 simp only[kC,h0,h1,h5,List.length_nil,Int.natCast_zero,Int.lt_irrefl,Int.reduceLT,VX,Nat.reduceEqDiff,Nat.reduceAdd]
theorem afI {lo hi jI:Nat} {bB:List (List ByteArray)} {H:aA} {v:VV} {k:Int} {K:VV→aA→Prop} (hv:RG sV 1 bB lo hi H v) (eQ:jI≤lo) (hk:0≤k∧k≤10000000) (hn:bB.length≤10000000) (ht:cQ bB≤10000000)
  (hK:∀H',H'.length=H.length→RG sV 1 (qP k bB) lo hi H' v→(∀b g x,b<lo∨hi≤b→aH H b g=some x→aH H' b g=some x)→K (VI (k+cQ bB)) H') :
  cT 21 [v,VI k] jI H K:=by
 rcases hv with⟨rfl,rfl⟩ | ⟨b,g,c,rs,h1,h2,rfl,h4,h5,rfl,h7⟩
 ·refine gC rfl ((Ci k).mono ?_)
  rintro r H' ⟨rfl,rfl⟩
  have:=hK H' rfl (.inl ⟨rfl,rfl⟩) fun _ _ _ _ h=>h
  simpa[cQ] using this
 ·have h7':Ng sV 1 jI H.length b H rs:=⟨h7.nd,fun r hr=>⟨Nat.le_trans eQ (h7.row r hr).1,iR (h7.row r hr).2.2.2.2,(h7.row r hr).2.2⟩⟩
  rw[List.length_map] at h4 hn ⊢
  refine gC rfl ((D5 (lo:=jI) (c:=c) rs k h5 h7' (Nat.le_trans eQ h1) hk hn ht).mono ?_)
  rintro r H' ⟨rfl,hl,hold,rO⟩
  refine hK _ hl ?_ fun b' g' x vJ h=>hold b' g' x (fun r hr=>by have:=h7.row r hr;omega) h
  have Th:∀i,i<rs.length→∃r,rs[i]? = some r:=fun i hi=>⟨_,List.getElem?_eq_getElem hi⟩
  have hml:(qP k (rs.map (·.xs))).length=rs.length:=by rw[Kd,List.length_map]
  let Wf:List (vM ByteArray):=rs.zipWith (fun r x=>{ r with xs:=x }) (qP k (rs.map (·.xs)))
  have uH:∀(i:Nat) (r:vM ByteArray),rs[i]? = some r→Wf[i]? = some { r with xs:=kG (k+cQ ((rs.map (·.xs)).take i)) r.xs.length }:=fun i r hr=>by
   have hm:=Fs (k:=k) (xs:=rs.map (·.xs)) (i:=i) (x:=r.xs) (by simp[hr])
   show (List.zipWith _ _ _)[i]? = _
   rw[List.getElem?_zipWith,hr,hm]
  have Bf:Wf.length=rs.length:=by simp[Wf,hml]
  have hex:∀ {γ:Type} (F G:vM ByteArray→γ),(∀(i:Nat) (r:vM ByteArray),rs[i]? = some r→F { r with xs:=kG (k+cQ ((rs.map (·.xs)).take i)) r.xs.length }=G r)→Wf.map F=rs.map G:=fun F G hFG=>by
   apply List.ext_getElem?
   intro i
   rcases Nat.lt_or_ge i rs.length with h | h
   ·obtain⟨r,hr⟩:=Th i h
    rw[List.getElem?_map,List.getElem?_map,uH i r hr,hr]
    simp only[Option.map_some,hFG i r hr]
   ·rw[List.getElem?_eq_none (by rw[List.length_map,Bf];exact h),List.getElem?_eq_none (by rw[List.length_map];exact h)]
  have axS:Wf.map (·.b)=rs.map (·.b):=hex _ _ fun _ _ _=>rfl
  have Ul:Wf.map mK=rs.map mK:=hex _ _ fun i r _=>by simp[mK,Rf]
  have auO:Wf.map (·.xs)=qP k (rs.map (·.xs)):=by
   apply List.ext_getElem?
   intro i
   rcases Nat.lt_or_ge i rs.length with h | h
   ·obtain⟨r,hr⟩:=Th i h
    rw[List.getElem?_map,uH i r hr,Fs (x:=r.xs) (by simp[hr])]
    rfl
   ·rw[List.getElem?_eq_none (by rw[List.length_map,Bf];exact h),List.getElem?_eq_none (by rw[hml];exact h)]
  refine .inr ⟨b,g,c,Wf,h1,h2,by rw[hml,List.length_map],by rw[hml];exact h4,?_,auO,by rw[axS];exact h7.nd,fun r' EP => ?_⟩
  ·rw[Ul]
   exact hold _ _ _ (fun r hr=>(h7.row r hr).2.2.1) h5
  ·obtain⟨i,hi⟩:=List.getElem?_of_mem EP
   obtain⟨r,hr⟩:=Th i (by rw[←Bf];exact(List.getElem?_eq_some_iff.1 hi).1)
   rw[uH i r hr] at hi
   injection hi with hi
   subst hi
   have hm:=h7.row r (List.mem_of_getElem? hr)
   exact⟨hm.1,hm.2.1,hm.2.2.1,by rw[wT];exact hm.2.2.2.1,rO i r hr⟩
theorem LJ (xs ys:List (List ByteArray)) (hn:xs.length≤1000000000) (Pa:∀x∈xs,x.length≤1000000000):TC 19 [YK xs,YK ys] (VB (decide (xs=ys))):=by
 refine TC.walk ⟨true,false⟩ Lw rfl (Nat.le_of_ble_eq_true rfl) (CL (AH _) (AH _)) rfl ?_
 have e1:=Gx xs ys hn Pa
 by_cases h:xs=ys
 ·rw[decide_eq_true h] at e1 ⊢
  simp only[Bu,wM,e1,O9,VX,Nat.reduceEqDiff,Nat.reduceAdd]
  exact aF rfl
 ·rw[decide_eq_false h] at e1 ⊢
  simp only[Bu,wM,e1,O9,VX,Nat.reduceEqDiff,Nat.reduceAdd]
  exact aF rfl
theorem HR (k:Int) (xs:List (List ByteArray)) (hk:0≤k∧k≤10000000) (hn:xs.length≤10000000) (ht:cQ xs≤10000000):TC 23 [YK (qP k xs),VI k] (VI (k+cQ xs)):=by
 refine TC.walk ⟨true,false⟩ HJ rfl (Nat.le_of_ble_eq_true rfl) (CL (AH _) rfl) rfl ?_
 have e1:=D9 k xs hk hn ht
 have h:¬(k+(cQ xs:Int))<0:=by omega
 simp only[Dk,AP,e1,O9,h,VX,Nat.reduceEqDiff,Nat.reduceAdd]
 exact aF rfl
theorem aeS {lo hi jI:Nat} {bB:List (List ByteArray)} {H:aA} {v:VV} {k:Int} {K:VV→aA→Prop} (hv:CG bB lo hi H v) (eQ:jI≤lo) (hk:0≤k∧k≤10000000) (hn:bB.length≤10000000) (ht:cQ bB≤10000000)
  (hK:∀H',H'.length=H.length→CG (qP k bB) lo hi H' v→(∀b g x,b<lo∨hi≤b→aH H b g=some x→aH H' b g=some x)→K (VI (k+cQ bB)) H') :
  cT 22 [v,VI k] jI H K:=by
 obtain⟨c,rfl,hv⟩:=hv
 refine gC rfl (jO.walk ⟨true,false⟩ G5 (Nat.le_of_ble_eq_true rfl) ?_)
 simp only[Ct,A1,Pk,List.getElem?_cons_zero,VX,Nat.reduceEqDiff,Nat.reduceAdd]
 have Ny:aB c=[c]∧bP c=true:=by
  rcases hv with⟨rfl,rfl⟩ | ⟨b,g,c,rs,h1,h2,rfl,h3⟩<;>exact⟨rfl,rfl⟩
 simp only[Ny.2,List.all_cons,List.all_nil,Fu,Pk,List.getElem?_cons_zero,VX,Nat.reduceEqDiff,Nat.reduceAdd]
 refine afI hv eQ hk hn ht fun H' h1 h2 h3 => ?_
 simp only[VX,Nat.reduceEqDiff,Nat.reduceAdd]
 exact hK H' h1 ⟨c,rfl,h2⟩ h3
def svN (s:JY):Nat:=s.b.length+cQ s.g+s.e.length
theorem SI.cell {α:Type} {f:α→VV} {e lo hi:Nat} {H:aA} {v:VV} {bB:List α} (h:SI f e bB lo hi H v):bP v=true:=by
 rcases h with⟨rfl,rfl⟩ | ⟨b,g,c,h1,h2,rfl,h3⟩<;>rfl
theorem RG.cell {α:Type} {f:α→VV} {e lo hi:Nat} {H:aA} {v:VV} {bB:List (List α)} (h:RG f e bB lo hi H v):bP v=true:=by
 rcases h with⟨rfl,rfl⟩ | ⟨b,g,c,rs,h1,h2,rfl,h3⟩<;>rfl
end Go.PM
namespace Go.PM
open Go.Lib
section
variable {α:Type} {f:α→VV} {e:Nat}
def NG (f:α→VV) (e:Nat) (bB:List (List α)) (lo hi:Nat) (H:aA) (v:VV):Prop :=
 (v = .tree [] .nil∧bB=[])∨∃b g rs,lo≤b∧b<hi∧v = .ref b g 0 bB.length bB.length∧aH H b g=some (rs.map mK,1,true)∧rs.map (·.xs)=bB∧Ng f e lo hi b H rs
theorem NG.rg {bB:List (List α)} {lo hi:Nat} {H:aA} {v:VV} (h:NG f e bB lo hi H v):RG f e bB lo hi H v:=by
 rcases h with h | ⟨b,g,rs,h1,h2,h3,h5,h6,h7⟩
 ·exact .inl h
 ·exact .inr ⟨b,g,_,rs,h1,h2,h3,Nat.le_refl _,h5,h6,h7⟩
theorem NG.cB {bB:List (List α)} {lo hi:Nat} {H H':aA} {v:VV} (h:NG f e bB lo hi H v) (hk:dC lo hi H H'):NG f e bB lo hi H' v:=by
 rcases h with h | ⟨b,g,rs,h1,h2,h3,h5,h6,h7⟩
 ·exact .inl h
 ·exact .inr ⟨b,g,rs,h1,h2,h3,hk _ _ _ h1 h2 h5,h6,h7.nd,fun r hr=>by
   obtain⟨k1,k2,k3,k4,k5⟩:=h7.row r hr
   exact⟨k1,k2,k3,k4,hk _ _ _ k1 k2 k5⟩⟩
theorem NG.wide {bB:List (List α)} {lo hi jI oJ:Nat} {H:aA} {v:VV} (h:NG f e bB lo hi H v) (hl:jI≤lo) (hh:hi≤oJ):NG f e bB jI oJ H v:=by
 rcases h with h | ⟨b,g,rs,h1,h2,h3,h5,h6,h7⟩
 ·exact .inl h
 ·exact .inr ⟨b,g,rs,by omega,by omega,h3,h5,h6,h7.nd,fun r hr=>by
   obtain⟨k1,k2,k3,k4,k5⟩:=h7.row r hr
   exact⟨by omega,by omega,k3,k4,k5⟩⟩
theorem NG.fO {bB:List (List α)} {lo hi:Nat} {H:aA} {v:VV} (h:NG f e bB lo hi H v):bP v=true∧aB v=[v]∧isAny v=false:=by
 rcases h with⟨rfl,rfl⟩ | ⟨b,g,rs,h1,h2,rfl,h3⟩<;>exact⟨rfl,rfl,rfl⟩
theorem NG.akO {bB:List (List α)} {lo hi:Nat} {H:aA} {v:VV} (h:NG f e bB lo hi H v):oC v H=some (VI bB.length):=by
 rcases h with⟨rfl,rfl⟩ | ⟨b,g,rs,h1,h2,rfl,h5,h6,h7⟩
 ·rfl
 ·exact dR h5
theorem NG.snoc {bB:List (List α)} {lo jI hi:Nat} {H:aA} {v:VV} (h:NG f e bB lo hi H v) (eQ:jI≤lo) (hn:bB.length≤1000000000) (r:vM α) (hhi:hi≤r.b) (Cp:lo≤r.b) (hc:r.xs.length≤r.c) (hr:aH H r.b r.g=some (r.xs.map f,e,true)) :
  ∃v' H3,eO jI 1 24 v [.ref r.b r.g 0 r.xs.length r.c] H=some (v',H3)∧NG f e (bB++[r.xs]) lo H3.length H3 v'∧(∀b' g' x,b'<lo→aH H b' g'=some x→aH H3 b' g'=some x)∧H.length≤H3.length ∧
   (∀n,n≤lo→BA n H→BA n H3)∧(∀H0:aA,H0.length≤lo→H0 <+: H→H0 <+: H3)∧(∀b' g' x,aH H b' g'=some x→(∀g0 n0 c0,v ≠ .ref b' g0 0 n0 c0)→aH H3 b' g'=some x):=by
 have hb:=iR hr
 rcases h with⟨rfl,rfl⟩ | ⟨b,g,rs,h1,h2,rfl,h5,h6,h7⟩
 ·refine⟨.ref H.length 0 0 1 1,H++[.row 0 [mK r] 1 true],by simp[eO,mK],.inr ⟨H.length,0,[r],by omega,by simp,rfl,iZ,rfl,by simp,fun s hs => ?_⟩,fun _ _ _ _ h=>fW h,by simp,fun n hn hO=>hO.app (by simp[nP,eT,mK];omega),fun H0 _ hp=>RE hp,fun _ _ _ h _=>fW h⟩
  rw[List.mem_singleton] at hs
  subst hs
  exact⟨Cp,by simp;omega,by omega,hc,fW hr⟩
 ·subst h6
  rw[List.length_map] at hn ⊢
  have rE:=gY (f:=mK) (xs:=rs) (x:=r) (lo:=jI) (bytes:=24) h5 rfl (by omega) (by decide) (by decide) (by omega)
  refine⟨_,_,rE,.inr ⟨b,g+1,rs++[r],h1,by rw[List.length_set];exact iR h5,by simp,cS h5,by simp,?_,fun s hs => ?_⟩,fun b' g' x vJ h=>cG (by omega) h,by simp,fun n hn hO=>hO.set (by omega) ?_,fun H0 hl hp=>Ak hp (by omega),fun b' g' x h fC=>cG (fun he=>fC g _ _ (by rw[he])) h⟩
  ·rw[List.map_append,List.nodup_append]
   refine⟨h7.nd,by simp,fun a ha c YV => ?_⟩
   obtain⟨s,hs,rfl⟩:=List.mem_map.1 ha
   have:=h7.row s hs
   simp only[List.map_cons,List.map_nil,List.mem_singleton] at YV
   omega
  ·rcases List.mem_append.1 hs with hs | hs
   ·obtain⟨k1,k2,k3,k4,k5⟩:=h7.row s hs
    exact⟨k1,by rw[List.length_set];exact iR k5,k3,k4,cG (by omega) k5⟩
   ·rw[List.mem_singleton] at hs
    subst hs
    exact⟨Cp,by rw[List.length_set];exact hb,by omega,hc,cG (by omega) hr⟩
  ·rw[Dg]
   intro x hx
   obtain⟨s,hs,rfl⟩:=List.mem_map.1 hx
   rcases List.mem_append.1 hs with hs | hs
   ·have:=h7.row s hs
    simp[mK,eT];omega
   ·rw[List.mem_singleton] at hs
    subst hs
    simp[mK,eT];omega
end
def Yo {α:Type} (f:α→VV) (e:Nat) (o:Option (List α)) (lo hi:Nat) (H:aA) (v:VV):Prop:=match o with
 | none=>v = .tree [] .nil
 | some ys=>Mc f e ys lo hi H v
theorem Mc.cB {α:Type} {f:α→VV} {e:Nat} {ys:List α}:∀ {lo hi H H' v},Mc f e ys lo hi H v→dC lo hi H H'→Mc f e ys lo hi H' v:=by
 rintro lo hi H H' v ⟨b,g,c,h1,h2,h3,h4,h5⟩ hk
 exact⟨b,g,c,h1,h2,h3,h4,hk _ _ _ h1 h2 h5⟩
theorem Yo.cB {α:Type} {f:α→VV} {e:Nat} {o:Option (List α)}:∀ {lo hi H H' v},Yo f e o lo hi H v→dC lo hi H H'→Yo f e o lo hi H' v:=by
 intro lo hi H H' v h hk
 cases o with
 | none=>exact h
 | some ys=>exact Mc.cB h hk
theorem Gl {n n':Nat} {L:aA} (h:n≤n') (hL:dL n' L=true):dL n L=true:=by
 unfold dL at hL ⊢
 rw[List.all_eq_true] at hL ⊢
 intro x hx
 have:=hL x hx
 cases x with
 | dead=>rfl
 | row g es e w=>exact AK h es this
theorem A2 {n:Nat} {H:aA} (h:n≤H.length):Gm H (List.replicate n .dead++List.replicate (H.length-n) .dead):=by
 refine⟨by simp;omega,fun b g es e w hb => ?_⟩
 rw[List.replicate_append_replicate] at hb
 have:=List.eq_of_mem_replicate (List.mem_of_getElem? hb)
 cases this
theorem Av {n k:Nat}:dL n (List.replicate k .dead)=true:=by
 unfold dL
 rw[List.all_eq_true]
 intro x hx
 rw[List.eq_of_mem_replicate hx]
def JH (q:Rat):ByteArray:=⟨(EL q).toArray⟩
def B8 (qs:List Rat):Option (List ByteArray):=if qs.all vI=true then some (qs.map JH) else none
theorem QW {qs:List Rat} {q:Rat} (hq:q∈qs) (h:vI q=false):B8 qs=none:=if_neg (fun ha=>by
 rw[List.all_eq_true] at ha
 rw[ha q hq] at h
 cases h)
theorem Og {qs:List Rat} (h:∀q∈qs,vI q=true):B8 qs=some (qs.map JH):=if_pos (List.all_eq_true.2 h)
set_option maxHeartbeats 1000000 in
theorem Jm (qs:List Rat) (hn:qs.length≤1000000) (hb:∀q∈qs,aZ q≤1099511627776):FC 147 [aO bK qs] (Xw (Yo sV 1 (B8 qs)) (B8 qs).isSome):=by
 refine FC.Kf ⟨true,false⟩ JG (Nat.le_of_ble_eq_true rfl) fun n => ?_
 have e0:∀K,mF false [.string ⟨#[]⟩] 0 [] K=some (.ref K.length 0 0 0 0,K++[.row 0 [] 1 true]):=fun K=>kA rfl
 simp only[EF,BR,e0,List.length_replicate,mH,VX,Nat.reduceEqDiff,Nat.reduceAdd,Nat.reduceLeDiff,Nat.reduceLT,Nat.reduceSub]
 refine Ls (fun(i:Nat) ρ H=>i≤qs.length∧(∀q∈qs.take i,vI q=true)∧H=List.replicate n bT.dead++[bT.row i (((qs.take i).map JH).map sV) 1 true]∧ρ 4 = .ref n i 0 i i∧ρ 10=aO bK qs∧ρ 11=VI qs.length∧ρ 12=VI i) (fun i=>qs.length-i) 0 ⟨Nat.zero_le _,by simp,rfl,rfl,rfl,rfl,rfl⟩ ?_
 rintro i ρ H ⟨hi,qK,rfl,g4,g10,g11,g12⟩
 have pL:aH (List.replicate n bT.dead++[bT.row i (((qs.take i).map JH).map sV) 1 true]) n i=some (((qs.take i).map JH).map sV,1,true):=by rw[BD,aS]
 by_cases cP:(i:Int)<(qs.length:Int)
 ·obtain⟨q,hq⟩:∃q,qs[i]? = some q:=⟨_,List.getElem?_eq_getElem (by omega)⟩
  have hqm:=List.mem_of_getElem? hq
  have a1:=fun H=>aI (f:=bK) (t := .op) (H:=H) (size:=3) (k := .i64) hq rfl
  have wi:IntKind.i64.wrap ((i:Int)+1)=((i+1:Nat):Int):=wrapN (i+1) (by omega) (by omega)
  have e2:=Jd q (hb q hqm)
  have s1:=FB (lo:=n) (H:=List.replicate n bT.dead++[bT.row i (((qs.take i).map JH).map sV) 1 true]) (q:=q) (by simp)
  have s2:=We (H:=List.replicate n bT.dead++[bT.row i (((qs.take i).map JH).map sV) 1 true]) (K:=[]) (q:=q)
  cases hf:vI q with
  |
   false =>
   rw[hf] at e2
   rw[QW hqm hf]
   simp only[oT,g4,g10,g11,g12,cP,a1,e2,s1,s2,fD,mH,VX,Nat.reduceEqDiff,Nat.reduceAdd,Nat.reduceLeDiff,Nat.reduceLT,Nat.reduceSub]
   exact⟨_,A2 (by simp),rfl,Av,.tree [] .nil,rfl,rfl⟩
  |
   true =>
   rw[hf] at e2
   have eL:∀H,mF false [.string ⟨#[]⟩] 1 [(0,aU (EL q))] H=some (.tree [sV (JH q)] (.cl 1),H):=fun H=>iJ rfl rfl rfl
   have eS:∀H,cW 1 (.tree [sV (JH q)] (.cl 1)) H=some [sV (JH q)]:=fun H=>fK rfl rfl
   have eP:eO n 1 16 (.ref n i 0 i i) [sV (JH q)] (List.replicate n bT.dead++[bT.row i (((qs.take i).map JH).map sV) 1 true]++[.row 0 [bK q] 3 true])=some (.ref n (i+1) 0 (i+1) (i+1),(List.replicate n bT.dead++[bT.row (i+1) (((qs.take (i+1)).map JH).map sV) 1 true])++[.row 0 [bK q] 3 true]):=by
    rw[gY (f:=sV) (xs:=(qs.take i).map JH) (fW pL) (by simp;omega) (Nat.le_refl _) (by decide) (by decide) (by omega),jU hq]
    simp only[List.map_append,List.append_assoc,Bt]
    rfl
   simp only[oT,g4,g10,g11,g12,cP,a1,e2,s1,s2,eL,eS,eP,wi,fD,mH,VX,Nat.reduceEqDiff,Nat.reduceAdd,Nat.reduceLeDiff,Nat.reduceLT,Nat.reduceSub]
   rw[List.take_left' (by simp)]
   refine⟨i+1,by omega,by rw[aeC,Ax (lL _ (eR fun _=>rfl)),Hs],by omega,fun p hp => ?_,rfl,?_⟩
   ·rw[jU hq] at hp
    rcases List.mem_append.1 hp with h | h
    ·exact qK p h
    ·rw[List.mem_singleton] at h;subst h;exact hf
   ·simp only[tJ,g10,g11,Ay (yE _),HG (show n<(List.replicate n bT.dead++[bT.row i (((qs.take i).map JH).map sV) 1 true]).length by simp),VX,Nat.reduceEqDiff,Nat.reduceAdd,List.take_zero,iV,List.all_nil,List.length_nil,tJ,KD,Ay]
 ·have nS:i=qs.length:=by omega
  subst nS
  rw[List.take_length] at qK pL
  rw[Og qK]
  simp only[oT,g4,g10,g11,g12,cP,List.take_length,mH,VX,Nat.reduceEqDiff,Nat.reduceAdd,Nat.reduceLeDiff,Nat.reduceLT,Nat.reduceSub]
  refine⟨_,⟨rfl,fun _ _ _ _ _ h=>h⟩,by simp[eT,nP,kE],by simp only[dL,List.all_cons,List.all_nil,Bool.and_true];exact GH (fun _=>rfl) _,.ref n qs.length 0 qs.length qs.length,rfl,⟨n,qs.length,qs.length,Nat.le_refl _,by simp,by simp,by simp,pL⟩⟩
def vE (m:List (List Rat)):Option (List (List ByteArray)):=m.mapM B8
theorem Nu {n lo:Nat} {args hC:List VV} {F:Nat} {P:Nat→Nat→aA→VV→Prop} {ok:Bool} {H:aA} {K:VV→aA→Prop} (h:FC F hC (Xw P ok)) (sT:AN.contains F=true) (hf:args.mapM (PM.fz depth H)=some hC) (hO:BA n H)
  (hP:∀ {lo hi H H' v},P lo hi H v→dC lo hi H H'→P lo hi H' v) (hk:∀v H',H <+: H'→BA n H'→eT n v=true→P H.length H'.length H' v→K (.eY [v,.sc (.bool ok)]) H'):cT F args lo H K:=by
 refine h.Z4 sT hf ?_
 rintro r L ⟨v,rfl,hv⟩ hr hL
 have hvo:eT H.length v=true:=by
  simp only[eT,nP,Bool.and_eq_true] at hr
  exact hr.1
 refine hk v _ (List.prefix_append _ _) (hO.pre ?_) (NQ hO.len v hvo) ?_
 ·exact Gl hO.len hL
 ·rw[List.length_append]
  exact hP hv dC.move
set_option maxHeartbeats 2000000 in
theorem H8 (m:List (List Rat)) (hn:m.length≤1000000) (hb:∀r∈m,r.length≤1000000∧∀q∈r,aZ q≤1099511627776):FC 71 [aO (aO bK) m] (Xw (CG ((vE m).getD [])) (vE m).isSome):=by
 refine FC.Kf ⟨true,false⟩ Ib (Nat.le_of_ble_eq_true rfl) fun n => ?_
 have s0:bX n 1 (.ptr (n+1) 0 0 0) (.agg [.tree [] .nil]) (List.replicate n bT.dead++[bT.row 0 [.tree [] .nil] 1 true,.row 0 [.tree [] .nil] 1 true])=some (List.replicate n bT.dead++[bT.row 0 [.tree [] .nil] 1 true,.row 0 [.agg [.tree [] .nil]] 1 true]):=by
  rw[cF (e:=1) (g:=0) (j:=0) (by rw[Dz,lB,aS]) (by exact Nat.zero_lt_one) (by omega) rfl rfl,Tf]
  rfl
 simp only[Cw,Ar,s0,B3,List.length_replicate,List.length_cons,List.length_nil,List.append_assoc,List.cons_append,List.nil_append,eV,mH,VX,Nat.reduceEqDiff,Nat.reduceAdd,Nat.reduceLeDiff,Nat.reduceLT,Nat.reduceSub]
 refine aQ (fun(i:Nat) ρ H=>i≤m.length∧BA n H∧(∃x v bB,aH H n 0=some ([.tree [] .nil],1,true)∧aH H (n+1) 0=some ([x],1,true)∧aB x=[v]∧vE (m.take i)=some bB∧NG sV 1 bB (n+2) H.length H v)∧ρ 2 = .ptr n 0 0 0∧ρ 4 = .ptr (n+1) 0 0 0∧ρ 10=aO (aO bK) m∧ρ 11=VI m.length∧ρ 12=VI i) (fun i=>m.length-i) 0
  ⟨Nat.zero_le _,⟨[.row 0 [.tree [] .nil] 1 true,.row 0 [.agg [.tree [] .nil]] 1 true],rfl,rfl⟩,⟨.agg [.tree [] .nil],.tree [] .nil,[],by rw[BD,aS],by rw[Dz,lB,aS],rfl,rfl,.inl ⟨rfl,rfl⟩⟩,rfl,rfl,rfl,rfl,rfl⟩ ?_
 rintro i ρ H ⟨hi,hO,⟨x,v,bB,sN,Fy,hx,GQ,hv⟩,g2,g4,g10,g11,g12⟩
 have Ds:=iR Fy
 by_cases cP:(i:Int)<(m.length:Int)
 ·obtain⟨r,hr⟩:∃r,m[i]? = some r:=⟨_,List.getElem?_eq_getElem (by omega)⟩
  have MX:=hb r (List.mem_of_getElem? hr)
  have a1:=fun H=>aI (f:=aO bK) (t := .op) (H:=H) (size:=1) (k := .i64) hr rfl
  have wi:IntKind.i64.wrap ((i:Int)+1)=((i+1:Nat):Int):=wrapN (i+1) (by omega) (by omega)
  simp only[rA,g2,g4,g10,g11,g12,cP,a1,mH,VX,Nat.reduceEqDiff,Nat.reduceAdd,Nat.reduceLeDiff,Nat.reduceLT,Nat.reduceSub]
  refine Nu (n:=n) (Jm r MX.1 MX.2) rfl (Za (aF (yE _))) hO Yo.cB fun u H2 p2 hO2 _ hu => ?_
  cases ht:B8 r with
  |
   none =>
   rw[ht] at hu
   have hu:u = .tree [] .nil:=hu
   subst hu
   have alN:vE m=none:=mapM_none ht (List.mem_of_getElem? hr)
   rw[alN]
   have s1:bX n 1 (.ptr n 0 0 0) (.agg [.tree [] .nil]) H2=some (H2.set n (.row 0 [.agg [.tree [] .nil]] 1 true)):=by
    rw[cF (cC p2 sN) (by exact Nat.zero_lt_one) (Nat.le_refl _) rfl rfl]
    rfl
   have s2:cI true 1 (.ptr n 0 0 0) (H2.set n (.row 0 [.agg [.tree [] .nil]] 1 true))=some (.agg [.tree [] .nil]):=by
    rw[cD,cS (cC p2 sN)]
    rfl
   simp only[g2,g4,s1,s2,Option.isSome_none,mH,VX,Nat.reduceEqDiff,Nat.reduceAdd,Nat.reduceLeDiff,Nat.reduceLT,Nat.reduceSub]
   exact⟨_,A2 (by rw[List.length_set];have:=p2.length_le;omega),rfl,Av,.agg [.tree [] .nil],rfl,_,rfl,.inl ⟨rfl,rfl⟩⟩
  |
   some ys =>
   rw[ht] at hu
   obtain⟨b,g,c,k1,k2,rfl,k3,k4⟩:=hu
   ·have eL:∀K,mF false [.slice none 0 0] 1 [(0,.ref b g 0 ys.length c)] K=some (.tree [.ref b g 0 ys.length c] (.cl 1),K):=fun K=>iJ rfl rfl rfl
    have eS:∀K,cW 1 (.tree [.ref b g 0 ys.length c] (.cl 1)) K=some [.ref b g 0 ys.length c]:=fun K=>fK rfl rfl
    obtain⟨v',H3,ap,YD,cB,hlen,MM,yM,_⟩:=(hv.cB (dC.pre p2)).snoc (jI:=n) (by omega) (by rw[pM GQ,List.length_take];omega) ⟨b,g,c,ys⟩ k1 (by simp only;omega) k3 k4
    have S0:=cB _ _ _ (by omega) (cC p2 Fy)
    have l1:cI false 1 (.ptr (n+1) 0 0 0) H2=some v:=by
     rw[cD,cC p2 Fy]
     simp[dA,hx]
    have l2:aH H2 (n+1) 0=some ([x],1,true):=cC p2 Fy
    have uN:=YD.fO
    have s1:bX n 1 (.ptr (n+1) 0 0 0) v' H3=some (H3.set (n+1) (.row 0 [v'] 1 true)):=by
     rw[cF S0 (by exact Nat.zero_lt_one) (by omega) (by rw[uN.2.1];rfl) (by rw[uN.2.1];simp[uN.1])]
     rfl
    have hO3:=(MM n (by omega) hO2).set (b:=n+1) (g:=0) (e:=1) (es:=[v']) (w:=true) (by omega) (by
     rcases YD with⟨rfl,_⟩ | ⟨b',g',Wf,q1,q2,rfl,_⟩
     ·rfl
     ·simp[nP,eT];omega)
    simp only[g4,g12,wi,eL,eS,l1,ap,s1,S0,l2,zN,Nat.add_zero,Option.isSome_some,mH,VX,Nat.reduceEqDiff,Nat.reduceAdd,Nat.reduceLeDiff,Nat.reduceLT,Nat.reduceSub]
    refine⟨i+1,by omega,by omega,hO3,⟨v',v',bB++[ys],cG (by omega) (cB _ _ _ (by omega) (cC p2 sN)),cS S0,uN.2.1,?_,?_⟩,by (repeat' apply And.intro)<;>first | rfl | trivial | assumption⟩
    ·rw[jU hr]
     exact D0 GQ ht
    ·rw[List.length_set]
     exact YD.cB (dC.set (by omega))
 ·have nS:i=m.length:=by omega
  subst nS
  rw[List.take_length] at GQ
  rw[GQ]
  have uN:=hv.fO
  have l1:cI true 1 (.ptr (n+1) 0 0 0) H=some (.agg [v]):=by
   rw[cD,Fy]
   simp[dA,hx]
  have s1:bX n 1 (.ptr n 0 0 0) (.agg [v]) H=some (H.set n (.row 0 [.agg [v]] 1 true)):=by
   rw[cF sN (by exact Nat.zero_lt_one) (Nat.le_refl _) rfl (by simp[aB,uN.1])]
   rfl
  have s2:cI true 1 (.ptr n 0 0 0) (H.set n (.row 0 [.agg [v]] 1 true))=some (.agg [v]):=by
   rw[cD,cS sN]
   rfl
  simp only[rA,g2,g4,g10,g11,g12,cP,l1,s1,s2,Option.isSome_some,mH,VX,Nat.reduceEqDiff,Nat.reduceAdd,Nat.reduceLeDiff,Nat.reduceLT,Nat.reduceSub]
  have MM:eT n v=true:=by
   rcases hv with⟨rfl,_⟩ | ⟨b',g',Wf,q1,q2,rfl,_⟩
   ·rfl
   ·simp[eT];omega
  obtain⟨L,rfl,hL⟩:=hO
  refine⟨L.set 0 (.row 0 [.agg [v]] 1 true),⟨by simp,fun _ _ _ _ _ h=>by rw[Bt];exact h⟩,by simp[eT,nP,MM,kE],?_,.agg [v],rfl,v,rfl,?_⟩
  ·have:=(BA.set (n:=n) (b:=n) (g:=0) (e:=1) (es:=[.agg [v]]) (w:=true) ⟨L,rfl,hL⟩ (Nat.le_refl _) (by simp[nP,eT,MM]))
   rw[Bt] at this
   obtain⟨L',h1,h2⟩:=this
   rw[List.append_cancel_left h1]
   exact h2
  ·rw[←Bt,List.length_set]
   have:=hv.rg.cB (H':=(List.replicate n bT.dead++L).set n (.row 0 [.agg [v]] 1 true)) (dC.set (by omega))
   rw[B3] at this
   exact this.wide (by omega) (Nat.le_refl _)
end Go.PM
namespace Go.PM
open Go.Lib
section
variable {g:List (List Rat)} {e row:List Rat} {n i:Nat} {st:List Bool}
end
end Go.PM
namespace Go.PM
end Go.PM
namespace Go.PM
def tI:aD:=(LS [LO 35 (.bin .lss (LT 34) (LT 33))] (.seq (.cond (LT 35) .skip (.exit 2)) (.seq (.block 3 (LS [LM 36 34,LO 37 (.iaddr 3 (LT 32) (LT 34)),LO 38 (LK 37),LO 11 (.new [(.bool false),(.slice none 0 0),(.slice none 0 0)]),LM 10 36,LN (.store 3 (LT 11) (LT 38))] (LS [LM 39 1,LO 40 (.bin .sub (LT 39) (LI 1)),LM 41 9,LO 42 (.bin .sub (LT 41) (LI 1)),LO 43 (.max (LT 42) (LI 0)),LM 44 10,LO 45 (.bin .add (LT 43) (LT 44)),LO 46 (.min (LT 40) (LT 45)),LM 12 46] (.dH [LM 47 8,LM 48 9,LO 49 (.iaddr 1 (LT 47) (LT 48)),LO 50 (LL 49),LM 51 12,LM 52 8,LM 53 9,LO 54 (.iaddr 1 (LT 52) (LT 53)),LO 55 (LL 54),LM 56 12,LO 57 (.iaddr 3 (LT 55) (LT 56)),LO 58 (LK 57),LO 59 (LK 11),LQ 60 (.call 69 [(LT 58),(LT 59)]),LO 61 (.iaddr 3 (LT 50) (LT 51)),LN (.store 3 (LT 61) (LT 60))])))) (.dH [LO 62 (.bin .add (LT 34) (LI 1)),LM 34 62]))))
def tR:aD:=(LS [LO 30 (.bin .lss (LT 29) (LT 28))] (.seq (.cond (LT 30) .skip (.exit 0)) (.seq (.block 1 (LS [LM 31 29,LM 9 31] (LS [LM 32 6,LO 33 (.len (LT 32)),LO 34 (.mv (LI 0))] (.block 2 (.loop tI))))) (.dH [LO 63 (.bin .add (LT 29) (LI 1)),LM 29 63]))))
def qH:aD:=(LS [LO 4 (.new [(.slice none 0 0)]),LO 5 (.mv LF)] (LS [LM 14 0,LO 15 (.call 98 [(LT 14)]),LM 13 15,LO 16 (LX 13 0),LO 17 (LX 13 1),LM 6 16,LM 7 17] (.seq (LS [LM 18 7,LO 19 (.un .not (LT 18)),LM 20 19,LZ 20 21 (.mv (LT 1)),LZ 20 22 (.call 93 [(LT 21),(LI 1),(LI 12)]),LZ 20 23 (.un .not (LT 22)),LO 24 (.pick (LT 20) LG (LT 23))] (.cond (LT 24) (LS [LO 25 (.build [(.slice none 0 0)] [(0,1)] []),LN (.store 1 (LT 4) (LT 25)),LO 5 (.mv LF)] .ret) .skip)) (LS [LM 26 1,LO 27 (.call 99 [(LT 26)]),LM 8 27] (.seq (LS [LM 28 1,LO 29 (.mv (LI 0))] (.block 0 (.loop tR))) (LS [LM 64 8,LO 65 (.call 71 [(LT 64)]),LO 66 (LX 65 0),LO 67 (LX 65 1),LN (.store 1 (LT 4) (LT 66)),LM 5 67] .ret))))))
def tT:aR:=⟨68,[(.cell 4 true 1),(.tmp 5)],qH⟩
theorem JI:gD 35=some tT:=by kernel_rfl
end Go.PM
namespace Go.PM
open Go.Lib
theorem amA {n k lo hi:Nat} {H:aA} {P:Nat→Nat→aA→VV→Prop} {v:VV} {ok:Bool} (hk:n≤k) (hl:k≤H.length) (hT:BK n k H) (hv:eT n v=true)
  (IK:∀ {lo hi H H' v},P lo hi H v→dC lo hi H H'→P lo hi H' v) (arA:∀ {lo hi jI oJ:Nat} {H:aA} {v:VV},P lo hi H v→jI≤lo→hi≤oJ→P jI oJ H v) (hp:P lo hi H v) (eQ:k≤lo) (hhi:hi≤H.length) :
  ∃L,Gm H (List.replicate n .dead++L)∧eT n (.eY [v,.sc (.bool ok)])=true∧dL n L=true∧Xw P ok n (.eY [v,.sc (.bool ok)]) L:=by
 obtain⟨L,k1,k2,k3⟩:=Sj hk hl hT
 refine⟨L,k1,by simp[eT,nP,hv,kE],k2,v,rfl,?_⟩
 have hl3:=k1.1
 rw[List.length_append,List.length_replicate] at hl3
 exact arA (IK hp (H':=List.replicate n bT.dead++L) fun b g x h1 h2 h3=>k3 b g x (by omega) h3) (by omega) (by omega)
theorem CG.wide {bB:List (List ByteArray)}:∀ {lo hi jI oJ:Nat} {H:aA} {v:VV},CG bB lo hi H v→jI≤lo→hi≤oJ→CG bB jI oJ H v:=by
 rintro lo hi jI oJ H v ⟨c,h1,h2⟩ hl hh
 exact⟨c,h1,h2.wide hl hh⟩
theorem CG.own {n lo hi:Nat} {H:aA} {v:VV} {bB:List (List ByteArray)} (h:CG bB lo hi H v) (hn:n≤lo):∃c,v = .agg [c]∧bP c=true∧aB c=[c]∧eT n c=true:=by
 obtain⟨c,rfl,h | ⟨b,g,cc,rs,h1,h2,rfl,h3⟩⟩:=h
 ·obtain⟨rfl,_⟩:=h
  exact⟨_,rfl,rfl,rfl,rfl⟩
 ·exact⟨_,rfl,rfl,rfl,by simp[eT];omega⟩
theorem UJ.wide {s:JY}:∀ {lo hi jI oJ:Nat} {H:aA} {v:VV},UJ s lo hi H v→jI≤lo→hi≤oJ→UJ s jI oJ H v:=by
 rintro lo hi jI oJ H v ⟨a,b,c,m1,m2,h1,k1,k2,k3,h2,h3,h4⟩ hl hh
 exact⟨a,b,c,m1,m2,h1,by omega,k2,by omega,h2.wide hl (Nat.le_refl _),h3,h4.wide (Nat.le_refl _) hh⟩
theorem BK.aoI {n k:Nat} {H L:aA} (h:BK n k H) (hL:dL n L=true):BK n k (H++L):=by
 intro b g es e w hb hr
 rcases Nat.lt_or_ge b H.length with bA | Ch
 ·rw[List.getElem?_append_left bA] at hr
  exact h b g es e w hb hr
 ·rw[List.getElem?_append_right Ch] at hr
  exact List.all_eq_true.1 hL _ (List.mem_of_getElem? hr)
theorem BK.start {n:Nat} {H:aA}:BK n H.length H:=fun b g es e w hb hr=>by
 rw[List.getElem?_eq_none hb] at hr
 cases hr
end Go.PM
namespace Go.PM
section
variable {α:Type}
def vec (n:Nat) (f:Nat→α):List α:=(List.range n).map f
def JL (n m:Nat) (F:Nat→Nat→α):List (List α):=vec n fun a=>vec m (F a)
theorem yT (n:Nat) (f:Nat→α):(vec n f).length=n:=by simp[vec]
theorem DG (n m:Nat) (F:Nat→Nat→α):(JL n m F).length=n:=yT ..
theorem Ga {n i:Nat} {f:Nat→α} (h:i<n):(vec n f)[i]? = some (f i):=by simp[vec,h]
theorem Le {n i:Nat} {f:Nat→α} (h:n≤i):(vec n f)[i]? = none:=by rw[List.getElem?_eq_none];rw[yT];exact h
theorem AT {n:Nat} {f g:Nat→α} (h:∀i,i<n→f i=g i):vec n f=vec n g:=List.map_congr_left fun i hi=>h i (List.mem_range.1 hi)
theorem On {n m:Nat} {F G:Nat→Nat→α} (h:∀a b,a<n→b<m→F a b=G a b):JL n m F=JL n m G:=AT fun a ha=>AT fun b hb=>h a b ha hb
theorem Vb {n m i:Nat} {F:Nat→Nat→α} (h:i<n):(JL n m F)[i]? = some (vec m (F i)):=Ga h
theorem V4 {n j:Nat} {f:Nat→α} {y:α}:(vec n f).set j y=vec n fun b=>if b=j then y else f b:=by
 apply List.ext_getElem?
 intro b
 rw[List.getElem?_set,yT]
 by_cases hb:b<n
 ·rw[Ga hb,Ga hb]
  by_cases hj:j=b
  ·subst hj;simp[hb]
  ·simp[hj,Ne.symm hj]
 ·rw[Le (by omega),Le (by omega)]
  split
  ·rw[if_neg (by omega)]
  ·rfl
theorem adX {n m i:Nat} {F:Nat→Nat→α} {g:Nat→α}:(JL n m F).set i (vec m g)=JL n m fun a b=>if a=i then g b else F a b:=by
 rw[JL,V4]
 refine AT fun a _ => ?_
 split
 ·rename_i h
  exact AT fun b _=>(if_pos h).symm
 ·rename_i h
  exact AT fun b _=>(if_neg h).symm
theorem NA {n:Nat} {x:α}:List.replicate n x=vec n fun _=>x:=by
 apply List.ext_getElem?
 intro i
 by_cases h:i<n
 ·rw[Ga h,List.getElem?_replicate,if_pos h]
 ·rw[Le (by omega),List.getElem?_replicate,if_neg h]
theorem Xa {n m:Nat} {x:α}:List.replicate n (List.replicate m x)=JL n m fun _ _=>x:=by rw[NA,NA];rfl
theorem DB {n:Nat} {f:Nat→α} {x:α}:x∈vec n f↔∃i,i<n∧f i=x:=by simp[vec]
theorem JM {n m:Nat} {F:Nat→Nat→α} {r:List α} (h:r∈JL n m F):∃i,i<n∧r=vec m (F i):=by
 obtain⟨i,hi,rfl⟩:=DB.1 h
 exact⟨i,hi,rfl⟩
end
end Go.PM
namespace Go.PM
open Go.Lib
theorem YL {qs:List Rat} {B i:Nat} {y:Rat} (h:∀q∈qs,aZ q≤B) (hy:aZ y≤B):∀q∈qs.set i y,aZ q≤B:=fun q hq=>by
 rcases List.mem_or_eq_of_mem_set hq with h1 | rfl
 ·exact h q h1
 ·exact hy
theorem UJ.own {n lo hi:Nat} {s:JY} {H:aA} {v:VV} (h:UJ s lo hi H v) (hn:n≤lo):∃a b c,v = .agg [a,b,c]∧bP a=true∧bP b=true∧bP c=true∧eT n a=true∧eT n b=true∧eT n c=true:=by
 obtain⟨a,b,c,m1,m2,rfl,l1,l2,l3,ha,hb,hc⟩:=h
 refine⟨a,b,c,rfl,ha.cell,hb.cell,hc.cell,?_,?_,?_⟩
 ·rcases ha with⟨rfl,_⟩ | ⟨b,g,c,h1,h2,rfl,h3⟩
  ·rfl
  ·simp[eT];omega
 ·rcases hb with⟨rfl,_⟩ | ⟨b,g,c,rs,h1,h2,rfl,h3⟩
  ·rfl
  ·simp[eT];omega
 ·rcases hc with⟨rfl,_⟩ | ⟨b,g,c,h1,h2,rfl,h3⟩
  ·rfl
  ·simp[eT];omega
end Go.PM