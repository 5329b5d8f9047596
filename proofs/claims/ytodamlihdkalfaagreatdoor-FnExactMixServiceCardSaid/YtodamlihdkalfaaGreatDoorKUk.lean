/- Texts of a claim, in one: part 11. -/
import Derived.KernelRfl
import Derived.Test.YtodamlihdkalfaaGreatDoorKUj
set_option linter.unusedSimpArgs false
set_option linter.unusedVariables false
namespace Go.PM
open Go.Lib
theorem RI {α:Type} {l:List α} (h:l.Nodup) {i j:Nat} {x:α} (hi:l[i]? = some x) (hj:l[j]? = some x):i=j:=by
 obtain⟨hi,pL⟩:=List.getElem?_eq_some_iff.1 hi
 obtain⟨hj,hj'⟩:=List.getElem?_eq_some_iff.1 hj
 have h:=List.pairwise_iff_getElem.1 h
 rcases Nat.lt_trichotomy i j with bB | heq | hgt
 ·exact absurd (pL.trans hj'.symm) (h i j hi hj bB)
 ·exact heq
 ·exact absurd (hj'.trans pL.symm) (h j i hj hi hgt)
section
variable {α:Type} {f:α→VV} {e lo hi:Nat} {H H':aA} {v:VV}
def cS (lo hi:Nat) (H H':aA):Prop:=∀b g x,lo≤b→b<hi→aI H b g=some x→aI H' b g=some x
theorem cS.pre (h:H <+: H'):cS lo hi H H':=fun _ _ _ _ _=>bX h
theorem cS.refl:cS lo hi H H:=fun _ _ _ _ _ h=>h
theorem cS.trans {H'':aA} (h:cS lo hi H H') (h':cS lo hi H' H''):cS lo hi H H'':=fun b g x h1 h2 h3=>h' b g x h1 h2 (h b g x h1 h2 h3)
theorem cS.sub {l h':Nat} (h:cS lo hi H H') (hl:lo≤l) (hh:h'≤hi):cS l h' H H':=fun b g x h1 h2=>h b g x (by omega) (by omega)
theorem cS.set {b:Nat} {x:cA} (hb:b<lo∨hi≤b):cS lo hi H (H.set b x):=fun _ _ _ h1 h2=>cD (by omega)
theorem cS.move {L:aA}:cS H.length hi (List.replicate H.length .dead++L) (H++L):=fun _ _ _ h1 _=>Wj h1
def PA (f:α→VV) (e:Nat) (bH:List α) (lo hi:Nat) (H:aA) (v:VV):Prop :=
 (v = .tree [] .nil∧bH=[])∨∃b g c,lo≤b∧b<hi∧v = .ref b g 0 bH.length c∧bH.length≤c∧aI H b g=some (bH.map f,e,true)
theorem PA.bU {bH:List α} (h:PA f e bH lo hi H v) (hk:cS lo hi H H'):PA f e bH lo hi H' v:=by
 rcases h with h | ⟨b,g,c,h1,h2,h3,h4,h5⟩
 ·exact .inl h
 ·exact .inr ⟨b,g,c,h1,h2,h3,h4,hk _ _ _ h1 h2 h5⟩
theorem PA.wide {bH:List α} {kP pL:Nat} (h:PA f e bH lo hi H v) (hl:kP≤lo) (hh:hi≤pL):PA f e bH kP pL H v:=by
 rcases h with h | ⟨b,g,c,h1,h2,h3⟩
 ·exact .inl h
 ·exact .inr ⟨b,g,c,by omega,by omega,h3⟩
theorem VP {d b g c:Nat} {xs:List α} {w:Bool} (hp:∀x,aR (f x)=true) (h:aI H b g=some (xs.map f,e,w)) (hc:xs.length≤c):fz (d+2) H (.ref b g 0 xs.length c)=some (aY f xs):=by
 have:aR (.ref b g 0 xs.length c)=false:=rfl
 show PM.fz ((d+1)+1) H _=_
 unfold PM.fz
 simp only[this,h,Bool.false_eq_true,if_false]
 rw[if_pos ⟨by simp,hc⟩,List.drop_zero,List.take_of_length_le (by simp),mapM_pure (n:=d) (dV hp)]
 rfl
theorem PA.fz {d:Nat} {bH:List α} (h:PA f e bH lo hi H v) (hp:∀x,aR (f x)=true):PM.fz (d+2) H v=some (aY f bH):=by
 rcases h with⟨rfl,rfl⟩ | ⟨b,g,c,h1,h2,rfl,h4,h5⟩
 ·exact Kj
 ·exact VP hp h5 h4
structure A9 (α:Type) where
 b:Nat
 g:Nat
 c:Nat
 xs:List α
def pK (r:A9 α):VV := .ref r.b r.g 0 r.xs.length r.c
structure NZ (f:α→VV) (e lo hi b:Nat) (H:aA) (rs:List (A9 α)):Prop where
 nd:(rs.map (·.b)).Nodup
 row:∀r∈rs,lo≤r.b∧r.b<hi∧r.b≠b∧r.xs.length≤r.c∧aI H r.b r.g=some (r.xs.map f,e,true)
def RG (f:α→VV) (e:Nat) (bH:List (List α)) (lo hi:Nat) (H:aA) (v:VV):Prop :=
 (v = .tree [] .nil∧bH=[])∨∃b g c rs,lo≤b∧b<hi∧v = .ref b g 0 bH.length c∧bH.length≤c∧aI H b g=some (rs.map pK,1,true)∧rs.map (·.xs)=bH∧NZ f e lo hi b H rs
theorem RG.bU {bH:List (List α)} (h:RG f e bH lo hi H v) (hk:cS lo hi H H'):RG f e bH lo hi H' v:=by
 rcases h with h | ⟨b,g,c,rs,h1,h2,h3,h4,h5,h6,h7⟩
 ·exact .inl h
 ·exact .inr ⟨b,g,c,rs,h1,h2,h3,h4,hk _ _ _ h1 h2 h5,h6,h7.nd,fun r hr=>by
   obtain⟨k1,k2,k3,k4,k5⟩:=h7.row r hr
   exact⟨k1,k2,k3,k4,hk _ _ _ k1 k2 k5⟩⟩
theorem RG.wide {bH:List (List α)} {kP pL:Nat} (h:RG f e bH lo hi H v) (hl:kP≤lo) (hh:hi≤pL):RG f e bH kP pL H v:=by
 rcases h with h | ⟨b,g,c,rs,h1,h2,h3,h4,h5,h6,h7⟩
 ·exact .inl h
 ·exact .inr ⟨b,g,c,rs,by omega,by omega,h3,h4,h5,h6,h7.nd,fun r hr=>by
   obtain⟨k1,k2,k3,k4,k5⟩:=h7.row r hr
   exact⟨by omega,by omega,k3,k4,k5⟩⟩
theorem Vv {d b g c lo hi:Nat} {rs:List (A9 α)} {w:Bool} (hp:∀x,aR (f x)=true) (h:aI H b g=some (rs.map pK,1,w)) (hc:rs.length≤c) (hR:NZ f e lo hi b H rs) :
  fz (d+3) H (.ref b g 0 rs.length c)=some (aY (aY f) (rs.map (·.xs))):=by
 have:aR (.ref b g 0 rs.length c)=false:=rfl
 show PM.fz ((d+2)+1) H _=_
 unfold PM.fz
 simp only[this,h,Bool.false_eq_true,if_false]
 rw[if_pos ⟨by simp,hc⟩,List.drop_zero,List.take_of_length_le (by simp),mapM_map (f:=pK) (f':=fun r=>aY f r.xs) fun r hr=>VP hp (hR.row r hr).2.2.2.2 (hR.row r hr).2.2.2.1]
 simp[aY,List.map_map]
theorem RG.fz {d:Nat} {bH:List (List α)} (h:RG f e bH lo hi H v) (hp:∀x,aR (f x)=true):PM.fz (d+3) H v=some (aY (aY f) bH):=by
 rcases h with⟨rfl,rfl⟩ | ⟨b,g,c,rs,h1,h2,rfl,h4,h5,rfl,h7⟩
 ·exact Kj
 ·rw[List.length_map] at h4 ⊢
  exact Vv hp h5 h4 h7
theorem J5 {d:Nat} {us Fx:List VV} (h:us.mapM (PM.fz (d+1) H)=some Fx):PM.fz (d+2) H (.agg us)=some (.agg Fx):=by
 have e:PM.fz (d+2) H (.agg us)=if aR (.agg us)=true then some (.agg us) else (us.mapM (PM.fz (d+1) H)).map .agg:=rfl
 rw[e]
 by_cases hq:aR (.agg us)=true
 ·rw[if_pos hq]
  have:us.mapM (PM.fz (d+1) H)=some us:=mapM_pure hq
  rw[this] at h
  cases h
  rfl
 ·rw[if_neg hq,h]
  rfl
def R0 (P:Nat→Nat→aA→VV→Prop) (ok:Bool) (n:Nat) (r:VV) (L:aA):Prop :=
 ∃v,r = .dS [v,.sc (.bool ok)]∧P n (n+L.length) (List.replicate n .dead++L) v
theorem Kk {F lo:Nat} {args iI:List VV} {P:Nat→Nat→aA→VV→Prop} {ok:Bool} {H:aA} {K:VV→aA→Prop} (h:FC F iI (R0 P ok)) (tM:BE.contains F=true) (hf:args.mapM (PM.fz depth H)=some iI)
  (hP:∀ {lo hi H H' v},P lo hi H v→cS lo hi H H'→P lo hi H' v) (hk:∀v H',H <+: H'→P H.length H'.length H' v→K (.dS [v,.sc (.bool ok)]) H'):cQ F args lo H K:=by
 refine h.call tM hf ?_
 rintro r L ⟨v,rfl,hv⟩
 refine hk v _ (List.prefix_append _ _) ?_
 rw[List.length_append]
 exact hP hv cS.move
end
def GR (T:VV) (lo hi:Nat) (H:aA) (v:VV):Prop:=∀H',cS lo hi H H'→fz depth H' v=some T
theorem GR.bU {T:VV}:∀ {lo hi H H' v},GR T lo hi H v→cS lo hi H H'→GR T lo hi H' v:=fun h hk _ h'=>h _ (hk.trans h')
theorem GR.now {T v:VV} {lo hi:Nat} {H:aA} (h:GR T lo hi H v):fz depth H v=some T:=h H cS.refl
def CG (bH:List (List ByteArray)) (lo hi:Nat) (H:aA) (v:VV):Prop:=∃c,v = .agg [c]∧RG sV 1 bH lo hi H c
theorem CG.bU {bH:List (List ByteArray)}:∀ {lo hi H H' v},CG bH lo hi H v→cS lo hi H H'→CG bH lo hi H' v:=by
 rintro lo hi H H' v ⟨c,h1,h2⟩ hk
 exact⟨c,h1,h2.bU hk⟩
theorem CG.fz {bH:List (List ByteArray)} {lo hi:Nat} {H:aA} {v:VV} (h:CG bH lo hi H v):PM.fz depth H v=some (chV bH):=by
 obtain⟨c,rfl,h⟩:=h
 refine J5 (d:=6) ?_
 rw[List.mapM_cons,h.fz (d:=4) fun _=>rfl]
 rfl
theorem CG.seen {bH:List (List ByteArray)} {lo hi:Nat} {H:aA} {v:VV} (h:CG bH lo hi H v):GR (chV bH) lo hi H v:=fun _ hk=>(h.bU hk).fz
def IX (s:DT) (lo hi:Nat) (H:aA) (v:VV):Prop:=∃a b c m1 m2,v = .agg [a,b,c]∧lo≤m1∧m1≤m2∧m2≤hi∧PA sV 1 s.b lo m1 H a∧RG sV 1 s.g m1 m2 H b∧PA sV 1 s.e m2 hi H c
theorem IX.bU {s:DT}:∀ {lo hi H H' v},IX s lo hi H v→cS lo hi H H'→IX s lo hi H' v:=by
 rintro lo hi H H' v ⟨a,b,c,m1,m2,h1,k1,k2,k3,h2,h3,h4⟩ hk
 exact⟨a,b,c,m1,m2,h1,k1,k2,k3,h2.bU (hk.sub (by omega) (by omega)),h3.bU (hk.sub (by omega) (by omega)),h4.bU (hk.sub (by omega) (by omega))⟩
theorem S4 {s:DT} {l1 h1 l2 h2 l3 h3:Nat} {H:aA} {a b c:VV} (ha:PA sV 1 s.b l1 h1 H a) (hb:RG sV 1 s.g l2 h2 H b) (hc:PA sV 1 s.e l3 h3 H c):PM.fz depth H (.agg [a,b,c])=some (Rn s):=by
 refine J5 (d:=6) ?_
 rw[List.mapM_cons,ha.fz (d:=5) fun _=>rfl]
 rw[List.mapM_cons,hb.fz (d:=4) fun _=>rfl]
 rw[List.mapM_cons,hc.fz (d:=5) fun _=>rfl]
 rfl
theorem IX.fz {s:DT} {lo hi:Nat} {H:aA} {v:VV} (h:IX s lo hi H v):PM.fz depth H v=some (Rn s):=by
 obtain⟨a,b,c,m1,m2,rfl,k1,k2,k3,h2,h3,h4⟩:=h
 exact S4 h2 h3 h4
theorem IX.seen {s:DT} {lo hi:Nat} {H:aA} {v:VV} (h:IX s lo hi H v):GR (Rn s) lo hi H v:=fun _ hk=>(h.bU hk).fz
theorem PA.seen {bH:List ByteArray} {lo hi:Nat} {H:aA} {v:VV} (h:PA sV 1 bH lo hi H v):GR (dT bH) lo hi H v:=fun _ hk=>(h.bU hk).fz (d:=6) fun _=>rfl
def Sz (k:Int):ByteArray:=⟨(109::(if k≤0 then [48] else decDigits k.toNat)).toArray⟩
theorem Cv (k:Int) (hk:0≤k∧k≤1000000000):TC 130 [VI k] (.sc (.string (Sz k))):=by
 refine TC.walk ⟨true,false⟩ JG rfl (Nat.le_of_ble_eq_true rfl) rfl rfl ?_
 by_cases h0:k≤0
 ·have e:Sz k=⟨#[109,48]⟩:=by unfold Sz;rw[if_pos h0]
  rw[e]
  simp only[AH,vL,h0,VX,Nat.reduceEqDiff,Nat.reduceAdd]
  exact aF rfl
 obtain⟨n,rfl⟩:∃n:Nat,k=n:=⟨k.toNat,by omega⟩
 have e1:∀(x:UInt8) (H:aA),mB false [.int .u8 0] 1 [(0,bV x)] H=some (.tree [bV x] (.cl 1),H):=fun x H=>iD rfl rfl rfl
 simp only[AH,vL,h0,VX,Nat.reduceEqDiff,Nat.reduceAdd]
 refine aQ (fun(s:Nat×List UInt8) ρ H=>s.1≤n∧H=[]∧ρ 0=VI s.1∧ρ 3=aU s.2∧decDigits n=lU s.1++s.2) (fun s=>s.1) (n,[]) ⟨Nat.le_refl _,rfl,rfl,rfl,by rw[List.append_nil,lU,if_neg (by omega)]⟩ ?_
 rintro⟨r,bs⟩ ρ H ⟨hr,rfl,g0,g3,hd⟩
 simp only at hr hd g0 g3
 have uJ:bs.length≤11:=by
  have h1:=zF n 10 (by omega)
  rw[hd,List.length_append] at h1
  omega
 by_cases hz:(0:Int)<(r:Int)
 ·have em:=Qn (r:Int)
  have eq:=afX (r:Int) (by omega) (by omega)
  have m1:((r:Int)).tmod 10=((r % 10:Nat):Int):=by rw[Int.tmod_eq_emod_of_nonneg (by omega)];omega
  have m2:((r:Int)).tdiv 10=((r / 10:Nat):Int):=by rw[Int.tdiv_eq_ediv_of_nonneg (by omega)];omega
  rw[m1] at em
  rw[m2] at eq
  have w1:IntKind.i64.wrap (48+((r % 10:Nat):Int))=((48+r % 10:Nat):Int):=wrapN _ (by omega) (by omega)
  have w2:IntKind.u8.wrap ((48+r % 10:Nat):Int)=((d10 (r % 10)).toNat:Int):=by
   rw[Nj (Nat.mod_lt _ (by decide))]
   simp[IntKind.wrap,IntKind.bits,IntKind.signed]
   omega
  have bs2:=fun bC (h:eE bC (.tmp 12) = .tree [bV (d10 (r % 10))] (.cl 1))=>(FG.tree (bs:=[d10 (r % 10)]) (k := .cl 1) (H:=[])).str (fl:=⟨true,false⟩) (lo:=0) h
  have W2:decDigits n=lU (r / 10)++d10 (r % 10)::bs:=by
   refine Iv ?_
   rw[hd,lU,if_neg (by omega)]
  have ea:=qJ [d10 (r % 10)] bs (by have:=uJ;simp only[List.length_cons,List.length_nil];omega)
  simp only[uC,g0,g3,hz,em,eq,w1,w2,e1,Pc,VX,Nat.reduceEqDiff,Nat.reduceAdd]
  rw[bs2 _ rfl]
  simp only[g0,g3,em,eq,ea,VX,Nat.reduceEqDiff,Nat.reduceAdd]
  exact⟨(r / 10,d10 (r % 10)::bs),by simp only;omega,by simp only;omega,rfl,rfl,W2⟩
 ·have CB:r=0:=by omega
  subst CB
  simp only[uC,g0,hz,VX,Nat.reduceEqDiff,Nat.reduceAdd]
  have hb:bs=decDigits n:=by rw[hd,lU,if_pos rfl,List.nil_append]
  have e:Sz (n:Int)=⟨(109::bs).toArray⟩:=by
   unfold Sz
   rw[if_neg h0,Int.toNat_natCast,hb]
  have ea:=qJ [109] bs (by simp only[List.length_cons,List.length_nil];omega)
  have ea:dB .add (.string ⟨#[109]⟩) (.string ⟨bs.toArray⟩)=some (.string ⟨(109::bs).toArray⟩):=ea
  rw[e]
  simp only[g3,ea,VX,Nat.reduceEqDiff,Nat.reduceAdd]
  exact aF rfl
theorem aeM (k:Int):dB .neq (.string (Sz k)) (.string (Sz k))=some (.bool false):=by
 unfold Sz
 rw[Px]
 simp
abbrev jC (k:Int) (n:Nat):List ByteArray:=(iota k n).map Sz
theorem qV (k:Int) (n:Nat):(jC k n).length=n:=by rw[List.length_map,Se]
theorem Us {k:Int} {n i:Nat} (h:i<n):(jC k n)[i]? = some (Sz (k+i)):=by
 rw[List.getElem?_map]
 simp[iota,List.getElem?_range,h]
theorem qW {lo b g n c:Nat} {H:aA} (xs:List ByteArray) (k:Int) (hr:aI H b g=some (xs.map sV,1,true)) (hn:n≤xs.length) (eW:lo≤b) (hk:0≤k∧k≤100000000) (R1:n≤100000000) :
  jO 50 [.ref b g 0 n c,VI k] lo H fun r H'=>r=VI (k+n)∧H'=H.set b (.row g ((jC k n++xs.drop n).map sV) 1 true):=by
 refine jO.walk ⟨true,false⟩ xR (Nat.le_of_ble_eq_true rfl) ?_
 have hb:b<H.length:=(List.getElem?_eq_some_iff.1 (cG.1 hr)).1
 have h00:H=H.set b (.row g ((jC k 0++xs.drop 0).map sV) 1 true):=by
  have h':=cG.1 hr
  obtain⟨bB,CE⟩:=List.getElem?_eq_some_iff.1 h'
  have:jC k 0++xs.drop 0=xs:=by simp[iota]
  rw[this,←CE,List.set_getElem_self]
 simp only[uH,qX,VX,Nat.reduceEqDiff,Nat.reduceAdd]
 refine aQ (fun(i:Nat) ρ H1=>i≤n∧H1=H.set b (.row g ((jC k i++xs.drop i).map sV) 1 true)∧ρ 0 = .ref b g 0 n c∧ρ 1=VI (k+i)∧ρ 5=VI i) (fun i=>n-i) 0 ⟨Nat.zero_le _,h00,rfl,by simp only[VX,Nat.reduceEqDiff,Nat.reduceAdd];simp,rfl⟩ ?_
 rintro i ρ H1 ⟨hi,rfl,h0,h1,h5⟩
 have hR:aI (H.set b (.row g ((jC k i++xs.drop i).map sV) 1 true)) b g=some ((jC k i++xs.drop i).map sV,1,true):=cG.2 (List.getElem?_set_self hb)
 have hlen:(jC k i++xs.drop i).length=xs.length:=by rw[List.length_append,qV,List.length_drop];omega
 have el:=dU (o:=0) (n:=n) (c:=c) hR
 by_cases cN:(i:Int)<(n:Int)
 ·have e1:=bD (o:=0) (n:=n) (c:=c) (i:=i) (k := .i64) hR (by omega)
  have e2:=fK (f:=sV) (e:=1) (x:=Sz (k+i)) (j:=i) (lo:=lo) hR (by omega) eW rfl rfl
  have e3:=Cv (k+i) (by omega)
  have hs:(jC k i++xs.drop i).set i (Sz (k+i))=jC k (i+1)++xs.drop (i+1):=by
   obtain⟨x,hx⟩:∃x,xs[i]? = some x:=⟨_,List.getElem?_eq_getElem (by omega)⟩
   have hd:xs.drop i=x::xs.drop (i+1):=by
    have bB:=List.getElem?_eq_some_iff.1 hx
    rw[List.drop_eq_getElem_cons bB.1,bB.2]
   rw[List.set_append_right _ _ (by rw[qV];exact Nat.le_refl _),qV,Nat.sub_self,hd,List.set_cons_zero]
   have:jC k (i+1)=jC k i++[Sz (k+i)]:=by
    show (iota k (i+1)).map Sz=(iota k i).map Sz++[Sz (k+i)]
    unfold iota
    rw[List.range_succ,List.map_append,List.map_append]
    rfl
   rw[this,List.append_assoc]
   rfl
  rw[List.set_set,hs] at e2
  have w1:IntKind.i64.wrap (k+i+1)=k+((i+1:Nat):Int):=by rw[wrap64 (by omega) (by omega)];omega
  have wi:IntKind.i64.wrap ((i:Int)+1)=((i+1:Nat):Int):=wrapN (i+1) (by omega) (by omega)
  simp only[lH,h0,h1,h5,cN,el,e1,e2,e3,w1,wi,VX,Nat.reduceEqDiff,Nat.reduceAdd]
  exact⟨i+1,by omega,by omega,by (repeat' apply And.intro)<;>first | rfl | trivial⟩
 ·have oJ:i=n:=by omega
  subst oJ
  simp only[lH,h0,h1,h5,cN,el,VX,Nat.reduceEqDiff,Nat.reduceAdd]
theorem C9 {lo:Nat} {H:aA} (k:Int):jO 50 [.tree [] .nil,VI k] lo H fun r H'=>r=VI k∧H'=H:=by
 refine jO.walk ⟨true,false⟩ xR (Nat.le_of_ble_eq_true rfl) ?_
 simp only[uH,qX,VX,Nat.reduceEqDiff,Nat.reduceAdd]
 refine aQ (fun(_:Unit) ρ H1=>H1=H∧ρ 0 = .tree [] .nil∧ρ 1=VI k∧ρ 5=VI 0) (fun _=>0) () ⟨rfl,rfl,rfl,rfl⟩ ?_
 rintro _ ρ H1 ⟨rfl,h0,h1,h5⟩
 simp only[lH,h0,h1,h5,List.length_nil,Int.natCast_zero,Int.lt_irrefl,Int.reduceLT,VX,Nat.reduceEqDiff,Nat.reduceAdd]
theorem rB (k:Int) (n:Nat) (hk:0≤k∧k≤100000000) (hn:n≤100000000):TC 57 [dT (jC k n),VI k] (VI (k+n)):=by
 refine TC.walk ⟨true,false⟩ Fb rfl (Nat.le_of_ble_eq_true rfl) (Db (dN _) rfl) rfl ?_
 simp only[Bk,yT,VX,Nat.reduceEqDiff,Nat.reduceAdd]
 refine aQ (fun(i:Nat) ρ H=>i≤n∧H=[]∧ρ 0=dT (jC k n)∧ρ 1=VI (k+i)∧ρ 5=VI i) (fun i=>n-i) 0 ⟨Nat.zero_le _,rfl,rfl,by simp only[VX,Nat.reduceEqDiff,Nat.reduceAdd];simp,rfl⟩ ?_
 rintro i ρ H ⟨hi,rfl,h0,h1,h5⟩
 have hlen:=qV k n
 by_cases cN:(i:Int)<(n:Int)
 ·have hx:=Us (k:=k) (n:=n) (i:=i) (by omega)
  have e1:=aK (f:=sV) (t := .op) (H:=[]) (size:=1) (k := .i64) hx rfl
  have e3:=Cv (k+i) (by omega)
  have w1:IntKind.i64.wrap (k+i+1)=k+((i+1:Nat):Int):=by rw[wrap64 (by omega) (by omega)];omega
  have wi:IntKind.i64.wrap ((i:Int)+1)=((i+1:Nat):Int):=wrapN (i+1) (by omega) (by omega)
  simp only[pU,h0,h1,h5,cN,hlen,e1,e3,w1,wi,aeM,VX,Nat.reduceEqDiff,Nat.reduceAdd]
  exact⟨i+1,by omega,by omega,by (repeat' apply And.intro)<;>first | rfl | trivial⟩
 ·have oJ:i=n:=by omega
  subst oJ
  simp only[pU,h0,h1,h5,cN,hlen,VX,Nat.reduceEqDiff,Nat.reduceAdd]
  exact aF rfl
theorem UP {lo hi kP:Nat} {bH:List ByteArray} {H:aA} {v:VV} {k:Int} {K:VV→aA→Prop} (hv:PA sV 1 bH lo hi H v) (eW:kP≤lo) (hk:0≤k∧k≤100000000) (hn:bH.length≤100000000)
  (hK:∀H',H'.length=H.length→PA sV 1 (jC k bH.length) lo hi H' v→(∀b g x,b<lo∨hi≤b→aI H b g=some x→aI H' b g=some x)→K (VI (k+bH.length)) H') :
  cQ 50 [v,VI k] kP H K:=by
 rcases hv with⟨rfl,rfl⟩ | ⟨b,g,c,h1,h2,rfl,h4,h5⟩
 ·refine fC rfl ((C9 k).mono ?_)
  rintro r H' ⟨rfl,rfl⟩
  have:=hK H' rfl (.inl ⟨rfl,rfl⟩) fun _ _ _ _ h=>h
  simpa using this
 ·refine fC rfl ((qW bH k h5 (Nat.le_refl _) (Nat.le_trans eW h1) hk hn).mono ?_)
  rintro r H' ⟨rfl,rfl⟩
  refine hK _ (by simp) (.inr ⟨b,g,c,h1,h2,by rw[qV],by rw[qV];exact h4,?_⟩) fun b' g' x pZ h=>cD (by omega) h
  rw[List.drop_length,List.append_nil]
  exact dM h5
theorem Nk {lo b:Nat} {xs:List ByteArray} {H:aA} {k:Int} {K:VV→aA→Prop} (h:aI H b 0=some ((fV lB xs).map sV,1,true)) (eW:lo≤b) (hk:0≤k∧k≤100000000) (hn:xs.length≤100000000)
  (hK:∀x,K (VI (k+xs.length)) (H.set b x)):cQ 50 [.ref b 0 0 xs.length (xs.length+room xs.length),VI k] lo H K:=by
 refine fC rfl ((qW (fV lB xs) k h (by rw[IH];omega) eW hk hn).mono ?_)
 rintro r H' ⟨rfl,rfl⟩
 exact hK _
end Go.PM
namespace Go.PM
section
variable {α:Type} {f:α→VV} {e:Nat}
structure Rd (f:α→VV) (e:Nat) (xs:List α) (H:aA) (v:VV):Prop where
 len:∀H',H <+: H'→pT v H'=some (VI xs.length)
 get:∀H',H <+: H'→∀(i:Nat) x,xs[i]? = some x→∃p,bM e v (VI i) H'=some p∧∀ag,cR ag e p H'=dQ ag e (f x) 0
 cell:aB v=[v]∧bI v=true∧isAny v=false
theorem Rd.pre {xs:List α} {H H':aA} {v:VV} (h:Rd f e xs H v) (hh:H <+: H'):Rd f e xs H' v:=⟨fun H2 h2=>h.len H2 (hh.trans h2),fun H2 h2=>h.get H2 (hh.trans h2),h.cell⟩
theorem Rd.tree {xs:List α} {H:aA} {t:TK} (hs:∀x,(aB (f x)).length=e):Rd f e xs H (.tree (xs.map f) t) :=
 ⟨fun _ _=>eX,fun _ _ i x hx=>⟨_,aK hx (hs x),fun ag=>OY⟩,rfl,rfl,rfl⟩
theorem Rd.row {xs:List α} {H:aA} {b g n c:Nat} {w:Bool} (h:aI H b g=some (xs.map f,e,w)) (hn:n=xs.length):Rd f e xs H (.ref b g 0 n c):=by
 subst hn
 refine⟨fun H' hh=>dU (bX hh h),fun H' hh i x hx => ?_,rfl,rfl,rfl⟩
 have hi:=(List.getElem?_eq_some_iff.1 hx).1
 have e1:=bD (o:=0) (n:=xs.length) (c:=c) (i:=i) (k := .i64) (bX hh h) hi
 rw[Nat.zero_add] at e1
 exact⟨_,e1,fun ag=>rL (f:=f) (bX hh h) hx⟩
structure MG (f:α→VV) (e lo hi b g:Nat) (H:aA) (rs:List (A9 α)):Prop where
 out:aI H b g=some (rs.map pK,1,true)
 blo:lo≤b
 bhi:b<hi
 rows:NZ f e lo hi b H rs
variable {lo hi b g:Nat} {H H':aA} {rs:List (A9 α)}
theorem MG.bU (h:MG f e lo hi b g H rs) (hk:cS lo hi H H'):MG f e lo hi b g H' rs :=
 ⟨hk _ _ _ h.blo h.bhi h.out,h.blo,h.bhi,h.rows.nd,fun r hr=>by
  obtain⟨k1,k2,k3,k4,k5⟩:=h.rows.row r hr
  exact⟨k1,k2,k3,k4,hk _ _ _ k1 k2 k5⟩⟩
theorem MG.pre (h:MG f e lo hi b g H rs) (hh:H <+: H'):MG f e lo hi b g H' rs:=h.bU (cS.pre hh)
theorem MG.len {n c:Nat} (h:MG f e lo hi b g H rs):pT (.ref b g 0 n c) H=some (VI n):=dU h.out
theorem MG.cell {i:Nat} {r:A9 α} (h:MG f e lo hi b g H rs) (hr:rs[i]? = some r):cR false 1 (.ptr b g i 0) H=some (.ref r.b r.g 0 r.xs.length r.c):=by
 rw[rL (f:=pK) h.out hr]
 rfl
theorem MG.row {i:Nat} {r:A9 α} (h:MG f e lo hi b g H rs) (hr:rs[i]? = some r):aI H r.b r.g=some (r.xs.map f,e,true):=(h.rows.row r (List.mem_of_getElem? hr)).2.2.2.2
theorem MG.at {i j n c:Nat} {r:A9 α} (h:MG f e lo hi b g H rs) (hr:rs[i]? = some r) (hj:j<n):bM e (.ref r.b r.g 0 n c) (VI j) H=some (.ptr r.b r.g j 0):=by
 have:=bD (o:=0) (n:=n) (c:=c) (i:=j) (k := .i64) (h.row hr) hj
 rwa [Nat.zero_add] at this
theorem MG.get {i j:Nat} {ag:Bool} {r:A9 α} {x:α} (h:MG f e lo hi b g H rs) (hr:rs[i]? = some r) (hx:r.xs[j]? = some x):cR ag e (.ptr r.b r.g j 0) H=dQ ag e (f x) 0:=rL (f:=f) (h.row hr) hx
theorem MG.inj {i j:Nat} {r s:A9 α} (h:MG f e lo hi b g H rs) (hr:rs[i]? = some r) (hs:rs[j]? = some s) (he:r.b=s.b):i=j:=by
 have h1:(rs.map (·.b))[i]? = some r.b:=by simp[hr]
 have h2:(rs.map (·.b))[j]? = some r.b:=by simp[hs,he]
 exact RI h.rows.nd h1 h2
theorem Mg {β γ:Type} {F:β→γ} {l:List β} {i:Nat} {x y:β} (hx:l[i]? = some x) (he:F y=F x):(l.set i y).map F=l.map F:=by
 apply List.ext_getElem?
 intro j
 rw[List.getElem?_map,List.getElem?_map,List.getElem?_set]
 split
 ·rename_i TI
  subst TI
  split
  ·rw[hx,Option.map_some,Option.map_some,he]
  ·rename_i hn
   rw[(List.getElem?_eq_none (by omega))] at hx
   cases hx
 ·rfl
theorem MG.set {i:Nat} {r:A9 α} {ys:List α} (h:MG f e lo hi b g H rs) (hr:rs[i]? = some r) (hl:ys.length=r.xs.length):MG f e lo hi b g (H.set r.b (.row r.g (ys.map f) e true)) (rs.set i { r with xs:=ys }):=by
 have UA:=h.rows.row r (List.mem_of_getElem? hr)
 refine⟨?_,h.blo,h.bhi,?_,fun s hs => ?_⟩
 ·rw[Mg hr (by simp[pK,hl])]
  exact cD UA.2.2.1 h.out
 ·rw[Mg (F:=fun r:A9 α=>r.b) (y:={ r with xs:=ys }) hr rfl]
  exact h.rows.nd
 ·obtain⟨j,hj⟩:=List.getElem?_of_mem hs
  rw[List.getElem?_set] at hj
  split at hj
  ·rename_i TI
   split at hj
   ·cases hj
    exact⟨UA.1,UA.2.1,UA.2.2.1,by rw[hl];exact UA.2.2.2.1,dM UA.2.2.2.2⟩
   ·cases hj
  ·rename_i TI
   have PU:=h.rows.row s (List.mem_of_getElem? hj)
   exact⟨PU.1,PU.2.1,PU.2.2.1,PU.2.2.2.1,cD (fun he=>TI (h.inj hr hj he)) PU.2.2.2.2⟩
theorem MG.put {i j kP:Nat} {r:A9 α} {y:α} (h:MG f e lo hi b g H rs) (hr:rs[i]? = some r) (hj:j<r.xs.length) (eW:kP≤lo) (hv:(aB (f y)).length=e) (hs:(aB (f y)).all bI=true) :
  bY kP e (.ptr r.b r.g j 0) (f y) H=some (H.set r.b (.row r.g ((r.xs.set j y).map f) e true)) :=
 fK (f:=f) (h.row hr) hj (Nat.le_trans eW (h.rows.row r (List.mem_of_getElem? hr)).1) hv hs
theorem MG.lt {i:Nat} {r:A9 α} (h:MG f e lo hi b g H rs) (hr:rs[i]? = some r):lo≤r.b∧r.b<hi∧r.b<H.length:=⟨(h.rows.row r (List.mem_of_getElem? hr)).1,(h.rows.row r (List.mem_of_getElem? hr)).2.1,lF (h.row hr)⟩
theorem MG.bH {c:Nat} (h:MG f e lo hi b g H rs) (hc:rs.length≤c):RG f e (rs.map (·.xs)) lo hi H (.ref b g 0 rs.length c) := .inr ⟨b,g,c,rs,h.blo,h.bhi,by rw[List.length_map],by rw[List.length_map];exact hc,h.out,rfl,h.rows⟩
theorem MG.fz {d c:Nat} (h:MG f e lo hi b g H rs) (hc:rs.length≤c) (hp:∀x,aR (f x)=true):PM.fz (d+3) H (.ref b g 0 rs.length c)=some (aY (aY f) (rs.map (·.xs))):=Vv hp h.out hc h.rows
theorem MG.wide {kP pL:Nat} (h:MG f e lo hi b g H rs) (hl:kP≤lo) (hh:hi≤pL):MG f e kP pL b g H rs:=⟨h.out,by have:=h.blo;omega,by have:=h.bhi;omega,h.rows.nd,fun r hr=>by
 obtain⟨k1,k2,k3,k4,k5⟩:=h.rows.row r hr
 exact⟨by omega,by omega,k3,k4,k5⟩⟩
end
theorem iC:type_of% (And.intro @tS<|And.intro @xJ<|And.intro @oC.eq_1<|And.intro @qN.eq_1<|And.intro @qN.eq_2<|And.intro @EL.eq_1<|And.intro @EL.eq_2<|And.intro @zJ.eq_1<|And.intro @zJ.eq_2<|And.intro @Gx<|And.intro @BD<|And.intro @D5<|And.intro @Ei<|And.intro @List.take_zero.{0}<|And.intro @List.take_succ_cons.{0}<|And.intro @List.take_nil.{0}<|And.intro @List.drop_zero.{0}<|And.intro @List.drop_succ_cons.{0}<|And.intro @List.drop_nil.{0}<|And.intro @List.append_nil.{0} <| @Nat.le_refl):=And.intro @tS<|And.intro @xJ<|And.intro @oC.eq_1<|And.intro @qN.eq_1<|And.intro @qN.eq_2<|And.intro @EL.eq_1<|And.intro @EL.eq_2<|And.intro @zJ.eq_1<|And.intro @zJ.eq_2<|And.intro @Gx<|And.intro @BD<|And.intro @D5<|And.intro @Ei<|And.intro @List.take_zero.{0}<|And.intro @List.take_succ_cons.{0}<|And.intro @List.take_nil.{0}<|And.intro @List.drop_zero.{0}<|And.intro @List.drop_succ_cons.{0}<|And.intro @List.drop_nil.{0}<|And.intro @List.append_nil.{0} <| @Nat.le_refl
def Sg (P:Nat→Nat→aA→VV→Prop) (H:aA) (r:VV) (H':aA):Prop:=H <+: H'∧P H.length H'.length H' r
theorem xK {F lo:Nat} {args:List VV} {P:Nat→Nat→aA→VV→Prop} {H:aA} {K:VV→aA→Prop} (tM:BE.contains F=true) (h:jO F args lo H (Sg P H)) (hk:∀r L,P H.length (H++L).length (H++L) r→K r (H++L)):cQ F args lo H K:=by
 refine fC tM (h.mono ?_)
 rintro r H' ⟨⟨L,rfl⟩,hP⟩
 exact hk r L hP
end Go.PM
namespace Go.PM
open Go.Lib
abbrev cell0:cA := .row 0 [.agg [VB false,.tree [] .nil,.tree [] .nil]] 3 true
def tI (qs:List Rat):Rat:=qs.foldl (· + ·) 0
theorem M8 {qs:List Rat} {i:Nat} {q:Rat} (h:qs[i]? = some q):tI (qs.take (i+1))=tI (qs.take i)+q:=by
 rw[lO h,tI,List.foldl_append];rfl
theorem Ov {B:Nat}:∀ {qs:List Rat},(∀q∈qs,dL q≤B)→∀a:Rat,dL (qs.foldl (· + ·) a)≤qs.length*(B+1)+dL a
 | [],_,a=>by simp
 |
  q::qs,h,a=>by
  have h1:=Ov (fun x hx=>h x (List.mem_cons_of_mem _ hx)) (a+q)
  have h2:=XB a q
  have h3:=h q List.mem_cons_self
  rw[List.foldl_cons,List.length_cons,Nat.succ_mul]
  omega
theorem B8 {B:Nat} {qs:List Rat} (h:∀q∈qs,dL q≤B) (i:Nat):dL (tI (qs.take i))≤qs.length*(B+1)+1:=by
 have h1:=Ov (qs:=qs.take i) (fun q hq=>h q (List.mem_of_mem_take hq)) 0
 have h2:(qs.take i).length*(B+1)≤qs.length*(B+1):=Nat.mul_le_mul_right _ (by rw[List.length_take];omega)
 rw[Ly] at h1
 unfold tI
 omega
set_option maxHeartbeats 1000000 in
abbrev rz:VV := .agg [VB false,.tree [] .nil,.tree [] .nil]
theorem Ba {H H1:aA} {b:Nat} {x:cA} (h:H <+: H1) (hb:H.length≤b):H <+: H1.set b x:=by
 obtain⟨L,rfl⟩:=h
 rw[List.set_append_right _ _ hb]
 exact List.prefix_append _ _
theorem QN {H H1 L:aA} (h:H <+: H1):H <+: H1++L:=h.trans (List.prefix_append _ _)
theorem Kq {lo:Nat} {H:aA} {q:Rat} (h:lo≤H.length):bY lo 3 (.ptr H.length 0 0 0) (bE q) (H++[cell0])=some (H++[.row 0 [bE q] 3 true]):=by
 rw[cJ (g:=0) (e:=3) (j:=0) gH (by exact Nat.zero_lt_one) h rfl rfl,AP]
 rfl
theorem Ux {H K:aA} {q:Rat}:cR true 3 (.ptr H.length 0 0 0) (H ++ .row 0 [bE q] 3 true::K)=some (bE q):=by
 rw[cO,B9,bA]
 exact fD _
theorem Ug {lo:Nat} {H:aA} {v:VV} (qs:List Rat) {B:Nat} (hv:Rd bE 3 qs H v) (eW:lo≤H.length) (hb:∀q∈qs,dL q≤B) (hk:qs.length*(B+1)+1≤1099511627776) (hB:B≤1099511627776) (hn:qs.length≤1000000000) :
  jO 148 [v] lo H (Sg (fun _ _ _ r=>r=bE (tI qs)) H):=by
 refine jO.walk ⟨true,false⟩ TA (Nat.le_of_ble_eq_true rfl) ?_
 have e1:TC 97 [VI 0] (bE 0):=BT 0 (by decide) (by decide)
 have e2:=hv.len (H++[cell0,.row 0 [bE 0] 3 true]) (List.prefix_append _ _)
 have s0:bY lo 3 (.ptr (H.length+1) 0 0 0) (bE 0) (H++[cell0,cell0])=some (H++[cell0,.row 0 [bE 0] 3 true]):=by
  have:=Kq (lo:=lo) (H:=H++[cell0]) (q:=0) (by rw[List.length_append];omega)
  simpa only[List.length_append,List.length_cons,List.length_nil,Nat.zero_add,List.append_assoc,List.cons_append,List.nil_append] using this
 simp only[QR,KD,e1,e2,s0,List.length_append,List.length_cons,List.length_nil,List.append_assoc,List.cons_append,List.nil_append,iC,VX,Nat.reduceEqDiff,Nat.reduceAdd,Nat.reduceLeDiff,Nat.reduceLT,Nat.reduceSub]
 refine aQ (fun(i:Nat) ρ H1=>i≤qs.length∧H <+: H1∧aI H1 H.length 0=some ([rz],3,true)∧aI H1 (H.length+1) 0=some ([bE (tI (qs.take i))],3,true)∧ρ 2 = .ptr H.length 0 0 0∧ρ 3 = .ptr (H.length+1) 0 0 0∧ρ 7=v∧ρ 8=VI qs.length∧ρ 9=VI i) (fun i=>qs.length-i) 0 ⟨Nat.zero_le _,List.prefix_append _ _,B9.trans bA,PB.trans (tQ.trans bA),rfl,rfl,rfl,rfl,rfl⟩ ?_
 rintro i ρ H1 ⟨hi,hp,CB,IQ,g2,g3,g7,g8,g9⟩
 have DF:=lF IQ
 by_cases cN:(i:Int)<(qs.length:Int)
 ·obtain⟨q,hq⟩:∃q,qs[i]? = some q:=⟨_,List.getElem?_eq_getElem (by omega)⟩
  obtain⟨p,a1,a2⟩:=hv.get H1 hp i q hq
  have a2':=(a2 true).trans (fD _)
  have wi:IntKind.i64.wrap ((i:Int)+1)=((i+1:Nat):Int):=wrapN (i+1) (by omega) (by omega)
  have h1:=B8 hb i
  have h2:=hb q (List.mem_of_getElem? hq)
  have h3:(i+1)*(B+1)≤qs.length*(B+1):=Nat.mul_le_mul_right _ (by omega)
  have e3:=L7 (tI (qs.take i)) q (by omega) (by omega)
  rw[←M8 hq] at e3
  have s1:=Kq (lo:=lo) (H:=H1) (q:=q) (by omega)
  have s2:=Ux (H:=H1) (K:=[]) (q:=q)
  have s3:cR true 3 (.ptr (H.length+1) 0 0 0) (H1++[.row 0 [bE q] 3 true])=some (bE (tI (qs.take i))):=by
   rw[cO,iA IQ]
   exact fD _
  have s4:=cJ (lo:=lo) (v:=bE (tI (qs.take (i+1)))) (j:=0) (iA (L:=[.row 0 [bE q] 3 true]) IQ) (by exact Nat.zero_lt_one) (by omega) rfl rfl
  rw[List.set_cons_zero] at s4
  simp only[Dd,g2,g3,g7,g8,g9,cN,a1,a2',e3,s1,s2,s3,s4,wi,fD,iC,VX,Nat.reduceEqDiff,Nat.reduceAdd,Nat.reduceLeDiff,Nat.reduceLT,Nat.reduceSub]
  exact⟨i+1,by omega,by omega,Ba (QN hp) (by omega),cD (by omega) (iA CB),dM (iA IQ),by (repeat' apply And.intro)<;>first | rfl | trivial | assumption⟩
 ·have oJ:i=qs.length:=by omega
  subst oJ
  rw[List.take_length] at IQ
  have s3:cR true 3 (.ptr (H.length+1) 0 0 0) H1=some (bE (tI qs)):=by
   rw[cO,IQ]
   exact fD _
  have s4:=cJ (lo:=lo) (v:=bE (tI qs)) (j:=0) CB (by exact Nat.zero_lt_one) eW rfl rfl
  rw[List.set_cons_zero] at s4
  have s5:cR true 3 (.ptr H.length 0 0 0) (H1.set H.length (.row 0 [bE (tI qs)] 3 true))=some (bE (tI qs)):=by
   rw[cO,dM CB]
   exact fD _
  simp only[Dd,g2,g3,g8,g9,cN,s3,s4,s5,iC,VX,Nat.reduceEqDiff,Nat.reduceAdd,Nat.reduceLeDiff,Nat.reduceLT,Nat.reduceSub]
  exact⟨Ba hp (Nat.le_refl _),rfl⟩
theorem Nw {q:Rat}:kR q<0↔q<0:=by
 have e:q.num<0↔q<0:=by rw[←Int.not_le,Rat.num_nonneg];constructor<;>intro h<;>grind
 rw[←e]
 rcases Int.lt_trichotomy q.num 0 with h | h | h
 ·rw[nX h];omega
 ·rw[lD h];omega
 ·rw[oD h];omega
theorem NK {q:Rat}:0<kR q↔0<q:=by
 have e:0<q.num↔0<q:=by
  constructor
  ·intro h
   have h1:0≤q:=Rat.num_nonneg.1 (by omega)
   have h2:q≠0:=fun h'=>by rw[h'] at h;exact absurd h (by decide)
   grind
  ·intro h
   have h1:0≤q.num:=Rat.num_nonneg.2 (by grind)
   have h2:q.num≠0:=fun h'=>by rw[Rat.num_eq_zero] at h';rw[h'] at h;exact absurd h (by decide)
   omega
 rw[←e]
 rcases Int.lt_trichotomy q.num 0 with h | h | h
 ·rw[nX h];omega
 ·rw[lD h];omega
 ·rw[oD h];omega
theorem Le (q:Rat):TC 147 [bE q] (VB (decide (q<0))):=by
 refine TC.walk ⟨true,false⟩ Lp rfl (Nat.le_of_ble_eq_true rfl) (by simp[aM,gS]) rfl ?_
 have e1:=kJ q
 by_cases h:kR q<0
 ·rw[decide_eq_true (Nw.1 h)]
  simp only[Ce,yR,e1,h,aH,cW,fD,aS,aT,aO,kC,Nat.reduceLeDiff,Nat.reduceLT,Nat.reduceSub,uX,dX,fP,lP,rI,tX,bne_iff_ne,ne_eq,not_false_eq_true,not_true_eq_false,VX,Nat.reduceEqDiff,Nat.reduceAdd]
  exact aF rfl
 ·rw[decide_eq_false (mt Nw.2 h)]
  simp only[Ce,yR,e1,h,aH,cW,fD,aS,aT,aO,kC,Nat.reduceLeDiff,Nat.reduceLT,Nat.reduceSub,uX,dX,fP,lP,rI,tX,bne_iff_ne,ne_eq,not_false_eq_true,not_true_eq_false,VX,Nat.reduceEqDiff,Nat.reduceAdd]
  exact aF rfl
theorem B4 (xs:List Rat) (g:Nat) (p:Rat→Bool) (hg:∀x∈xs,TC g [bE x] (VB (p x))) (hn:xs.length≤1000000000) :
  ∃k:Int,(0≤k↔xs.any p=true)∧TC 205 [aY bE xs,.uO g []] (VI k):=by
 refine⟨match xs.findIdx? p with | some i=>i | none => -1,?_,?_⟩
 ·cases h:xs.findIdx? p with
  |
   none =>
   rw[List.findIdx?_eq_none_iff] at h
   simp only[List.any_eq_true]
   constructor
   ·intro h';omega
   ·rintro⟨x,hx,hp⟩;rw[h x hx] at hp;cases hp
  |
   some i =>
   simp only[List.any_eq_true]
   obtain⟨hi,hp,_⟩:=List.findIdx?_eq_some_iff_getElem.1 h
   exact⟨fun _=>⟨_,List.getElem_mem hi,hp⟩,fun _=>by omega⟩
 ·refine TC.walk ⟨true,false⟩ oH rfl (Nat.le_of_ble_eq_true rfl) (by simp[aM,kZ];rfl) rfl ?_
  simp only[iO,gW,VX,Nat.reduceEqDiff,Nat.reduceAdd]
  refine aQ (fun(i:Nat) ρ H=>i≤xs.length∧H=[]∧(∀j x,j<i→xs[j]? = some x→p x=false)∧ρ 0=aY bE xs∧ρ 1 = .uO g []∧ρ 7=VI xs.length∧ρ 8=VI i) (fun i=>xs.length-i) 0 ⟨Nat.zero_le _,rfl,fun j x h=>by omega,rfl,rfl,rfl,rfl⟩ ?_
  rintro i ρ H ⟨hi,rfl,lM,h0,h1,h7,h8⟩
  by_cases cN:(i:Int)<(xs.length:Int)
  ·obtain⟨x,hx⟩:∃x,xs[i]? = some x:=⟨_,List.getElem?_eq_getElem (by omega)⟩
   have e1:=aK (f:=bE) (t := .op) (H:=[]) (size:=3) (k := .i64) hx rfl
   have wi:IntKind.i64.wrap ((i:Int)+1)=((i+1:Nat):Int):=wrapN (i+1) (by omega) (by omega)
   have e2:=hg x (List.mem_of_getElem? hx)
   cases hp:p x with
   |
    false =>
    rw[hp] at e2
    simp only[cK,h0,h1,h7,h8,cN,e1,e2,wi,BP,List.append_nil,aH,cW,fD,aS,aT,aO,VX,Nat.reduceEqDiff,Nat.reduceAdd]
    refine⟨i+1,by omega,by omega,fun j y hj hy => ?_,by (repeat' apply And.intro)<;>first | rfl | trivial⟩
    rcases Nat.lt_or_ge j i with Ke | Ke
    ·exact lM j y Ke hy
    ·have:j=i:=by omega
     subst this
     rw[hx] at hy
     injection hy with hy
     exact hy▸hp
   |
    true =>
    rw[hp] at e2
    simp only[cK,h0,h1,h7,h8,cN,e1,e2,wi,BP,List.append_nil,aH,cW,fD,aS,aT,aO,VX,Nat.reduceEqDiff,Nat.reduceAdd]
    have:xs.findIdx? p=some i:=by
     rw[List.findIdx?_eq_some_iff_getElem]
     obtain⟨bB,CE⟩:=List.getElem?_eq_some_iff.1 hx
     exact⟨bB,by rw[CE];exact hp,fun j hj=>by
      have:=lM j _ hj (List.getElem?_eq_getElem (by omega))
      simp[this]⟩
    rw[this]
    exact aF rfl
  ·simp only[cK,h0,h1,h7,h8,cN,VX,Nat.reduceEqDiff,Nat.reduceAdd]
   have:xs.findIdx? p=none:=by
    rw[List.findIdx?_eq_none_iff]
    intro x hx
    obtain⟨j,hj⟩:=List.getElem?_of_mem hx
    exact lM j x (by have:=(List.getElem?_eq_some_iff.1 hj).1;omega) hj
   rw[this]
   exact aF rfl
theorem zL (xs:List Rat) (g:Nat) (p:Rat→Bool) (hg:∀x∈xs,TC g [bE x] (VB (p x))) (hn:xs.length≤1000000000):TC 146 [aY bE xs,.uO g []] (VB (xs.any p)):=by
 refine TC.walk ⟨true,false⟩ mI rfl (Nat.le_of_ble_eq_true rfl) (by simp[aM,kZ];rfl) rfl ?_
 obtain⟨k,hk,hc⟩:=B4 xs g p hg hn
 have e:decide (0≤k)=xs.any p:=by
  cases h:xs.any p with
  | true=>rw[decide_eq_true (hk.2 h)]
  | false=>rw[decide_eq_false fun h'=>by rw[hk.1 h'] at h;cases h]
 simp only[gN,gD,hc,e,VX,Nat.reduceEqDiff,Nat.reduceAdd]
 exact aF rfl
def iL (qs:List Rat):Bool := !(qs.any fun q=>decide (q<0))&&decide (tI qs=1)
def pW (xs:List ByteArray):Option (List Rat):=match nE xs with
 | some qs=>if iL qs=true then some qs else none
 | none=>none
theorem E6 {xs:List ByteArray} {qs:List Rat} (h:pW xs=some qs):nE xs=some qs∧iL qs=true:=by
 unfold pW at h
 split at h
 ·rename_i ps hp
  split at h
  ·rename_i hw
   cases h
   exact⟨hp,hw⟩
  ·cases h
 ·cases h
theorem Ld {n:Nat} (h:n≤300):n*(665+1)+1≤1099511627776:=by omega
theorem zY {xs:List ByteArray} {qs:List Rat} (h:nE xs=some qs):pW xs=if iL qs=true then some qs else none:=by unfold pW;rw[h]
theorem IZ {xs:List ByteArray} (h:nE xs=none):pW xs=none:=by unfold pW;rw[h]
theorem rD:L4 none = .dS [aY bE [],VB false]:=rfl
theorem yV (qs:List Rat):L4 (some qs) = .dS [aY bE qs,VB true]:=rfl
set_option maxHeartbeats 1000000 in
theorem IC (xs:List ByteArray) (hn:xs.length≤1000000000) (hs:∀s∈xs,s.size≤1000000000):TC 114 [dT xs] (L4 (pW xs)):=by
 refine TC.walk ⟨true,false⟩ Ip rfl (Nat.le_of_ble_eq_true rfl) (by simp[aM,dN]) (Hy _) ?_
 have e1:=R3 xs hn hs
 cases h:nE xs with
 |
  none =>
  rw[h,rD] at e1
  rw[IZ h,rD]
  simp only[oP,lW,e1,VX,Nat.reduceEqDiff,Nat.reduceAdd]
  exact BZ
 |
  some qs =>
  rw[h,yV] at e1
  rw[zY h]
  obtain⟨hb,hl,_⟩:=yG h
  have e2:=zL qs 147 (fun q=>decide (q<0)) (fun q _=>Le q) (by omega)
  have hm:qs.length*666≤199800:=by omega
  have e3:=fun(K:aA)=>Ug (lo:=0) (H:=K) (v:=aY bE qs) qs (B:=665) (Rd.tree HD) (Nat.zero_le _) hb (Ld hl) (by decide) (by omega)
  have hsb:=B8 hb qs.length
  rw[List.take_length] at hsb
  have e4:=It (tI qs) (by omega)
  cases JV:qs.any (fun q=>decide (q<0)) with
  |
   true =>
   rw[JV] at e2
   have hw:¬iL qs=true:=by unfold iL;rw[JV];simp
   rw[if_neg hw,rD]
   simp only[oP,lW,e1,e2,VX,Nat.reduceEqDiff,Nat.reduceAdd]
   exact BZ
  |
   false =>
   rw[JV] at e2
   by_cases Xi:tI qs=1
   ·rw[decide_eq_true Xi] at e4
    have hw:iL qs=true:=by unfold iL;rw[JV,decide_eq_true Xi];rfl
    rw[if_pos hw,yV]
    simp only[oP,lW,e1,e2,VX,Nat.reduceEqDiff,Nat.reduceAdd]
    refine xK rfl (e3 _) fun r L hr => ?_
    subst hr
    simp only[e4,VX,Nat.reduceEqDiff,Nat.reduceAdd]
    exact aF (tY (kZ _) rfl)
   ·rw[decide_eq_false Xi] at e4
    have hw:¬iL qs=true:=by unfold iL;rw[JV,decide_eq_false Xi];simp
    rw[if_neg hw,rD]
    simp only[oP,lW,e1,e2,VX,Nat.reduceEqDiff,Nat.reduceAdd]
    refine xK rfl (e3 _) fun r L hr => ?_
    subst hr
    simp only[e4,VX,Nat.reduceEqDiff,Nat.reduceAdd]
    exact BZ
end Go.PM
namespace Go.PM
open Go.Lib
end Go.PM
namespace Go.PM
def AJ:aD:=(LS [LO 10 (.bin .lss (LT 9) (LT 8))] (.seq (.cond (LT 10) .skip (.exit 0)) (.seq (.block 1 (LS [LM 11 9,LM 4 11] (.dI [LM 12 3,LM 13 4,LO 14 (.call 97 [(LI 0)]),LO 15 (.lit [(.bool false),(.slice none 0 0),(.slice none 0 0)] 1 [(0,(LT 14))]),LM 16 0,LO 17 (.call 202 [(LT 15),(LT 16)]),LO 18 (.iaddr 1 (LT 12) (LT 13)),LN (.store 1 (LT 18) (LT 17))]))) (.dI [LO 19 (.bin .add (LT 9) (LI 1)),LM 9 19]))))
def Gl:aD:=(LS [LO 2 (.mv (.const (.slice none 0 0)))] (LS [LM 5 0,LO 6 (.make [(.slice none 0 0)] 24 (LT 5) (LT 5)),LM 3 6] (.seq (LS [LM 7 3,LO 8 (.len (LT 7)),LO 9 (.mv (LI 0))] (.block 0 (.loop AJ))) (LS [LM 20 3,LM 2 20] .ret))))
def Ky:aP:=⟨21,[(.tmp 2)],Gl⟩
theorem OQ:gB 128=some Ky:=by kernel_rfl
def rV:aD:=(LS [LO 13 (.bin .lss (LT 12) (LT 11))] (.seq (.cond (LT 13) .skip (.exit 0)) (.seq (.block 1 (LS [LO 14 (.iaddr 1 (LT 10) (LT 12)),LO 15 (LL 14),LM 6 15] (LS [LM 17 6,LO 18 (.call 111 [(LT 17)]),LM 16 18,LO 19 (LX 16 0),LO 20 (LX 16 1),LM 7 19,LM 8 20] (.seq (LS [LM 21 8,LO 22 (.un .not (LT 21))] (.cond (LT 22) (LS [LO 23 (.build [(.slice none 0 0)] [(0,1)] []),LN (.store 1 (LT 2) (LT 23)),LO 3 (.mv LF)] .ret) .skip)) (.dI [LO 24 (LA 0 4),LO 25 (LL 24),LM 26 7,LO 27 (.lit [(.slice none 0 0)] 1 [(0,(LT 26))]),LO 28 (.app 1 24 (LT 25) (LT 27)),LO 29 (LA 0 4),LN (.store 1 (LT 29) (LT 28))]))))) (.dI [LO 30 (.bin .add (LT 12) (LI 1)),LM 12 30]))))
def A8:aD:=(LS [LO 2 (.new [(.slice none 0 0)]),LO 3 (.mv LF)] (LS [LO 9 (.build [(.slice none 0 0)] [(0,1)] []),LO 4 (.new [(.slice none 0 0)]),LN (.store 1 (LT 4) (LT 9))] (.seq (LS [LM 10 0,LO 11 (.len (LT 10)),LO 12 (.mv (LI 0))] (.block 0 (.loop rV))) (LS [LO 31 (.load true 1 (LT 4)),LN (.store 1 (LT 2) (LT 31)),LO 3 (.mv LG)] .ret))))
def DJ:aP:=⟨32,[(.cell 2 true 1),(.tmp 3)],A8⟩
theorem HX:gB 149=some DJ:=by kernel_rfl
end Go.PM
namespace Go.PM
open Go.Lib
theorem Wf (x:List Rat):(aB (aY bE x)).length=1:=rfl
theorem abH (m:List (List Rat)):aR (aY (aY bE) m)=true:=kI Wf kZ
end Go.PM
namespace Go.PM
theorem Pj (n:Nat) (h:n<18446744073709551616):dB .and (.int .u64 (n:Int)) (.int .u64 4294967295)=some (.int .u64 ((n % 4294967296:Nat):Int)):=by
 simp only[dB,if_true]
 have h1:(BitVec.ofInt IntKind.u64.bits (n:Int) &&& BitVec.ofInt IntKind.u64.bits 4294967295).toNat=n % 4294967296:=by
  rw[BitVec.toNat_and]
  have e1:(BitVec.ofInt IntKind.u64.bits (n:Int)).toNat=n:=by
   rw[BitVec.toNat_ofInt]
   simp only[IntKind.bits]
   omega
  have e2:(BitVec.ofInt IntKind.u64.bits 4294967295).toNat=2^32-1:=by
   rw[BitVec.toNat_ofInt]
   simp only[IntKind.bits]
   omega
  rw[e1,e2,Nat.and_two_pow_sub_one_eq_mod]
 rw[h1,dW _ (by omega)]
end Go.PM
namespace Go.PM
def Mt (cs:List jU) (i:Nat):Int:=((cs[i]?).map (·.t)).getD 0
def XQ (cs:List jU) (i:Nat):Int:=((cs[i]?).map (·.w)).getD 0
def klC (cs:List jU) (i:Nat):Int:=((cs[i]?).map (·.k)).getD 0
def HM (st:List Int) (i:Nat):Int:=(st[i]?).getD 0
theorem Tz {cs:List jU} {i:Nat} {x:jU} (h:cs[i]? = some x):Mt cs i=x.t:=by simp[Mt,h]
theorem aiM {cs:List jU} {i:Nat} {x:jU} (h:cs[i]? = some x):XQ cs i=x.w:=by simp[XQ,h]
theorem Ze {st:List Int} {i:Nat} {x:Int} (h:st[i]? = some x):HM st i=x:=by simp[HM,h]
def inS (cs:List jU) (st:List Int) (t:Int) (i:Nat):Bool:=decide (0≤HM st i)&&decide (HM st i≤t)&&decide (t<HM st i+XQ cs i)
def bz (cs:List jU) (st:List Int) (t:Int):Nat:=(List.range cs.length).countP (inS cs st t)
def isW (cs:List jU) (st:List Int) (t:Int) (i:Nat):Bool:=decide (HM st i<0)&&decide (Mt cs i≤t)
def wt (cs:List jU) (st:List Int) (t:Int):List Nat:=(List.range cs.length).filter (isW cs st t)
def JI (cE:Int) (cs:List jU) (i k:Nat):Bool :=
 if cE=1 then true else if cE=2 then decide (XQ cs i<XQ cs k) else if cE=3 then decide (klC cs i<klC cs k) else false
def Ag (cE:Int) (cs:List jU) (b:Option Nat) (i:Nat):Option Nat:=match b with
 | none=>some i
 | some k=>if JI cE cs i k then some i else some k
def nxt (cE:Int) (cs:List jU) (st:List Int) (t:Int):Option Nat:=(wt cs st t).foldl (Ag cE cs) none
def fill (cE sI:Int) (cs:List jU) (t:Int):Nat→List Int→List Int
 | 0,st=>st
 |
  n+1,st=>if (bz cs st t:Int)<sI then (match nxt cE cs st t with
  | none=>st
  | some k=>fill cE sI cs t n (st.set k t)) else st
def full (cE sI:Int) (cs:List jU) (st:List Int) (t:Int):Prop:=sI≤(bz cs st t:Int)∨nxt cE cs st t=none
def runT (cE sI:Int) (cs:List jU):Int→Nat→List Int→List Int
 | _,0,st=>st
 | t,n+1,st=>runT cE sI cs (t+1) n (fill cE sI cs t cs.length st)
def stL (cE sI:Int) (cs:List jU):List Int:=runT cE sI cs 0 100000 (List.replicate cs.length (-1))
section
variable {cE sI:Int} {cs:List jU} {st:List Int} {t:Int}
theorem wX (h:full cE sI cs st t) (n:Nat):fill cE sI cs t n st=st:=by
 cases n with
 | zero=>rfl
 |
  succ n =>
  rw[fill]
  rcases h with h | h
  ·rw[if_neg (by omega)]
  ·split
   ·rw[h]
   ·rfl
theorem Na (m:Nat):∀(t:Int) (n:Nat),(∀u,t≤u→u<t+m→full cE sI cs st u)→m≤n→runT cE sI cs t n st=runT cE sI cs (t+m) (n-m) st:=by
 induction m with
 | zero=>intro t n _ _;simp
 |
  succ m ih =>
  intro t n h hm
  obtain⟨n,rfl⟩:∃k,n=k+1:=⟨n-1,by omega⟩
  rw[runT,wX (h t (Int.le_refl _) (by omega)),ih (t+1) n (fun u h1 h2=>h u (by omega) (by omega)) (by omega)]
  congr 1
  ·omega
  ·omega
theorem WZ (n:Nat):∀(t:Int),(∀u,t≤u→full cE sI cs st u)→runT cE sI cs t n st=st:=by
 intro t h
 rw[Na n t n (fun u h1 _=>h u h1) (Nat.le_refl _),Nat.sub_self]
 rfl
theorem UL {a b:Int} (ha:0≤a) (Ic:a≤b) (hb:b≤100000) (h:∀u,a≤u→u<b→full cE sI cs st u):runT cE sI cs a (100000-a).toNat st=runT cE sI cs b (100000-b).toNat st:=by
 rw[Na (b-a).toNat a _ (fun u h1 h2=>h u h1 (by omega)) (by omega)]
 congr 1
 ·omega
 ·omega
theorem ZJ {a:Int} (ha:0≤a) (hb:a<100000):runT cE sI cs a (100000-a).toNat st=runT cE sI cs (a+1) (100000-(a+1)).toNat (fill cE sI cs a cs.length st):=by
 rw[show (100000-a).toNat=(100000-(a+1)).toNat+1 by omega,runT]
theorem N6 {ws:List Nat} {k:Nat}:∃j,(ws.foldl (Ag cE cs) (some k))=some j∧(j=k∨j∈ws):=by
 induction ws generalizing k with
 | nil=>exact⟨k,rfl,.inl rfl⟩
 |
  cons i ws ih =>
  rw[List.foldl_cons]
  have:∃q,Ag cE cs (some k) i=some q∧(q=k∨q=i):=by
   unfold Ag
   simp only
   split
   ·exact⟨i,rfl,.inr rfl⟩
   ·exact⟨k,rfl,.inl rfl⟩
  obtain⟨q,hq,hqq⟩:=this
  rw[hq]
  obtain⟨j,h1,h2⟩:=ih (k:=q)
  refine⟨j,h1,?_⟩
  rcases h2 with rfl | h2
  ·rcases hqq with rfl | rfl
   ·exact .inl rfl
   ·exact .inr List.mem_cons_self
  ·exact .inr (List.mem_cons_of_mem _ h2)
theorem xS:nxt cE cs st t=none↔wt cs st t=[]:=by
 unfold nxt
 cases h:wt cs st t with
 | nil=>exact⟨fun _=>rfl,fun _=>rfl⟩
 |
  cons i ws =>
  refine⟨fun h2 => ?_,fun h2=>(by cases h2)⟩
  rw[List.foldl_cons] at h2
  obtain⟨j,h3,_⟩:=N6 (cE:=cE) (cs:=cs) (ws:=ws) (k:=i)
  rw[show Ag cE cs none i=some i from rfl,h3] at h2
  cases h2
theorem Pq {k:Nat} (h:nxt cE cs st t=some k):k∈wt cs st t:=by
 unfold nxt at h
 cases hw:wt cs st t with
 | nil=>rw[hw] at h;cases h
 |
  cons i ws =>
  rw[hw,List.foldl_cons] at h
  obtain⟨j,h3,h4⟩:=N6 (cE:=cE) (cs:=cs) (ws:=ws) (k:=i)
  rw[show Ag cE cs none i=some i from rfl,h3] at h
  injection h with h
  subst h
  rcases h4 with rfl | h4
  ·exact List.mem_cons_self
  ·exact List.mem_cons_of_mem _ h4
theorem Kv {k:Nat}:k∈wt cs st t↔k<cs.length∧HM st k<0∧Mt cs k≤t:=by
 simp[wt,isW]
theorem abI:(wt cs st t).Nodup:=List.Pairwise.filter _ List.nodup_range
theorem FU {k i:Nat} (hk:k<st.length):HM (st.set k t) i=if i=k then t else HM st i:=by
 unfold HM
 rw[List.getElem?_set]
 by_cases h:i=k
 ·subst h
  simp[hk]
 ·rw[if_neg (fun h'=>h h'.symm),if_neg h]
theorem OW {p q:Nat→Bool} {k:Nat} (hp:p k=false) (h:∀i,i≠k→q i=p i):∀n,(List.range n).countP q=(List.range n).countP p+if k<n∧q k=true then 1 else 0:=by
 intro n
 induction n with
 | zero=>simp
 |
  succ n ih =>
  rw[List.range_succ,List.countP_append,List.countP_append,ih]
  by_cases hk:n=k
  ·subst hk
   simp only[List.countP_singleton,hp]
   cases hq:q n<;>simp
  ·rw[List.countP_singleton,List.countP_singleton,h n hk]
   have:(k<n+1∧q k=true)↔(k<n∧q k=true):=by
    constructor
    ·rintro⟨h1,h2⟩;exact⟨by omega,h2⟩
    ·rintro⟨h1,h2⟩;exact⟨by omega,h2⟩
   simp only[this]
   omega
theorem aiD {k:Nat} {u:Int} (hk:k<cs.length) (hl:st.length=cs.length) (hs:HM st k<0) (h0:0≤t):bz cs (st.set k t) u=bz cs st u+if t≤u∧u<t+XQ cs k then 1 else 0:=by
 unfold bz
 rw[OW (p:=inS cs st u) (q:=inS cs (st.set k t) u) (k:=k)]
 ·congr 1
  have:(k<cs.length∧inS cs (st.set k t) u k=true)↔(t≤u∧u<t+XQ cs k):=by
   simp only[inS,FU (t:=t) (i:=k) (by omega:k<st.length),if_true,Bool.and_eq_true,decide_eq_true_eq]
   constructor
   ·rintro⟨_,⟨_,h1⟩,h2⟩;exact⟨h1,h2⟩
   ·rintro⟨h1,h2⟩;exact⟨hk,⟨h0,h1⟩,h2⟩
  simp only[this]
 ·simp only[inS]
  rw[decide_eq_false (by omega)]
  rfl
 ·intro i hi
  simp only[inS,FU (t:=t) (i:=i) (by omega:k<st.length),if_neg hi]
theorem ajY {k:Nat} {u:Int} (hl:st.length=cs.length) (hk:k<cs.length) (h0:0≤t):wt cs (st.set k t) u=(wt cs st u).filter (· != k):=by
 unfold wt
 rw[List.filter_filter]
 refine List.filter_congr fun i hi => ?_
 simp only[isW,FU (t:=t) (i:=i) (by omega:k<st.length)]
 by_cases h:i=k
 ·subst h
  simp
  omega
 ·simp[h]
def FL (st:List Int):Nat:=st.countP (fun s=>decide (s<0))
theorem Bi {k:Nat} (hk:k<st.length) (hs:HM st k<0) (h0:0≤t):FL (st.set k t)+1=FL st:=by
 unfold FL
 rw[List.countP_set hk]
 have hx:st[k]=HM st k:=by
  rw[Ze (x:=st[k]) (List.getElem?_eq_getElem hk)]
 have h1:decide (st[k]<0)=true:=by rw[hx];exact decide_eq_true hs
 have h2:decide (t<0)=false:=decide_eq_false (by omega)
 have h3:0<st.countP (fun s=>decide (s<0)):=by
  rw[List.countP_pos_iff]
  exact⟨st[k],List.getElem_mem hk,h1⟩
 simp only[h1,h2,if_true,Bool.false_eq_true,if_false]
 omega
theorem Xy (hl:st.length=cs.length) (h0:0≤t):∀(n m:Nat),FL st≤n→FL st≤m→fill cE sI cs t n st=fill cE sI cs t m st:=by
 intro n
 induction n generalizing st with
 |
  zero =>
  intro m hn hm
  have hf:full cE sI cs st t:=by
   right
   rw[xS]
   cases hw:wt cs st t with
   | nil=>rfl
   |
    cons i ws =>
    have h1:i∈wt cs st t:=by rw[hw];exact List.mem_cons_self
    obtain⟨h2,h3,_⟩:=Kv.1 h1
    have:=Bi (t:=t) (by omega:i<st.length) h3 h0
    omega
  rw[wX hf,wX hf]
 |
  succ n ih =>
  intro m hn hm
  cases m with
  |
   zero =>
   have hf:full cE sI cs st t:=by
    right
    rw[xS]
    cases hw:wt cs st t with
    | nil=>rfl
    |
     cons i ws =>
     have h1:i∈wt cs st t:=by rw[hw];exact List.mem_cons_self
     obtain⟨h2,h3,_⟩:=Kv.1 h1
     have:=Bi (t:=t) (by omega:i<st.length) h3 h0
     omega
   rw[wX hf,wX hf]
  |
   succ m =>
   rw[fill,fill]
   split
   ·split
    ·rfl
    ·rename_i k hk
     obtain⟨h2,h3,_⟩:=Kv.1 (Pq hk)
     have:=Bi (t:=t) (by omega:k<st.length) h3 h0
     exact ih (by simp[hl]) m (by omega) (by omega)
   ·rfl
theorem UZ:FL st≤st.length:=List.countP_le_length
theorem Wb {k:Nat} (hl:st.length=cs.length) (h0:0≤t) (hb:(bz cs st t:Int)<sI) (hk:nxt cE cs st t=some k):fill cE sI cs t cs.length (st.set k t)=fill cE sI cs t cs.length st:=by
 obtain⟨h2,h3,_⟩:=Kv.1 (Pq hk)
 have h4:=Bi (t:=t) (by omega:k<st.length) h3 h0
 have h5:=UZ (st:=st)
 rw[Xy (st:=st) hl h0 cs.length (cs.length+1) (by omega) (by omega)]
 conv=>rhs;rw[fill,if_pos hb,hk]
def evT (cs:List jU) (st:List Int) (i:Nat):Int:=if 0≤HM st i then HM st i+XQ cs i else Mt cs i
def ahL (cs:List jU) (st:List Int) (t:Int) (b:Int) (i:Nat):Int:=if t<evT cs st i∧(b<0∨evT cs st i<b) then evT cs st i else b
def later (cs:List jU) (st:List Int) (t:Int):Int:=(List.range cs.length).foldl (ahL cs st t) (-1)
structure Way (cs:List jU) (st:List Int) (t:Int):Prop where
 len:st.length=cs.length
 low:∀i,i<cs.length → -1≤HM st i
 high:∀i,i<cs.length→HM st i≤t
 bd:∀i,i<cs.length→HM st i+1000*(FL st:Int)≤10000+1000*(cs.length:Int)
 tm:0≤t∧t+1000*(FL st:Int)≤11000+1000*(cs.length:Int)
theorem Way.set {k:Nat} (h:Way cs st t) (hk:k<cs.length) (hs:HM st k<0):Way cs (st.set k t) t:=by
 have hl:=h.len
 have X0:=h.tm
 have h4:=Bi (t:=t) (by omega:k<st.length) hs X0.1
 refine⟨by simp[hl],fun i hi => ?_,fun i hi => ?_,fun i hi => ?_,X0.1,by omega⟩
 all_goals rw[FU (by omega:k<st.length)]
 ·have:=h.low i hi
  split<;>omega
 ·have:=h.high i hi
  split<;>omega
 ·have:=h.bd i hi
  split<;>omega
theorem Way.le (h:Way cs st t) (hc:mV cs):t≤35000∧∀i,i<cs.length→HM st i≤34000:=by
 have hlen:=hc.2
 have X0:=h.tm
 refine⟨by omega,fun i hi => ?_⟩
 have:=h.bd i hi
 omega
theorem mV.bnd (hc:mV cs) {i:Nat} (hi:i<cs.length):(0≤Mt cs i∧Mt cs i≤10000)∧(1≤XQ cs i∧XQ cs i≤1000):=by
 have hx:cs[i]? = some cs[i]:=List.getElem?_eq_getElem hi
 have:=hc.at hx
 rw[Tz hx,aiM hx]
 exact⟨this.1,this.2.1⟩
def Lq (cE:Int) (cs:List jU) (ws:List Nat):Nat :=
 if cE=1 then ws.length-1 else if cE=2∨cE=3 then (List.range ws.length).foldl (fun b k=>if JI cE cs (ws.getD k 0) (ws.getD b 0) then k else b) 0 else 0
theorem SV {ws:List Nat} {k:Nat} (h:∀i j,JI cE cs i j=false):ws.foldl (Ag cE cs) (some k)=some k:=by
 induction ws with
 | nil=>rfl
 |
  cons i ws ih =>
  rw[List.foldl_cons]
  have:Ag cE cs (some k) i=some k:=by
   unfold Ag
   simp only[h]
   rfl
  rw[this,ih]
theorem Zo {ws:List Nat} (fH:ws≠[]) (hr:0≤cE∧cE≤3):Lq cE cs ws<ws.length∧ws[Lq cE cs ws]? = ws.foldl (Ag cE cs) none:=by
 have hlen:0<ws.length:=List.length_pos_iff.2 fH
 unfold Lq
 by_cases h1:cE=1
 ·rw[if_pos h1]
  rcases List.eq_nil_or_concat ws with rfl | ⟨xs,y,rfl⟩
  ·exact absurd rfl fH
  ·rw[List.concat_eq_append,List.foldl_append]
   refine⟨by simp,?_⟩
   simp only[List.length_append,List.length_cons,List.length_nil,Nat.zero_add,Nat.add_sub_cancel,List.foldl_cons,List.foldl_nil]
   rw[List.getElem?_append_right (Nat.le_refl _),Nat.sub_self]
   unfold Ag
   split
   ·rfl
   ·simp only[JI,if_pos h1,if_true]
    rfl
 ·rw[if_neg h1]
  by_cases h2:cE=2∨cE=3
  ·rw[if_pos h2]
   have asN:∀i,JI cE cs i i=false:=fun i=>by
    unfold JI
    rw[if_neg h1]
    split
    ·exact decide_eq_false (by omega)
    ·split
     ·exact decide_eq_false (by omega)
     ·rfl
   have key:∀n,n<ws.length→(List.range (n+1)).foldl (fun b k=>if JI cE cs (ws.getD k 0) (ws.getD b 0) then k else b) 0<ws.length ∧
     ws[(List.range (n+1)).foldl (fun b k=>if JI cE cs (ws.getD k 0) (ws.getD b 0) then k else b) 0]? = (ws.take (n+1)).foldl (Ag cE cs) none:=by
    intro n
    induction n with
    |
     zero =>
     intro _
     have:(List.range (0+1)).foldl (fun b k=>if JI cE cs (ws.getD k 0) (ws.getD b 0) then k else b) 0=0:=by
      simp[List.range_succ,asN]
     rw[this]
     refine⟨hlen,?_⟩
     cases ws with
     | nil=>exact absurd rfl fH
     | cons i ws=>rfl
    |
     succ n ih =>
     intro hn
     obtain⟨g1,g2⟩:=ih (by omega)
     rw[List.range_succ,List.foldl_append,List.foldl_cons,List.foldl_nil]
     generalize (List.range (n+1)).foldl (fun b k=>if JI cE cs (ws.getD k 0) (ws.getD b 0) then k else b) 0=b at *
     obtain⟨x,hx⟩:∃x,ws[n+1]? = some x:=⟨_,List.getElem?_eq_getElem hn⟩
     obtain⟨y,hy⟩:∃y,ws[b]? = some y:=⟨_,List.getElem?_eq_getElem g1⟩
     rw[List.take_add_one,hx,List.foldl_append,←g2,hy]
     simp only[Option.toList_some,List.foldl_cons,List.foldl_nil,List.getD_eq_getElem?_getD,hx,hy,Option.getD_some,Ag]
     split
     ·exact⟨hn,hx⟩
     ·exact⟨g1,hy⟩
   have:=key (ws.length-1) (by omega)
   rw[show ws.length-1+1=ws.length by omega,List.take_of_length_le (Nat.le_refl _)] at this
   exact this
  ·rw[if_neg h2]
   refine⟨hlen,?_⟩
   have hb:∀i j,JI cE cs i j=false:=fun i j=>by
    unfold JI
    rw[if_neg h1,if_neg (by omega),if_neg (by omega)]
   cases ws with
   | nil=>exact absurd rfl fH
   |
    cons i ws =>
    rw[List.foldl_cons,show Ag cE cs none i=some i from rfl,SV hb]
    rfl
end
end Go.PM
namespace Go.PM
def Un (st:List Int) (i:Nat):Bool:=decide (HM st i<0)
def gtB (u e:Int):Bool:=decide (u<e)
section
variable {cE sI:Int} {cs:List jU} {st:List Int} {t:Int}
theorem mV.sorted (hc:mV cs):∀ {i j:Nat},i≤j→j<cs.length→Mt cs i≤Mt cs j:=by
 intro i j TI hj
 induction j with
 |
  zero =>
  have:i=0:=by omega
  subst this
  exact Int.le_refl _
 |
  succ j ih =>
  rcases Nat.lt_or_ge i (j+1) with h | h
  ·have h1:=ih (by omega) (by omega)
   have hx:cs[j+1]? = some cs[j+1]:=List.getElem?_eq_getElem hj
   have hy:cs[j]? = some cs[j]:=List.getElem?_eq_getElem (by omega)
   have h2:=(hc.1 (j+1) _ hx).2 _ (by omega) (by rw[Nat.add_sub_cancel];exact hy)
   rw[Tz hx]
   rw[Tz hy] at h1
   omega
  ·have:i=j+1:=by omega
   subst this
   exact Int.le_refl _
theorem GG {fB:Nat} (amX:fB≤cs.length) (past:∀i,i<fB→Mt cs i≤t) (fut:∀i,fB≤i→i<cs.length→t<Mt cs i):wt cs st t=(List.range fB).filter (Un st):=by
 unfold wt
 rw[show cs.length=fB+(cs.length-fB) by omega,List.range_add,List.filter_append]
 have h1:(List.range fB).filter (isW cs st t)=(List.range fB).filter (Un st):=by
  refine List.filter_congr fun i hi => ?_
  rw[List.mem_range] at hi
  simp[isW,Un,past i hi]
 have h2:((List.range (cs.length-fB)).map fun x=>fB+x).filter (isW cs st t)=[]:=by
  rw[List.filter_eq_nil_iff]
  intro i hi
  obtain⟨j,hj,rfl⟩:=List.mem_map.1 hi
  rw[List.mem_range] at hj
  have:=fut (fB+j) (by omega) (by omega)
  simp only[isW,Bool.and_eq_true,decide_eq_true_eq]
  omega
 rw[h1,h2,List.append_nil]
structure Pa (cE sI:Int) (cs:List jU) (st:List Int) (t:Int) (fB:Nat) (ws:List Nat) (ends:List Int):Prop where
 len:st.length=cs.length
 low:∀i,i<cs.length → -1≤HM st i
 high:∀i,i<cs.length→HM st i≤t
 bd:∀i,i<cs.length→HM st i+1000*(FL st:Int)≤10000+1000*(cs.length:Int)
 tm : -1≤t
 Nx:fB≤cs.length
 past:∀i,i<fB→Mt cs i≤t
 fut:∀i,fB≤i→i<cs.length→t<Mt cs i∧HM st i<0
 wsq:ws=wt cs st t
 cnt:∀u,t≤u→ends.countP (gtB u)=bz cs st u
 ef:∀e∈ends,t<e
 eb:∀e∈ends,e+1000*(FL st:Int)≤11000+1000*(cs.length:Int)
 fl:full cE sI cs st t
 room:ws.length+ends.length≤fB
 es:(ends.length:Int)≤sI
 run:runT cE sI cs (t+1) (100000-(t+1)).toNat st=stL cE sI cs
theorem GH {n i:Nat} (h:i<n):HM (List.replicate n (-1)) i = -1:=Ze (by rw[List.getElem?_replicate,if_pos h])
theorem Pa.start (hc:mV cs) (hs:1≤sI):Pa cE sI cs (List.replicate cs.length (-1)) (-1) 0 [] []:=by
 have hw:wt cs (List.replicate cs.length (-1)) (-1)=[]:=by
  rw[GG (Nat.zero_le _) (fun i hi=>by omega) fun i _ hi=>by have:=hc.bnd hi;omega]
  rfl
 have hu:FL (List.replicate cs.length (-1))=cs.length:=by simp[FL,List.countP_replicate]
 refine⟨by simp,fun i hi=>by rw[GH hi];decide,fun i hi=>by rw[GH hi];decide,fun i hi=>by rw[GH hi,hu];omega,by decide,Nat.zero_le _,fun i hi=>by omega,fun i _ hi=>⟨by have:=hc.bnd hi;omega,by rw[GH hi];decide⟩,hw.symm,fun u _ => ?_,fun e he=>(by cases he),fun e he=>(by cases he),.inr (xS.2 hw),Nat.le_refl _,by simp;omega,rfl⟩
 unfold bz
 rw[(List.countP_eq_zero (p:=inS cs (List.replicate cs.length (-1)) u)).2]
 ·rfl
 ·intro i hi
  rw[List.mem_range] at hi
  simp only[inS,GH hi,Bool.and_eq_true,decide_eq_true_eq]
  omega
def PR (w:Bool) (b e:Int):Int:=if b<0∨(w=true∧e<b) then e else b
theorem akP {es:List Int} {b:Int} (h:0≤b):es.foldl (PR false) b=b:=by
 induction es with
 | nil=>rfl
 |
  cons e es ih =>
  rw[List.foldl_cons]
  have:PR false b e=b:=by
   unfold PR
   rw[if_neg (by simp;omega)]
  rw[this,ih]
theorem agK:∀ {es:List Int} {b:Int},(∀e∈es,0≤e)→(es.foldl (PR true) b=b∨es.foldl (PR true) b∈es)∧(∀e∈es,es.foldl (PR true) b≤e)∧(0≤b→es.foldl (PR true) b≤b)∧(es≠[]→0≤es.foldl (PR true) b)
 | [],b,_=>⟨.inl rfl,fun e he=>(by cases he),fun _=>Int.le_refl _,fun h=>absurd rfl h⟩
 |
  e::es,b,h=>by
  rw[List.foldl_cons]
  have h1:=h e List.mem_cons_self
  have h2:∀e'∈es,0≤e':=fun e' he=>h e' (List.mem_cons_of_mem _ he)
  have hm:(PR true b e=b∨PR true b e=e)∧PR true b e≤e∧(0≤b→PR true b e≤b)∧0≤PR true b e:=by
   unfold PR
   by_cases hc:b<0∨(true=true∧e<b)
   ·rw[if_pos hc]
    refine⟨.inr rfl,Int.le_refl _,fun hb => ?_,h1⟩
    rcases hc with hc | hc<;>omega
   ·rw[if_neg hc]
    simp at hc
    exact⟨.inl rfl,hc.2,fun _=>Int.le_refl _,hc.1⟩
  obtain⟨m1,m2,m3,m4⟩:=hm
  obtain⟨g1,g2,g3,g4⟩:=agK (es:=es) (b:=PR true b e) h2
  have g3:=g3 m4
  refine⟨?_,?_,fun hb=>by have:=m3 hb;omega,fun _ => ?_⟩
  ·rcases g1 with g1 | g1
   ·rw[g1]
    rcases m1 with m1 | m1
    ·exact .inl m1
    ·rw[m1];exact .inr List.mem_cons_self
   ·exact .inr (List.mem_cons_of_mem _ g1)
  ·intro e' he
   rcases List.mem_cons.1 he with rfl | he
   ·omega
   ·exact g2 e' he
  ·rcases g1 with g1 | g1
   ·rw[g1];exact m4
   ·exact h2 _ g1
def OZ (cs:List jU) (fB:Nat):Int:=if fB<cs.length then Mt cs fB else -1
def KV (cs:List jU) (fB:Nat) (ws:List Nat) (ends:List Int):Int:=ends.foldl (PR (decide (0<ws.length))) (OZ cs fB)
theorem Pa.aaT {fB:Nat} {ws:List Nat} {ends:List Int} (h:Pa cE sI cs st t fB ws ends):ends.length=bz cs st t:=by
 rw[←h.cnt t (Int.le_refl _),List.countP_eq_length.2]
 intro e he
 exact decide_eq_true (h.ef e he)
theorem Pa.time {fB:Nat} {ws:List Nat} {ends:List Int} (h:Pa cE sI cs st t fB ws ends) (hc:mV cs) (hs:1≤sI) (hg:fB<cs.length∨0<ws.length) :
  (t<KV cs fB ws ends∧KV cs fB ws ends+1000*(FL st:Int)≤11000+1000*(cs.length:Int))∧(∀i,fB≤i→i<cs.length→KV cs fB ws ends≤Mt cs i) ∧
   (fB<cs.length∧Mt cs fB=KV cs fB ws ends∨0<ws.length∧KV cs fB ws ends∈ends)∧runT cE sI cs (KV cs fB ws ends) (100000-KV cs fB ws ends).toNat st=stL cE sI cs:=by
 have X0:=h.tm
 have PO:=UZ (st:=st)
 have hlen:=h.len
 have he0:∀e∈ends,0≤e:=fun e he=>by have:=h.ef e he;omega
 have avY:=hc.2
 by_cases hw:0<ws.length
 ·have hbz:sI≤(bz cs st t:Int):=by
   rcases h.fl with hf | hf
   ·exact hf
   ·rw[xS,←h.wsq] at hf
    rw[hf] at hw
    simp at hw
  have fH:ends≠[]:=by
   intro he
   have:=h.aaT
   rw[he] at this
   simp at this
   omega
  obtain⟨g1,g2,g3,g4⟩:=agK (es:=ends) (b:=OZ cs fB) he0
  have WA:KV cs fB ws ends=ends.foldl (PR true) (OZ cs fB):=by unfold KV;rw[decide_eq_true hw]
  rw[WA]
  generalize ends.foldl (PR true) (OZ cs fB)=w at *
  have g4:=g4 fH
  have Kg:(fB<cs.length∧Mt cs fB=w)∨w∈ends:=by
   rcases g1 with g1 | g1
   ·unfold OZ at g1
    split at g1
    ·rename_i nO
     exact .inl ⟨nO,g1.symm⟩
    ·omega
   ·exact .inr g1
  have htw:t<w∧w+1000*(FL st:Int)≤11000+1000*(cs.length:Int):=by
   rcases Kg with⟨h1,h2⟩ | h1
   ·have:=h.fut fB (Nat.le_refl _) h1
    have:=hc.bnd h1
    omega
   ·exact⟨h.ef _ h1,h.eb _ h1⟩
  refine⟨htw,fun i h1 h2 => ?_,Kg.imp id fun h1=>⟨hw,h1⟩,?_⟩
  ·have h3:=hc.sorted h1 h2
   have h4:=hc.bnd (i:=fB) (by omega)
   have h5:OZ cs fB=Mt cs fB:=by unfold OZ;rw[if_pos (by omega)]
   have:=g3 (by rw[h5];omega)
   omega
  ·rw[←h.run]
   refine(UL (by omega) (by omega) (by omega) fun u h1 h2 => .inl ?_).symm
   rw[←h.cnt u (by omega),(List.countP_eq_length (p:=gtB u)).2 fun e he=>decide_eq_true (by have:=g2 e he;omega),h.aaT]
   exact hbz
 ·have nO:fB<cs.length:=by omega
  have h5:OZ cs fB=Mt cs fB:=by unfold OZ;rw[if_pos nO]
  have h4:=hc.bnd nO
  have hf:=(h.fut fB (Nat.le_refl _) nO).1
  have WA:KV cs fB ws ends=Mt cs fB:=by unfold KV;rw[decide_eq_false hw,akP (by rw[h5];omega),h5]
  rw[WA]
  refine⟨⟨hf,by omega⟩,fun i h1 h2=>hc.sorted h1 h2,.inl ⟨nO,rfl⟩,?_⟩
  rw[←h.run]
  refine(UL (by omega) (by omega) (by omega) fun u h1 h2 => .inr ?_).symm
  rw[xS,GG h.Nx (fun i hi=>by have:=h.past i hi;omega) fun i h3 h4=>by have:=hc.sorted h3 h4;omega]
  have e1:=GG (st:=st) h.Nx h.past fun i h3 h4=>(h.fut i h3 h4).1
  rw[←e1,←h.wsq]
  exact List.eq_nil_of_length_eq_zero (by omega)
theorem Pa.done {fB:Nat} {ws:List Nat} {ends:List Int} (h:Pa cE sI cs st t fB ws ends) (amX:¬fB<cs.length) (hw:¬0<ws.length):st=stL cE sI cs:=by
 rw[←h.run]
 refine(WZ _ _ fun u hu => .inr ?_).symm
 have nO:=h.Nx
 have e1:=GG (st:=st) h.Nx h.past fun i h3 h4=>(h.fut i h3 h4).1
 rw[xS,GG h.Nx (fun i hi=>by have:=h.past i hi;omega) fun i h3 h4=>by omega,←e1,←h.wsq]
 exact List.eq_nil_of_length_eq_zero (by omega)
structure Ph4 (cE sI:Int) (cs:List jU) (st0:List Int) (now:Int) (fB tot:Nat) (st:List Int) (ws:List Nat) (ends:List Int):Prop where
 XL:Way cs st now
 wsq:ws=wt cs st now
 cnt:∀u,now≤u→ends.countP (gtB u)=bz cs st u
 ef:∀e∈ends,now<e
 eb:∀e∈ends,e+1000*(FL st:Int)≤11000+1000*(cs.length:Int)
 fl:fill cE sI cs now cs.length st=fill cE sI cs now cs.length st0
 past:∀i,i<fB→Mt cs i≤now
 fut:∀i,fB≤i→i<cs.length→now<Mt cs i∧HM st i<0
 tot:ws.length+ends.length=tot
 es:(ends.length:Int)≤sI
theorem Cj:∀ {l:List Nat} {i k:Nat},l.Nodup→l[i]? = some k→l.eraseIdx i=l.filter (· != k)
 | [],_,_,_,h=>by cases h
 |
  x::l,0,k,hn,h=>by
  injection h with h
  subst h
  rw[List.nodup_cons] at hn
  rw[List.eraseIdx_cons_zero,List.filter_cons_of_neg (by simp),List.filter_eq_self.2]
  intro y hy
  have:y≠x:=fun he=>hn.1 (he▸hy)
  simpa using this
 |
  x::l,i+1,k,hn,h=>by
  rw[List.nodup_cons] at hn
  rw[List.getElem?_cons_succ] at h
  have hx:x≠k:=fun he=>hn.1 (he▸List.mem_of_getElem? h)
  rw[List.eraseIdx_cons_succ,List.filter_cons_of_pos (by simpa using hx),Cj hn.2 h]
theorem Ph4.step {now:Int} {st0:List Int} {fB tot:Nat} {ws:List Nat} {ends:List Int} (h:Ph4 cE sI cs st0 now fB tot st ws ends) (hc:mV cs) (hr:0≤cE∧cE≤3) (hb:(ends.length:Int)<sI) (fH:0<ws.length) :
  ∃k,ws[Lq cE cs ws]? = some k∧k<cs.length∧Lq cE cs ws<ws.length∧(0≤now∧now≤35000)∧Ph4 cE sI cs st0 now fB tot (st.set k now) (ws.eraseIdx (Lq cE cs ws)) (ends++[now+XQ cs k]):=by
 have WE:ws≠[]:=fun he=>by rw[he] at fH;simp at fH
 obtain⟨g1,g2⟩:=Zo (cs:=cs) WE hr
 obtain⟨k,hk⟩:∃k,ws[Lq cE cs ws]? = some k:=⟨_,List.getElem?_eq_getElem g1⟩
 have hnx:nxt cE cs st now=some k:=by
  unfold nxt
  rw[←h.wsq,←g2,hk]
 obtain⟨m1,m2,m3⟩:=Kv.1 (Pq hnx)
 have X0:=h.XL.tm
 have hle:=(h.XL.le hc).1
 have hbz:(bz cs st now:Int)=ends.length:=by
  rw[←h.cnt now (Int.le_refl _),(List.countP_eq_length (p:=gtB now)).2 fun e he=>decide_eq_true (h.ef e he)]
 have O5:k<st.length:=by rw[h.XL.len];exact m1
 have hus:=Bi (t:=now) O5 m2 X0.1
 have hwk:=(hc.bnd m1).2
 refine⟨k,hk,m1,g1,⟨X0.1,hle⟩,h.XL.set m1 m2,?_,?_,?_,?_,?_,h.past,?_,?_,?_⟩
 ·rw[ajY h.XL.len m1 X0.1,←h.wsq]
  exact Cj (by rw[h.wsq];exact abI) hk
 ·intro u hu
  rw[List.countP_append,h.cnt u hu,aiD m1 h.XL.len m2 X0.1,List.countP_singleton]
  congr 1
  simp only[gtB,decide_eq_true_eq]
  by_cases hq:u<now+XQ cs k
  ·rw[if_pos hq,if_pos ⟨hu,hq⟩]
  ·rw[if_neg hq,if_neg fun h'=>hq h'.2]
 ·intro e he
  rcases List.mem_append.1 he with he | he
  ·exact h.ef e he
  ·rw[List.mem_singleton] at he
   omega
 ·intro e he
  rcases List.mem_append.1 he with he | he
  ·have:=h.eb e he
   omega
  ·rw[List.mem_singleton] at he
   omega
 ·rw[Wb h.XL.len X0.1 (by rw[hbz];exact hb) hnx,h.fl]
 ·intro i h1 h2
  have h3:=h.fut i h1 h2
  refine⟨h3.1,?_⟩
  rw[FU O5,if_neg (fun he=>by subst he;omega)]
  exact h3.2
 ·rw[List.length_eraseIdx_of_lt g1,List.length_append,List.length_cons,List.length_nil]
  have:=h.tot
  omega
 ·rw[List.length_append,List.length_cons,List.length_nil]
  omega
theorem Ph4.done {now:Int} {st0:List Int} {fB tot:Nat} {ws:List Nat} {ends:List Int} (h:Ph4 cE sI cs st0 now fB tot st ws ends) (hc:mV cs) (nO:fB≤cs.length) (ht:tot≤fB) (hf:sI≤(ends.length:Int)∨ws=[])
  (hr:runT cE sI cs now (100000-now).toNat st0=stL cE sI cs):Pa cE sI cs st now fB ws ends:=by
 have X0:=h.XL.tm
 have hle:=(h.XL.le hc).1
 have hbz:(bz cs st now:Int)=ends.length:=by
  rw[←h.cnt now (Int.le_refl _),(List.countP_eq_length (p:=gtB now)).2 fun e he=>decide_eq_true (h.ef e he)]
 have agN:full cE sI cs st now:=by
  rcases hf with hf | hf
  ·exact .inl (by rw[hbz];exact hf)
  ·exact .inr (xS.2 (by rw[←h.wsq];exact hf))
 refine⟨h.XL.len,h.XL.low,h.XL.high,h.XL.bd,by omega,nO,h.past,h.fut,h.wsq,h.cnt,h.ef,h.eb,agN,by rw[h.tot];exact ht,h.es,?_⟩
 have h1:=wX agN cs.length
 rw[h.fl] at h1
 rw[ZJ X0.1 (by omega),h1] at hr
 exact hr
end
end Go.PM
namespace Go.PM
theorem Ey (n:Nat) (h:n<4294967296):TC 228 [VK .u64 1,VK .u64 (n:Int)] (.dS [VK .u64 0,VK .u64 (n:Int)]):=by
 refine TC.walk ⟨true,false⟩ Gr rfl (Nat.le_of_ble_eq_true rfl) rfl rfl ?_
 have a1:dB .and (.int .u64 1) (.int .u64 4294967295)=some (.int .u64 1):=Pj 1 (by decide)
 have a2:dB .and (.int .u64 (n:Int)) (.int .u64 4294967295)=some (.int .u64 (n:Int)):=by rw[Pj n (by omega),Nat.mod_eq_of_lt h]
 have a0:dB .and (.int .u64 0) (.int .u64 4294967295)=some (.int .u64 0):=Pj 0 (by decide)
 have s1:dB .shr (.int .u64 1) (.int .u64 32)=some (.int .u64 0):=nP 1 .u64
 have s0:dB .shr (.int .u64 0) (.int .u64 32)=some (.int .u64 0):=nP 0 .u64
 have s2:dB .shr (.int .u64 (n:Int)) (.int .u64 32)=some (.int .u64 0):=by rw[nP n .u64,Nat.div_eq_of_lt h];rfl
 have w0:IntKind.u64.wrap 0=0:=dW 0 (by decide)
 have wn:IntKind.u64.wrap (n:Int)=n:=dW n (by omega)
 simp only[Cs,zZ,a0,a1,a2,s0,s1,s2,w0,wn,Int.one_mul,Int.zero_mul,Int.mul_zero,Int.add_zero,VX,Nat.reduceEqDiff,Nat.reduceAdd]
 exact aF rfl
theorem GL (n:Nat) (h:n<4294967296):TC 187 [VK .u64 1,VK .u64 (n:Int)] (.dS [VK .u64 0,VK .u64 (n:Int)]):=by
 refine TC.walk ⟨true,false⟩ Jy rfl (Nat.le_of_ble_eq_true rfl) rfl rfl ?_
 simp only[EI,Cw,Ey n h,VX,Nat.reduceEqDiff,Nat.reduceAdd]
 exact aF rfl
end Go.PM
namespace Go.PM
section
variable {α:Type} {f:α→VV} {H:aA} {b g e lo:Nat} {X Y:List α}
theorem RS {o:Nat}:cT (X.map f) o (Y.map f)=(X.take o++Y++X.drop (o+Y.length)).map f:=by
 simp[cT]
theorem Oj {o d cc:Nat} {y:VV} (h:aI H b g=some (X.map f,e,true)) (hy:cU e y H=some (Y.map f)) (eW:lo≤b) (ho:o+(Y.take d).length≤X.length) :
  I0 lo e (.ref b g o d cc) y H=some (VI (Y.take d).length,H.set b (.row g ((X.take o++Y.take d++X.drop (o+(Y.take d).length)).map f) e true)):=by
 simp only[I0,hy,h]
 rw[←List.map_take,RS,if_pos ⟨trivial,eW,by simpa using ho⟩,List.length_map]
end
end Go.PM
namespace Go.PM
def gF:aD:=(LS [LO 4 (.new [(.slice none 0 0),(.slice none 0 0),(.slice none 0 0)]),LO 5 (.mv LF)] (LS [LM 11 0,LO 12 (.call 114 [(LT 11)]),LM 10 12,LO 13 (LX 10 0),LO 14 (LX 10 1),LM 6 13,LM 7 14] (LS [LM 16 1,LO 17 (.call 126 [(LT 16)]),LM 15 17,LO 18 (LX 15 0),LO 19 (LX 15 1),LM 8 18,LM 9 19] (.seq (LS [LM 20 7,LO 21 (.un .not (LT 20)),LM 22 21,LZ 22 23 (.mv (LT 9)),LZ 22 24 (.un .not (LT 23)),LO 25 (.pick (LT 22) LG (LT 24)),LM 26 25,LZ 26 27 (.mv (LT 6)),LZ 26 28 (.len (LT 27)),LZ 26 29 (.mv (LT 8)),LZ 26 30 (.len (LT 29)),LZ 26 31 (.bin .neq (LT 28) (LT 30)),LO 32 (.pick (LT 26) LG (LT 31)),LM 33 32,LZ 33 34 (.mv (LT 8)),LZ 33 35 (.len (LT 34)),LZ 33 36 (.bin .gtr (LT 35) (LI 6)),LO 37 (.pick (LT 33) LG (LT 36))] (.cond (LT 37) (LS [LO 38 (.build [(.slice none 0 0),(.slice none 0 0),(.slice none 0 0)] [(0,1),(1,1),(2,1)] []),LN (.store 3 (LT 4) (LT 38)),LO 5 (.mv LF)] .ret) .skip)) (LS [LM 39 6,LM 40 8,LO 41 (.len (LT 40)),LO 42 (.call 128 [(LT 41)]),LM 43 8,LO 44 (.build [(.slice none 0 0),(.slice none 0 0),(.slice none 0 0)] [(0,1),(1,1),(2,1)] [(0,(LT 39)),(1,(LT 42)),(2,(LT 43))]),LO 45 (.call 129 [(LT 44)]),LO 46 (LX 45 0),LO 47 (LX 45 1),LN (.store 3 (LT 4) (LT 46)),LM 5 47] .ret)))))
def iP:aP:=⟨48,[(.cell 4 true 3),(.tmp 5)],gF⟩
theorem FV:gB 64=some iP:=by kernel_rfl
def zK:aD:=(LS [LO 1 (.box (LT 0)),LO 2 (.new [(.slice none 0 0),(.slice none 0 0),(.slice none 0 0)]),LO 3 (.mv LF)] (LS [LO 11 (LA 0 1),LO 12 (LL 11),LO 13 (.call 111 [(LT 12)]),LM 10 13,LO 14 (LX 10 0),LO 15 (LX 10 1),LM 4 14,LM 5 15] (LS [LO 17 (LA 1 1),LO 18 (LL 17),LO 19 (.call 149 [(LT 18)]),LM 16 19,LO 20 (LX 16 0),LO 21 (LX 16 1),LO 6 (.new [(.slice none 0 0)]),LN (.store 1 (LT 6) (LT 20)),LM 7 21] (LS [LO 23 (LA 2 1),LO 24 (LL 23),LO 25 (.call 111 [(LT 24)]),LM 22 25,LO 26 (LX 22 0),LO 27 (LX 22 1),LM 8 26,LM 9 27] (.seq (LS [LM 28 5,LO 29 (.un .not (LT 28)),LM 30 29,LZ 30 31 (.mv (LT 7)),LZ 30 32 (.un .not (LT 31)),LO 33 (.pick (LT 30) LG (LT 32)),LM 34 33,LZ 34 35 (.mv (LT 9)),LZ 34 36 (.un .not (LT 35)),LO 37 (.pick (LT 34) LG (LT 36)),LM 38 37,LZ 38 39 (LA 0 1),LZ 38 40 (LL 39),LZ 38 41 (.len (LT 40)),LZ 38 42 (.bin .gtr (LT 41) (LI 6)),LO 43 (.pick (LT 38) LG (LT 42))] (.cond (LT 43) (LS [LO 44 (.build [(.slice none 0 0),(.slice none 0 0),(.slice none 0 0)] [(0,1),(1,1),(2,1)] []),LN (.store 3 (LT 2) (LT 44)),LO 3 (.mv LF)] .ret) .skip)) (LS [LM 45 4,LO 46 (LA 0 6),LO 47 (LL 46),LM 48 8,LO 49 (.build [(.slice none 0 0),(.slice none 0 0),(.slice none 0 0)] [(0,1),(1,1),(2,1)] [(0,(LT 45)),(1,(LT 47)),(2,(LT 48))]),LN (.store 3 (LT 2) (LT 49)),LO 3 (.mv LG)] .ret))))))
def A1:aP:=⟨50,[(.cell 2 true 3),(.tmp 3)],zK⟩
theorem Ff:gB 129=some A1:=by kernel_rfl
end Go.PM
namespace Go.PM
open Go.Lib
def Ml {α:Type} (f:α→VV) (e:Nat) (bH:List α) (lo hi:Nat) (H:aA) (v:VV):Prop :=
 ∃b g c,lo≤b∧b<hi∧v = .ref b g 0 bH.length c∧bH.length≤c∧aI H b g=some (bH.map f,e,true)
def TabIs {α:Type} (f:α→VV) (e:Nat) (m:List (List α)) (lo hi:Nat) (H:aA) (v:VV):Prop :=
 ∃b g c rs,v = .ref b g 0 m.length c∧m.length≤c∧MG f e lo hi b g H rs∧rs.map (·.xs)=m
theorem P7 {α:Type} {f:α→VV} {lo b k e bytes:Nat} {H:aA} {xs:List α} {x:α} (h:aI H b k=some (xs.map f,e,true)) (hk:k=xs.length) (eW:lo≤b) (he:1≤e) (hb:1≤bytes) (CP:(k+1)*bytes≤140737488355328) :
 eR lo e bytes (.ref b k 0 k k) [f x] H=some (.ref b (k+1) 0 (k+1) (k+1),H.set b (.row (k+1) ((xs++[x]).map f) e true)):=iB h hk eW he hb CP
theorem Ml.rd {α:Type} {f:α→VV} {e lo hi:Nat} {bH:List α} {H:aA} {v:VV} (h:Ml f e bH lo hi H v):Rd f e bH H v:=by
 obtain⟨b,g,c,h1,h2,rfl,h3,h4⟩:=h
 exact Rd.row h4 rfl
theorem Et {lo:Nat} {H:aA} (q:Rat) (N:Nat) (hN:N≤1000000) (eW:lo≤H.length) :
  jO 202 [.tree [bE q] (.cl 3),VI N] lo H fun r H'=>r = .ref H.length 0 0 N N∧H'=H++[.row 0 ((List.replicate N q).map bE) 3 true]:=by
 refine jO.walk ⟨true,false⟩ pO (Nat.le_of_ble_eq_true rfl) ?_
 have eM:=GL N (by omega)
 have c1:IntKind.u64.wrap ((1:Nat):Int)=1:=dW 1 (by decide)
 have c2:IntKind.u64.wrap (N:Int)=(N:Int):=dW N (by omega)
 have c3:IntKind.i64.wrap (N:Int)=(N:Int):=wrap64 (by omega) (by omega)
 have g1:¬(N:Int)<0:=by omega
 have g2:¬(0:Int)<0:=by decide
 have g3:¬(9223372036854775807:Int)<(N:Int):=by omega
 have em:=fun H=>rM (H:=H) (f:=id) (x:=rz) (z:=[.bool false,.slice none 0 0,.slice none 0 0]) (bytes:=56) (n:=N) rfl (by omega) (by omega)
 have s1:cU 3 (.tree [bE q] (.cl 3)) (H++[.row 0 ((List.replicate N rz).map id) 3 true])=some ([bE q].map id):=fA (v:=bE q) rfl rfl
 have r1:aI (H++[.row 0 ((List.replicate N rz).map id) 3 true]) H.length 0=some ((List.replicate N rz).map id,3,true):=by rw[B9,bA]
 have s2:=Oj (f:=id) (Y:=[bE q]) (lo:=lo) (o:=0) (d:=N) (cc:=N) (y := .tree [bE q] (.cl 3)) r1 s1 eW (by simp;omega)
 rw[Tr] at s2
 simp only[jP,iV,eM,c1,c2,c3,g1,g2,g3,em,s2,iC,VX,Nat.reduceEqDiff,Nat.reduceAdd,Nat.reduceLeDiff,Nat.reduceLT,Nat.reduceSub]
 refine aQ (fun(i:Nat) ρ H1=>i≤N∧(i=0→N=0)∧H1=H++[.row 0 ((List.replicate i (bE q)++List.replicate (N-i) rz).map id) 3 true]∧ρ 7 = .ref H.length 0 0 N N∧ρ 8=VI i) (fun i=>N-i) (min 1 N) ?_ ?_
 refine⟨by omega,by omega,?_,rfl,?_⟩
 ·congr 2
  cases N with
  | zero=>rfl
  |
   succ N =>
   have:min 1 (N+1)=1:=by omega
   rw[this]
   simp[List.replicate_succ]
 ·cases N with
  | zero=>rfl
  |
   succ N =>
   have:min 1 (N+1)=1:=by omega
   simp only[this,iC,VX,Nat.reduceEqDiff,Nat.reduceAdd,Nat.reduceLeDiff,Nat.reduceLT,Nat.reduceSub]
   try simp
 rintro i ρ H1 ⟨hi,h0,rfl,h7,h8⟩
 have hr:aI (H++[.row 0 ((List.replicate i (bE q)++List.replicate (N-i) rz).map id) 3 true]) H.length 0=some ((List.replicate i (bE q)++List.replicate (N-i) rz).map id,3,true):=by rw[B9,bA]
 have el:=dU (o:=0) (n:=N) (c:=N) hr
 by_cases cN:(i:Int)<(N:Int)
 ·have hXl:(List.replicate i (bE q)++List.replicate (N-i) rz).length=N:=by simp;omega
  have vJ:∀X:List VV,X=List.replicate i (bE q)++List.replicate (N-i) rz→(((X.map id).drop 0).take i).all (fun x=>(aB x).all bI)=true:=by
   rintro X rfl
   rw[List.map_id,List.drop_zero,List.take_append_of_le_length (by simp),List.take_of_length_le (by simp),List.all_eq_true]
   intro x hx
   rw[List.eq_of_mem_replicate hx]
   rfl
  have q1:=MV (o:=0) (n:=N) (c:=N) (l:=i) (k1 := .i64) hr hi (Nat.le_refl _)
  have q2:=vC (o:=0) (n:=N) (c:=N) (h:=i) (k2 := .i64) hr hi
  have hY:((List.replicate i (bE q)++List.replicate (N-i) rz).drop 0).take i=List.replicate i (bE q):=by
   rw[List.drop_zero,List.take_append_of_le_length (by simp),List.take_of_length_le (by simp)]
  have q3:cU 3 (.ref H.length 0 0 i N) (H++[.row 0 ((List.replicate i (bE q)++List.replicate (N-i) rz).map id) 3 true])=some ((List.replicate i (bE q)).map id):=by
   have hs:=vJ _ rfl
   simp only[cU,hr]
   rw[if_pos ⟨trivial,by rw[List.length_map,hXl];omega,hs⟩,List.map_id,List.map_id,hY]
  have hYd:(List.replicate i (bE q)).take (N-i)=List.replicate (min (N-i) i) (bE q):=List.take_replicate
  have q4:=Oj (f:=id) (lo:=lo) (o:=i) (d:=N-i) (cc:=N-i) hr q3 eW (by rw[hYd,hXl];simp;omega)
  rw[Tr,hYd,List.length_replicate,List.take_append_of_le_length (by simp),List.take_of_length_le (by simp)] at q4
  have hX':List.replicate i (bE q)++List.replicate (min (N-i) i) (bE q)++(List.replicate i (bE q)++List.replicate (N-i) rz).drop (i+min (N-i) i)=List.replicate (i+min (N-i) i) (bE q)++List.replicate (N-(i+min (N-i) i)) rz:=by
   rw[List.replicate_append_replicate,List.drop_append,List.drop_of_length_le (by simp),List.nil_append,List.length_replicate,List.drop_replicate]
   congr 2
   omega
  rw[hX'] at q4
  have wi:IntKind.i64.wrap ((i:Int)+((min (N-i) i:Nat):Int))=((i+min (N-i) i:Nat):Int):=wrapN _ (by omega) (by omega)
  simp only[eQ,h7,h8,el,cN,q1,q2,q3,q4,wi,iC,VX,Nat.reduceEqDiff,Nat.reduceAdd,Nat.reduceLeDiff,Nat.reduceLT,Nat.reduceSub]
  exact⟨i+min (N-i) i,by omega,by omega,by omega,by (repeat' apply And.intro)<;>first | rfl | trivial | assumption⟩
 ·have oJ:i=N:=by omega
  subst oJ
  simp only[eQ,h7,h8,el,cN,iC,VX,Nat.reduceEqDiff,Nat.reduceAdd,Nat.reduceLeDiff,Nat.reduceLT,Nat.reduceSub]
  rw[Nat.sub_self,List.replicate_zero,List.append_nil,List.map_id,List.map_replicate]
theorem TD (a n:Nat):((List.range n).map fun k=>a+k).Nodup:=List.pairwise_map.2 (List.nodup_range.imp fun h=>by omega)
theorem OU {lo:Nat} {H:aA} (N:Nat) (hN:N≤1000) (eW:lo≤H.length) :
  jO 128 [VI N] lo H (Sg (TabIs bE 3 (List.replicate N (List.replicate N (0:Rat)))) H):=by
 refine jO.walk ⟨true,false⟩ OQ (Nat.le_of_ble_eq_true rfl) ?_
 have em:=fun H=>rM (H:=H) (f:=id) (x := .tree [] .nil) (z:=[.slice none 0 0]) (bytes:=24) (n:=N) rfl (by omega) (by omega)
 have el0:=dU (H:=H++[.row 0 ((List.replicate N (VV.tree [] .nil)).map id) 1 true]) (b:=H.length) (g:=0) (o:=0) (n:=N) (c:=N) gH
 simp only[Ky,Gl,em,el0,List.length_cons,List.length_nil,Nat.zero_add,iC,VX,Nat.reduceEqDiff,Nat.reduceAdd,Nat.reduceLeDiff,Nat.reduceLT,Nat.reduceSub]
 refine aQ (fun(i:Nat) ρ H1=>i≤N∧H1=H ++ .row 0 (((List.range i).map fun k=>VV.ref (H.length+1+k) 0 0 N N)++List.replicate (N-i) (VV.tree [] TK.nil)) 1 true::List.replicate i (.row 0 ((List.replicate N (0:Rat)).map bE) 3 true)∧ρ 0=VI N∧ρ 3 = .ref H.length 0 0 N N∧ρ 8=VI N∧ρ 9=VI i) (fun i=>N-i) 0 ⟨Nat.zero_le _,by simp,rfl,rfl,rfl,rfl⟩ ?_
 rintro i ρ H1 ⟨hi,rfl,g0,g3,g8,g9⟩
 have e1:TC 97 [VI 0] (bE 0):=BT 0 (by decide) (by decide)
 have eL:∀H,mB false [.bool false,.slice none 0 0,.slice none 0 0] 1 [(0,bE 0)] H=some (.tree [bE 0] (.cl 3),H):=fun H=>iD rfl rfl rfl
 by_cases cN:(i:Int)<(N:Int)
 ·have wi:IntKind.i64.wrap ((i:Int)+1)=((i+1:Nat):Int):=wrapN (i+1) (by omega) (by omega)
  simp only[AJ,g0,g3,g8,g9,cN,e1,eL,iC,VX,Nat.reduceEqDiff,Nat.reduceAdd,Nat.reduceLeDiff,Nat.reduceLT,Nat.reduceSub]
  refine fC rfl ((Et 0 N (by omega) (by rw[List.length_append];omega)).mono ?_)
  rintro r H' ⟨rfl,rfl⟩
  have hl:(H++cA.row 0 (((List.range i).map fun k=>VV.ref (H.length+1+k) 0 0 N N)++List.replicate (N-i) (VV.tree [] TK.nil)) 1 true::List.replicate i (.row 0 ((List.replicate N (0:Rat)).map bE) 3 true)).length=H.length+1+i:=by simp;omega
  rw[hl,List.append_assoc,List.cons_append]
  have hr:aI (H++cA.row 0 (((List.range i).map fun k=>VV.ref (H.length+1+k) 0 0 N N)++List.replicate (N-i) (VV.tree [] TK.nil)) 1 true::(List.replicate i (.row 0 ((List.replicate N (0:Rat)).map bE) 3 true)++[.row 0 ((List.replicate N (0:Rat)).map bE) 3 true])) H.length 0=some ((((List.range i).map fun k=>VV.ref (H.length+1+k) 0 0 N N)++List.replicate (N-i) (VV.tree [] TK.nil)),1,true):=by rw[B9,bA]
  have a1:=bD (o:=0) (n:=N) (c:=N) (i:=i) (k := .i64) hr (by omega)
  have a2:=cJ (lo:=lo) (v := .ref (H.length+1+i) 0 0 N N) (j:=i) hr (by simp;omega) eW rfl rfl
  rw[Tr,List.set_cons_zero] at a2
  have hs:(((List.range i).map fun k=>VV.ref (H.length+1+k) 0 0 N N)++List.replicate (N-i) (VV.tree [] TK.nil)).set i (.ref (H.length+1+i) 0 0 N N)=((List.range (i+1)).map fun k=>VV.ref (H.length+1+k) 0 0 N N)++List.replicate (N-(i+1)) (VV.tree [] TK.nil):=by
   obtain⟨m,hm⟩:∃m,N-i=m+1:=⟨N-i-1,by omega⟩
   have hm':N-(i+1)=m:=by omega
   rw[List.set_append_right _ _ (by simp),hm,hm',List.length_map,List.length_range,Nat.sub_self,List.replicate_succ,List.set_cons_zero,List.range_succ,List.map_append,List.append_assoc]
   rfl
  rw[hs] at a2
  rw[Nat.zero_add] at a1
  simp only[a1,a2,wi,g9,iC,VX,Nat.reduceEqDiff,Nat.reduceAdd,Nat.reduceLeDiff,Nat.reduceLT,Nat.reduceSub]
  exact⟨i+1,by omega,by omega,by rw[List.replicate_succ'],by (repeat' apply And.intro)<;>first | rfl | trivial | assumption⟩
 ·have oJ:i=N:=by omega
  subst oJ
  simp only[AJ,g3,g8,g9,cN,iC,VX,Nat.reduceEqDiff,Nat.reduceAdd,Nat.reduceLeDiff,Nat.reduceLT,Nat.reduceSub]
  refine⟨List.prefix_append _ _,H.length,0,i,(List.range i).map fun k=>⟨H.length+1+k,0,i,List.replicate i 0⟩,by rw[List.length_replicate],by rw[List.length_replicate];exact Nat.le_refl _,⟨?_,Nat.le_refl _,by simp,?_,?_⟩,?_⟩
  ·rw[B9,bA,Nat.sub_self,List.replicate_zero,List.append_nil,List.map_map]
   simp[pK,Function.comp_def]
  ·rw[List.map_map]
   exact TD (H.length+1) i
  ·intro r hr
   obtain⟨k,hk,rfl⟩:=List.mem_map.1 hr
   rw[List.mem_range] at hk
   refine⟨by simp only;omega,by simp;omega,by simp only;omega,by simp,?_⟩
   have:H.length+1+k=H.length+(k+1):=by omega
   simp only[this]
   rw[PB,tQ,cG,List.getElem?_replicate,if_pos hk]
  ·rw[List.map_map]
   apply List.ext_getElem?
   intro k
   rw[List.getElem?_map,List.getElem?_replicate]
   by_cases hk:k<i
   ·simp[hk,List.getElem?_range]
   ·simp[hk]
end Go.PM
namespace Go.PM
structure amA (s:DT):Prop where
 b4:s.b.length≤400000000
 e4:s.e.length≤400000000
 g4:s.g.length≤400000000∧∀x∈s.g,x.length≤400000000
 bs:∀x∈s.b,x.size≤1000000000
 es:∀x∈s.e,x.size≤1000000000
 gs:∀x∈s.g,∀y∈x,y.size≤1000000000
theorem amA.g9 {s:DT} (h:amA s):s.g.length≤1000000000∧∀x∈s.g,x.length≤1000000000:=⟨by have:=h.g4.1;omega,fun x hx=>by have:=h.g4.2 x hx;omega⟩
end Go.PM
namespace Go.PM
def uD {β:Type} (k:Int):List (List β)→List (List ByteArray)
 | []=>[]
 | x::xs=>jC k x.length::uD (k+x.length) xs
def dA {β:Type} (xs:List (List β)):Nat:=(xs.map List.length).sum
section
variable {β:Type}
theorem Ln (xs:List (List β)) (k:Int):(uD k xs).length=xs.length:=by
 induction xs generalizing k with
 | nil=>rfl
 | cons x xs ih=>simp[uD,ih]
theorem Jf {xs:List (List β)} {i:Nat} {x:List β} (h:xs[i]? = some x):dA (xs.take (i+1))=dA (xs.take i)+x.length:=by
 rw[List.take_add_one,h]
 simp[dA]
theorem Fq {xs:List (List β)} {i:Nat} {x:List β} {k:Int} (h:xs[i]? = some x):(uD k xs)[i]? = some (jC (k+dA (xs.take i)) x.length):=by
 induction xs generalizing i k with
 | nil=>cases h
 |
  cons y ys ih =>
  cases i with
  | zero=>injection h with h;subst h;simp[uD,dA]
  |
   succ i =>
   simp only[uD,List.getElem?_cons_succ] at h ⊢
   rw[ih h]
   simp only[List.take_succ_cons,dA,List.map_cons,List.sum_cons,Int.natCast_add]
   rw[Int.add_assoc]
theorem NA {xs:List (List β)} (i:Nat):dA (xs.take i)≤dA xs:=by
 induction xs generalizing i with
 | nil=>simp[dA]
 |
  cons x xs ih =>
  cases i with
  | zero=>simp[dA]
  |
   succ i =>
   have:=ih i
   simp only[List.take_succ_cons,dA,List.map_cons,List.sum_cons] at this ⊢
   omega
end
theorem Es (k:Int) (xs:List (List ByteArray)) (hk:0≤k∧k≤10000000) (hn:xs.length≤10000000) (ht:dA xs≤10000000):TC 83 [vS (uD k xs),VI k] (VI (k+dA xs)):=by
 refine TC.walk ⟨true,false⟩ En rfl (Nat.le_of_ble_eq_true rfl) (Db (Fo _) rfl) rfl ?_
 simp only[zT,vZ,VX,Nat.reduceEqDiff,Nat.reduceAdd]
 refine aQ (fun(i:Nat) ρ H=>i≤xs.length∧H=[]∧ρ 0=vS (uD k xs)∧ρ 1=VI (k+dA (xs.take i))∧ρ 5=VI i) (fun i=>xs.length-i) 0 ⟨Nat.zero_le _,rfl,rfl,by simp only[VX,Nat.reduceEqDiff,Nat.reduceAdd];simp[dA],rfl⟩ ?_
 rintro i ρ H ⟨hi,rfl,h0,h1,h5⟩
 have hlen:=Ln xs k
 by_cases cN:(i:Int)<(xs.length:Int)
 ·obtain⟨x,hx⟩:∃x,xs[i]? = some x:=⟨_,List.getElem?_eq_getElem (by omega)⟩
  have e1:=aK (f:=dT) (t := .op) (H:=[]) (size:=1) (k := .i64) (Fq (k:=k) hx) rfl
  have l1:=Jf hx
  have l2:=NA (xs:=xs) (i+1)
  have e3:=rB (k+dA (xs.take i)) x.length (by omega) (by omega)
  have kU:¬(k+(dA (xs.take i):Int)+(x.length:Int))<0:=by omega
  have wi:IntKind.i64.wrap ((i:Int)+1)=((i+1:Nat):Int):=wrapN (i+1) (by omega) (by omega)
  simp only[oQ,h0,h1,h5,cN,e1,e3,wi,hlen,kU,eq_self,VX,Nat.reduceEqDiff,Nat.reduceAdd]
  refine⟨i+1,by omega,by omega,?_⟩
  rw[l1,Int.natCast_add,←Int.add_assoc]
  (repeat' apply And.intro)<;>first | rfl | trivial
 ·have oJ:i=xs.length:=by omega
  subst oJ
  simp only[oQ,h0,h1,h5,cN,hlen,VX,Nat.reduceEqDiff,Nat.reduceAdd]
  rw[List.take_of_length_le (Nat.le_refl _)]
  exact aF rfl
theorem Er {lo b g c:Nat} {H:aA} (rs:List (A9 ByteArray)) (k:Int) (hr:aI H b g=some (rs.map pK,1,true)) (hR:NZ sV 1 lo H.length b H rs) (eW:lo≤b) (hk:0≤k∧k≤10000000) (hn:rs.length≤10000000) (ht:dA (rs.map (·.xs))≤10000000) :
  jO 71 [.ref b g 0 rs.length c,VI k] lo H fun r H'=>r=VI (k+dA (rs.map (·.xs)))∧H'.length=H.length∧(∀b' g' x,(∀r∈rs,r.b≠b')→aI H b' g'=some x→aI H' b' g'=some x) ∧
   ∀i r,rs[i]? = some r→aI H' r.b r.g=some ((jC (k+dA ((rs.map (·.xs)).take i)) r.xs.length).map sV,1,true):=by
 refine jO.walk ⟨true,false⟩ wG (Nat.le_of_ble_eq_true rfl) ?_
 simp only[sN,pN,VX,Nat.reduceEqDiff,Nat.reduceAdd]
 refine aQ (fun(i:Nat) ρ H1=>i≤rs.length∧H1.length=H.length∧(∀b' g' x,(∀r∈rs,r.b≠b')→aI H b' g'=some x→aI H1 b' g'=some x) ∧
   (∀j r,rs[j]? = some r→aI H1 r.b r.g=some ((if j<i then jC (k+dA ((rs.map (·.xs)).take j)) r.xs.length else r.xs).map sV,1,true))∧ρ 0 = .ref b g 0 rs.length c∧ρ 1=VI (k+dA ((rs.map (·.xs)).take i))∧ρ 5=VI i) (fun i=>rs.length-i) 0
  ⟨Nat.zero_le _,rfl,fun _ _ _ _ h=>h,fun j r h=>by rw[if_neg (by omega)];exact(hR.row r (List.mem_of_getElem? h)).2.2.2.2,rfl,by simp only[VX,Nat.reduceEqDiff,Nat.reduceAdd];simp[dA],rfl⟩ ?_
 rintro i ρ H1 ⟨hi,hH1,hold,Zb,h0,h1,h5⟩
 have hR1:=hold b g _ (fun r hr=>(hR.row r hr).2.2.1) hr
 have el:=dU (o:=0) (n:=rs.length) (c:=c) hR1
 by_cases cN:(i:Int)<(rs.length:Int)
 ·obtain⟨r,Tj⟩:∃r,rs[i]? = some r:=⟨_,List.getElem?_eq_getElem (by omega)⟩
  have UA:=hR.row r (List.mem_of_getElem? Tj)
  have hxi:(rs.map (·.xs))[i]? = some r.xs:=by simp[Tj]
  have l1:=Jf hxi
  have l2:=NA (xs:=rs.map (·.xs)) (i+1)
  have e1:=bD (o:=0) (n:=rs.length) (c:=c) (i:=i) (k := .i64) hR1 (by omega)
  have e2:cR false 1 (.ptr b g i 0) H1=some (pK r):=by rw[rL (f:=pK) hR1 Tj];rfl
  have wi:IntKind.i64.wrap ((i:Int)+1)=((i+1:Nat):Int):=wrapN (i+1) (by omega) (by omega)
  simp only[kS,h0,h1,h5,cN,el,e1,e2,Nat.zero_add,VX,Nat.reduceEqDiff,Nat.reduceAdd]
  have rN:=Zb i r Tj
  rw[if_neg (by omega)] at rN
  refine fC rfl ((qW r.xs _ rN (Nat.le_refl _) UA.1 (by omega) (by omega)).mono ?_)
  rintro v H2 ⟨rfl,rfl⟩
  simp only[h5,wi,VX,Nat.reduceEqDiff,Nat.reduceAdd]
  refine⟨i+1,by omega,by omega,by simpa using hH1,fun b' g' x pZ h=>cD (pZ r (List.mem_of_getElem? Tj)) (hold b' g' x pZ h),fun j r' hj => ?_,h0,?_,rfl⟩
  ·by_cases Ke:j=i
   ·subst Ke
    rw[Tj] at hj
    injection hj with hj
    subst hj
    rw[if_pos (by omega),dM rN,List.drop_length,List.append_nil]
   ·have fH:r.b≠r'.b:=fun he=>Ke (by
     have h1:(rs.map (·.b))[i]? = some r.b:=by simp[Tj]
     have h2:(rs.map (·.b))[j]? = some r.b:=by simp[hj,he]
     exact RI hR.nd h2 h1)
    rw[cD fH (Zb j r' hj)]
    by_cases bB:j<i
    ·rw[if_pos bB,if_pos (by omega)]
    ·rw[if_neg bB,if_neg (by omega)]
  ·rw[l1,Int.natCast_add,←Int.add_assoc]
 ·have oJ:i=rs.length:=by omega
  subst oJ
  simp only[kS,h0,h1,h5,cN,el,VX,Nat.reduceEqDiff,Nat.reduceAdd]
  rw[List.take_of_length_le (by simp)]
  refine⟨rfl,hH1,hold,fun j r hj => ?_⟩
  have:=Zb j r hj
  rw[if_pos (List.getElem?_eq_some_iff.1 hj).1] at this
  exact this
theorem CI {lo:Nat} {H:aA} (k:Int):jO 71 [.tree [] .nil,VI k] lo H fun r H'=>r=VI k∧H'=H:=by
 refine jO.walk ⟨true,false⟩ wG (Nat.le_of_ble_eq_true rfl) ?_
 simp only[sN,pN,VX,Nat.reduceEqDiff,Nat.reduceAdd]
 refine aQ (fun(_:Unit) ρ H1=>H1=H∧ρ 0 = .tree [] .nil∧ρ 1=VI k∧ρ 5=VI 0) (fun _=>0) () ⟨rfl,rfl,rfl,rfl⟩ ?_
 rintro _ ρ H1 ⟨rfl,h0,h1,h5⟩
 simp only[kS,h0,h1,h5,List.length_nil,Int.natCast_zero,Int.lt_irrefl,Int.reduceLT,VX,Nat.reduceEqDiff,Nat.reduceAdd]
theorem adE {lo hi kP:Nat} {bH:List (List ByteArray)} {H:aA} {v:VV} {k:Int} {K:VV→aA→Prop} (hv:RG sV 1 bH lo hi H v) (eW:kP≤lo) (hk:0≤k∧k≤10000000) (hn:bH.length≤10000000) (ht:dA bH≤10000000)
  (hK:∀H',H'.length=H.length→RG sV 1 (uD k bH) lo hi H' v→(∀b g x,b<lo∨hi≤b→aI H b g=some x→aI H' b g=some x)→K (VI (k+dA bH)) H') :
  cQ 71 [v,VI k] kP H K:=by
 rcases hv with⟨rfl,rfl⟩ | ⟨b,g,c,rs,h1,h2,rfl,h4,h5,rfl,h7⟩
 ·refine fC rfl ((CI k).mono ?_)
  rintro r H' ⟨rfl,rfl⟩
  have:=hK H' rfl (.inl ⟨rfl,rfl⟩) fun _ _ _ _ h=>h
  simpa[dA] using this
 ·have h7':NZ sV 1 kP H.length b H rs:=⟨h7.nd,fun r hr=>⟨Nat.le_trans eW (h7.row r hr).1,lF (h7.row r hr).2.2.2.2,(h7.row r hr).2.2⟩⟩
  rw[List.length_map] at h4 hn ⊢
  refine fC rfl ((Er (lo:=kP) (c:=c) rs k h5 h7' (Nat.le_trans eW h1) hk hn ht).mono ?_)
  rintro r H' ⟨rfl,hl,hold,sG⟩
  refine hK _ hl ?_ fun b' g' x pZ h=>hold b' g' x (fun r hr=>by have:=h7.row r hr;omega) h
  have Tj:∀i,i<rs.length→∃r,rs[i]? = some r:=fun i hi=>⟨_,List.getElem?_eq_getElem hi⟩
  have hml:(uD k (rs.map (·.xs))).length=rs.length:=by rw[Ln,List.length_map]
  let XV:List (A9 ByteArray):=rs.zipWith (fun r x=>{ r with xs:=x }) (uD k (rs.map (·.xs)))
  have vA:∀(i:Nat) (r:A9 ByteArray),rs[i]? = some r→XV[i]? = some { r with xs:=jC (k+dA ((rs.map (·.xs)).take i)) r.xs.length }:=fun i r hr=>by
   have hm:=Fq (k:=k) (xs:=rs.map (·.xs)) (i:=i) (x:=r.xs) (by simp[hr])
   show (List.zipWith _ _ _)[i]? = _
   rw[List.getElem?_zipWith,hr,hm]
  have BJ:XV.length=rs.length:=by simp[XV,hml]
  have hex:∀ {γ:Type} (F G:A9 ByteArray→γ),(∀(i:Nat) (r:A9 ByteArray),rs[i]? = some r→F { r with xs:=jC (k+dA ((rs.map (·.xs)).take i)) r.xs.length }=G r)→XV.map F=rs.map G:=fun F G hFG=>by
   apply List.ext_getElem?
   intro i
   rcases Nat.lt_or_ge i rs.length with h | h
   ·obtain⟨r,hr⟩:=Tj i h
    rw[List.getElem?_map,List.getElem?_map,vA i r hr,hr]
    simp only[Option.map_some,hFG i r hr]
   ·rw[List.getElem?_eq_none (by rw[List.length_map,BJ];exact h),List.getElem?_eq_none (by rw[List.length_map];exact h)]
  have asY:XV.map (·.b)=rs.map (·.b):=hex _ _ fun _ _ _=>rfl
  have TE:XV.map pK=rs.map pK:=hex _ _ fun i r _=>by simp[pK,Se]
  have avV:XV.map (·.xs)=uD k (rs.map (·.xs)):=by
   apply List.ext_getElem?
   intro i
   rcases Nat.lt_or_ge i rs.length with h | h
   ·obtain⟨r,hr⟩:=Tj i h
    rw[List.getElem?_map,vA i r hr,Fq (x:=r.xs) (by simp[hr])]
    rfl
   ·rw[List.getElem?_eq_none (by rw[List.length_map,BJ];exact h),List.getElem?_eq_none (by rw[hml];exact h)]
  refine .inr ⟨b,g,c,XV,h1,h2,by rw[hml,List.length_map],by rw[hml];exact h4,?_,avV,by rw[asY];exact h7.nd,fun r' FR => ?_⟩
  ·rw[TE]
   exact hold _ _ _ (fun r hr=>(h7.row r hr).2.2.1) h5
  ·obtain⟨i,hi⟩:=List.getElem?_of_mem FR
   obtain⟨r,hr⟩:=Tj i (by rw[←BJ];exact(List.getElem?_eq_some_iff.1 hi).1)
   rw[vA i r hr] at hi
   injection hi with hi
   subst hi
   have hm:=h7.row r (List.mem_of_getElem? hr)
   exact⟨hm.1,hm.2.1,hm.2.2.1,by rw[qV];exact hm.2.2.2.1,sG i r hr⟩
def svT (k:Int) (s:DT):DT:=⟨jC k s.b.length,uD (k+s.b.length) s.g,jC (k+s.b.length+dA s.g) s.e.length⟩
def X3 (s:DT):Nat:=s.b.length+dA s.g+s.e.length
theorem Hk (s t:DT) (hb:s.b.length≤1000000000) (hn:s.g.length≤1000000000) (Rr:∀x∈s.g,x.length≤1000000000) (he:s.e.length≤1000000000):TC 22 [Rn s,Rn t] (VB (decide (s.b=t.b∧s.g=t.g∧s.e=t.e))):=by
 refine TC.walk ⟨true,false⟩ Io rfl (Nat.le_of_ble_eq_true rfl) (Db (yE _) (yE _)) rfl ?_
 have e1:=oZ s.b t.b hb
 have e2:=GK s.g t.g hn Rr
 have e3:=oZ s.e t.e he
 by_cases h1:s.b=t.b
 ·rw[decide_eq_true h1] at e1
  by_cases h2:s.g=t.g
  ·rw[decide_eq_true h2] at e2
   by_cases h3:s.e=t.e
   ·rw[decide_eq_true h3] at e3
    rw[decide_eq_true ⟨h1,h2,h3⟩]
    simp only[oL,lS,Rn,e1,e2,e3,iE,List.getElem?_cons_zero,List.getElem?_cons_succ,VX,Nat.reduceEqDiff,Nat.reduceAdd]
    exact aF rfl
   ·rw[decide_eq_false h3] at e3
    rw[decide_eq_false (fun h=>h3 h.2.2)]
    simp only[oL,lS,Rn,e1,e2,e3,iE,List.getElem?_cons_zero,List.getElem?_cons_succ,VX,Nat.reduceEqDiff,Nat.reduceAdd]
    exact aF rfl
  ·rw[decide_eq_false h2] at e2
   rw[decide_eq_false (fun h=>h2 h.2.1)]
   simp only[oL,lS,Rn,e1,e2,iE,List.getElem?_cons_zero,List.getElem?_cons_succ,VX,Nat.reduceEqDiff,Nat.reduceAdd]
   exact aF rfl
 ·rw[decide_eq_false h1] at e1
  rw[decide_eq_false (fun h=>h1 h.1)]
  simp only[oL,lS,Rn,e1,iE,List.getElem?_cons_zero,List.getElem?_cons_succ,VX,Nat.reduceEqDiff,Nat.reduceAdd]
  exact aF rfl
theorem FO (k:Int) (s:DT) (hk:0≤k∧k≤1000000) (hn:s.g.length≤1000000) (ht:X3 s≤1000000):TC 24 [Rn (svT k s),VI k] (VI (k+X3 s)):=by
 unfold X3 at ht ⊢
 refine TC.walk ⟨true,false⟩ Fw rfl (Nat.le_of_ble_eq_true rfl) (Db (yE _) rfl) rfl ?_
 have e1:=rB k s.b.length (by omega) (by omega)
 have e2:=Es (k+s.b.length) s.g (by omega) (by omega) (by omega)
 have e3:=rB (k+s.b.length+dA s.g) s.e.length (by omega) (by omega)
 have h1:¬(k+(s.b.length:Int))<0:=by omega
 have h2:¬(k+(s.b.length:Int)+(dA s.g:Int))<0:=by omega
 have h3:¬(k+(s.b.length:Int)+(dA s.g:Int)+(s.e.length:Int))<0:=by omega
 have h4:k+((s.b.length+dA s.g+s.e.length:Nat):Int)=k+(s.b.length:Int)+(dA s.g:Int)+(s.e.length:Int):=by omega
 rw[h4]
 simp only[AZ,zD,Rn,svT,e1,e2,e3,h1,h2,h3,iE,List.getElem?_cons_zero,List.getElem?_cons_succ,VX,Nat.reduceEqDiff,Nat.reduceAdd]
 exact aF rfl
theorem PA.cell {α:Type} {f:α→VV} {e lo hi:Nat} {H:aA} {v:VV} {bH:List α} (h:PA f e bH lo hi H v):bI v=true:=by
 rcases h with⟨rfl,rfl⟩ | ⟨b,g,c,h1,h2,rfl,h3⟩<;>rfl
theorem RG.cell {α:Type} {f:α→VV} {e lo hi:Nat} {H:aA} {v:VV} {bH:List (List α)} (h:RG f e bH lo hi H v):bI v=true:=by
 rcases h with⟨rfl,rfl⟩ | ⟨b,g,c,rs,h1,h2,rfl,h3⟩<;>rfl
theorem YF {lo hi kP:Nat} {s:DT} {H:aA} {v:VV} {k:Int} {K:VV→aA→Prop} (hv:IX s lo hi H v) (eW:kP≤lo) (hk:0≤k∧k≤1000000) (hn:s.g.length≤1000000) (ht:X3 s≤1000000)
  (hK:∀H',H'.length=H.length→IX (svT k s) lo hi H' v→(∀b g x,b<lo∨hi≤b→aI H b g=some x→aI H' b g=some x)→K (VI (k+X3 s)) H') :
  cQ 23 [v,VI k] kP H K:=by
 unfold X3 at ht hK
 obtain⟨a,b,c,m1,m2,rfl,l1,l2,l3,ha,hb,hc⟩:=hv
 have ca:=ha.cell
 have cb:=hb.cell
 have cc:=hc.cell
 refine fC rfl (jO.walk ⟨true,false⟩ Fp (Nat.le_of_ble_eq_true rfl) ?_)
 simp only[Bj,xP,ca,cb,cc,Fg,iE,List.all_cons,List.all_nil,List.getElem?_cons_zero,List.getElem?_cons_succ,VX,Nat.reduceEqDiff,Nat.reduceAdd]
 refine UP ha eW (by omega) (by omega) fun H1 h1 h2 h3 => ?_
 have Aa:=hb.bU (H':=H1) fun b g x k1 k2=>h3 b g x (by omega)
 have hc1:=hc.bU (H':=H1) fun b g x k1 k2=>h3 b g x (by omega)
 simp only[iE,List.getElem?_cons_zero,List.getElem?_cons_succ,VX,Nat.reduceEqDiff,Nat.reduceAdd]
 refine adE Aa (by omega) (by omega) (by omega) (by omega) fun H2 h4 h5 h6 => ?_
 have ha2:=h2.bU (H':=H2) fun b g x k1 k2=>h6 b g x (by omega)
 have XO:=hc1.bU (H':=H2) fun b g x k1 k2=>h6 b g x (by omega)
 simp only[iE,List.getElem?_cons_zero,List.getElem?_cons_succ,VX,Nat.reduceEqDiff,Nat.reduceAdd]
 refine UP XO (by omega) (by omega) (by omega) fun H3 h7 h8 h9 => ?_
 have ha3:=ha2.bU (H':=H3) fun b g x k1 k2=>h9 b g x (by omega)
 have hb3:=h5.bU (H':=H3) fun b g x k1 k2=>h9 b g x (by omega)
 simp only[VX,Nat.reduceEqDiff,Nat.reduceAdd]
 have h4':k+((s.b.length+dA s.g+s.e.length:Nat):Int)=k+(s.b.length:Int)+(dA s.g:Int)+(s.e.length:Int):=by omega
 rw[←h4']
 exact hK H3 (by omega) ⟨a,b,c,m1,m2,rfl,l1,l2,l3,ha3,hb3,h8⟩ fun b g x k1 k2=>h9 b g x (by omega) (h6 b g x (by omega) (h3 b g x (by omega) k2))
end Go.PM
namespace Go.PM
open Go.Lib
section
variable {α:Type} {f:α→VV} {e:Nat}
def Nr (f:α→VV) (e:Nat) (bH:List (List α)) (lo hi:Nat) (H:aA) (v:VV):Prop :=
 (v = .tree [] .nil∧bH=[])∨∃b g rs,lo≤b∧b<hi∧v = .ref b g 0 bH.length bH.length∧aI H b g=some (rs.map pK,1,true)∧rs.map (·.xs)=bH∧NZ f e lo hi b H rs
theorem Nr.rg {bH:List (List α)} {lo hi:Nat} {H:aA} {v:VV} (h:Nr f e bH lo hi H v):RG f e bH lo hi H v:=by
 rcases h with h | ⟨b,g,rs,h1,h2,h3,h5,h6,h7⟩
 ·exact .inl h
 ·exact .inr ⟨b,g,_,rs,h1,h2,h3,Nat.le_refl _,h5,h6,h7⟩
theorem Nr.bU {bH:List (List α)} {lo hi:Nat} {H H':aA} {v:VV} (h:Nr f e bH lo hi H v) (hk:cS lo hi H H'):Nr f e bH lo hi H' v:=by
 rcases h with h | ⟨b,g,rs,h1,h2,h3,h5,h6,h7⟩
 ·exact .inl h
 ·exact .inr ⟨b,g,rs,h1,h2,h3,hk _ _ _ h1 h2 h5,h6,h7.nd,fun r hr=>by
   obtain⟨k1,k2,k3,k4,k5⟩:=h7.row r hr
   exact⟨k1,k2,k3,k4,hk _ _ _ k1 k2 k5⟩⟩
theorem Nr.wide {bH:List (List α)} {lo hi kP pL:Nat} {H:aA} {v:VV} (h:Nr f e bH lo hi H v) (hl:kP≤lo) (hh:hi≤pL):Nr f e bH kP pL H v:=by
 rcases h with h | ⟨b,g,rs,h1,h2,h3,h5,h6,h7⟩
 ·exact .inl h
 ·exact .inr ⟨b,g,rs,by omega,by omega,h3,h5,h6,h7.nd,fun r hr=>by
   obtain⟨k1,k2,k3,k4,k5⟩:=h7.row r hr
   exact⟨by omega,by omega,k3,k4,k5⟩⟩
theorem Nr.fQ {bH:List (List α)} {lo hi:Nat} {H:aA} {v:VV} (h:Nr f e bH lo hi H v):bI v=true∧aB v=[v]∧isAny v=false:=by
 rcases h with⟨rfl,rfl⟩ | ⟨b,g,rs,h1,h2,rfl,h3⟩<;>exact⟨rfl,rfl,rfl⟩
theorem Nr.aiL {bH:List (List α)} {lo hi:Nat} {H:aA} {v:VV} (h:Nr f e bH lo hi H v):pT v H=some (VI bH.length):=by
 rcases h with⟨rfl,rfl⟩ | ⟨b,g,rs,h1,h2,rfl,h5,h6,h7⟩
 ·rfl
 ·exact dU h5
theorem Nr.snoc {bH:List (List α)} {lo kP hi:Nat} {H:aA} {v:VV} (h:Nr f e bH lo hi H v) (eW:kP≤lo) (hn:bH.length≤1000000000) (r:A9 α) (hhi:hi≤r.b) (D1:lo≤r.b) (hc:r.xs.length≤r.c) (hr:aI H r.b r.g=some (r.xs.map f,e,true)) :
  ∃v' H3,eR kP 1 24 v [.ref r.b r.g 0 r.xs.length r.c] H=some (v',H3)∧Nr f e (bH++[r.xs]) lo H3.length H3 v'∧(∀b' g' x,b'<lo→aI H b' g'=some x→aI H3 b' g'=some x)∧H.length≤H3.length ∧
   (∀n,n≤lo→zN n H→zN n H3)∧(∀H0:aA,H0.length≤lo→H0 <+: H→H0 <+: H3)∧(∀b' g' x,aI H b' g'=some x→(∀g0 n0 c0,v ≠ .ref b' g0 0 n0 c0)→aI H3 b' g'=some x):=by
 have hb:=lF hr
 rcases h with⟨rfl,rfl⟩ | ⟨b,g,rs,h1,h2,rfl,h5,h6,h7⟩
 ·refine⟨.ref H.length 0 0 1 1,H++[.row 0 [pK r] 1 true],by simp[eR,pK],.inr ⟨H.length,0,[r],by omega,by simp,rfl,gH,rfl,by simp,fun s hs => ?_⟩,fun _ _ _ _ h=>iA h,by simp,fun n hn hO=>hO.app (by simp[mM,dD,pK];omega),fun H0 _ hp=>QN hp,fun _ _ _ h _=>iA h⟩
  rw[List.mem_singleton] at hs
  subst hs
  exact⟨D1,by simp;omega,by omega,hc,iA hr⟩
 ·subst h6
  rw[List.length_map] at hn ⊢
  have tB:=iB (f:=pK) (xs:=rs) (x:=r) (lo:=kP) (bytes:=24) h5 rfl (by omega) (by decide) (by decide) (by omega)
  refine⟨_,_,tB,.inr ⟨b,g+1,rs++[r],h1,by rw[List.length_set];exact lF h5,by simp,dM h5,by simp,?_,fun s hs => ?_⟩,fun b' g' x pZ h=>cD (by omega) h,by simp,fun n hn hO=>hO.set (by omega) ?_,fun H0 hl hp=>Ba hp (by omega),fun b' g' x h fH=>cD (fun he=>fH g _ _ (by rw[he])) h⟩
  ·rw[List.map_append,List.nodup_append]
   refine⟨h7.nd,by simp,fun a ha c hc' => ?_⟩
   obtain⟨s,hs,rfl⟩:=List.mem_map.1 ha
   have:=h7.row s hs
   simp only[List.map_cons,List.map_nil,List.mem_singleton] at hc'
   omega
  ·rcases List.mem_append.1 hs with hs | hs
   ·obtain⟨k1,k2,k3,k4,k5⟩:=h7.row s hs
    exact⟨k1,by rw[List.length_set];exact lF k5,k3,k4,cD (by omega) k5⟩
   ·rw[List.mem_singleton] at hs
    subst hs
    exact⟨D1,by rw[List.length_set];exact hb,by omega,hc,cD (by omega) hr⟩
  ·rw[C7]
   intro x hx
   obtain⟨s,hs,rfl⟩:=List.mem_map.1 hx
   rcases List.mem_append.1 hs with hs | hs
   ·have:=h7.row s hs
    simp[pK,dD];omega
   ·rw[List.mem_singleton] at hs
    subst hs
    simp[pK,dD];omega
end
def MO {α:Type} (f:α→VV) (e:Nat) (o:Option (List α)) (lo hi:Nat) (H:aA) (v:VV):Prop:=match o with
 | none=>v = .tree [] .nil
 | some ys=>Ml f e ys lo hi H v
theorem Ml.bU {α:Type} {f:α→VV} {e:Nat} {ys:List α}:∀ {lo hi H H' v},Ml f e ys lo hi H v→cS lo hi H H'→Ml f e ys lo hi H' v:=by
 rintro lo hi H H' v ⟨b,g,c,h1,h2,h3,h4,h5⟩ hk
 exact⟨b,g,c,h1,h2,h3,h4,hk _ _ _ h1 h2 h5⟩
theorem MO.bU {α:Type} {f:α→VV} {e:Nat} {o:Option (List α)}:∀ {lo hi H H' v},MO f e o lo hi H v→cS lo hi H H'→MO f e o lo hi H' v:=by
 intro lo hi H H' v h hk
 cases o with
 | none=>exact h
 | some ys=>exact Ml.bU h hk
theorem MO.lg {α:Type} {f:α→VV} {e lo hi:Nat} {H:aA} {v:VV} {o:Option (List α)} (h:MO f e o lo hi H v):PA f e (o.getD []) lo hi H v:=by
 cases o with
 | none=>exact .inl ⟨h,rfl⟩
 |
  some ys =>
  obtain⟨b,g,c,h1⟩:=h
  exact .inr ⟨b,g,c,h1⟩
theorem Gs {n n':Nat} {L:aA} (h:n≤n') (hL:dE n' L=true):dE n L=true:=by
 unfold dE at hL ⊢
 rw[List.all_eq_true] at hL ⊢
 intro x hx
 have:=hL x hx
 cases x with
 | dead=>rfl
 | row g es e w=>exact Bo h es this
theorem yH {n:Nat} {H:aA} (h:n≤H.length):A7 H (List.replicate n .dead++List.replicate (H.length-n) .dead):=by
 refine⟨by simp;omega,fun b g es e w hb => ?_⟩
 rw[List.replicate_append_replicate] at hb
 have:=List.eq_of_mem_replicate (List.mem_of_getElem? hb)
 cases this
theorem yF {n k:Nat}:dE n (List.replicate k .dead)=true:=by
 unfold dE
 rw[List.all_eq_true]
 intro x hx
 rw[List.eq_of_mem_replicate hx]
def JA (q:Rat):ByteArray:=⟨(EO q).toArray⟩
def pX (qs:List Rat):Option (List ByteArray):=if qs.all wE=true then some (qs.map JA) else none
theorem Q8 {qs:List Rat} {q:Rat} (hq:q∈qs) (h:wE q=false):pX qs=none:=if_neg (fun ha=>by
 rw[List.all_eq_true] at ha
 rw[ha q hq] at h
 cases h)
theorem Nb {qs:List Rat} (h:∀q∈qs,wE q=true):pX qs=some (qs.map JA):=if_pos (List.all_eq_true.2 h)
set_option maxHeartbeats 1000000 in
theorem vO (qs:List Rat) (hn:qs.length≤1000000) (hb:∀q∈qs,dL q≤1099511627776):FC 111 [aY bE qs] (R0 (MO sV 1 (pX qs)) (pX qs).isSome):=by
 refine FC.Kt ⟨true,false⟩ JK (Nat.le_of_ble_eq_true rfl) fun n => ?_
 have e0:∀K,mB false [.string ⟨#[]⟩] 0 [] K=some (.ref K.length 0 0 0 0,K++[.row 0 [] 1 true]):=fun K=>jR rfl
 simp only[EY,CD,e0,List.length_replicate,iC,VX,Nat.reduceEqDiff,Nat.reduceAdd,Nat.reduceLeDiff,Nat.reduceLT,Nat.reduceSub]
 refine F5 (fun(i:Nat) ρ H=>i≤qs.length∧(∀q∈qs.take i,wE q=true)∧H=List.replicate n cA.dead++[cA.row i (((qs.take i).map JA).map sV) 1 true]∧ρ 4 = .ref n i 0 i i∧ρ 10=aY bE qs∧ρ 11=VI qs.length∧ρ 12=VI i) (fun i=>qs.length-i) 0 ⟨Nat.zero_le _,by simp,rfl,rfl,rfl,rfl,rfl⟩ ?_
 rintro i ρ H ⟨hi,qR,rfl,g4,g10,g11,g12⟩
 have rN:aI (List.replicate n cA.dead++[cA.row i (((qs.take i).map JA).map sV) 1 true]) n i=some (((qs.take i).map JA).map sV,1,true):=by rw[BF,bA]
 by_cases cN:(i:Int)<(qs.length:Int)
 ·obtain⟨q,hq⟩:∃q,qs[i]? = some q:=⟨_,List.getElem?_eq_getElem (by omega)⟩
  have hqm:=List.mem_of_getElem? hq
  have a1:=fun H=>aK (f:=bE) (t := .op) (H:=H) (size:=3) (k := .i64) hq rfl
  have wi:IntKind.i64.wrap ((i:Int)+1)=((i+1:Nat):Int):=wrapN (i+1) (by omega) (by omega)
  have e2:=JX q (hb q hqm)
  have s1:=Kq (lo:=n) (H:=List.replicate n cA.dead++[cA.row i (((qs.take i).map JA).map sV) 1 true]) (q:=q) (by simp)
  have s2:=Ux (H:=List.replicate n cA.dead++[cA.row i (((qs.take i).map JA).map sV) 1 true]) (K:=[]) (q:=q)
  cases hf:wE q with
  |
   false =>
   rw[hf] at e2
   rw[Q8 hqm hf]
   simp only[pF,g4,g10,g11,g12,cN,a1,e2,s1,s2,fD,iC,VX,Nat.reduceEqDiff,Nat.reduceAdd,Nat.reduceLeDiff,Nat.reduceLT,Nat.reduceSub]
   exact⟨_,yH (by simp),rfl,yF,.tree [] .nil,rfl,rfl⟩
  |
   true =>
   rw[hf] at e2
   have eL:∀H,mB false [.string ⟨#[]⟩] 1 [(0,aU (EO q))] H=some (.tree [sV (JA q)] (.cl 1),H):=fun H=>iD rfl rfl rfl
   have eS:∀H,cU 1 (.tree [sV (JA q)] (.cl 1)) H=some [sV (JA q)]:=fun H=>fA rfl rfl
   have eP:eR n 1 16 (.ref n i 0 i i) [sV (JA q)] (List.replicate n cA.dead++[cA.row i (((qs.take i).map JA).map sV) 1 true]++[.row 0 [bE q] 3 true])=some (.ref n (i+1) 0 (i+1) (i+1),(List.replicate n cA.dead++[cA.row (i+1) (((qs.take (i+1)).map JA).map sV) 1 true])++[.row 0 [bE q] 3 true]):=by
    rw[iB (f:=sV) (xs:=(qs.take i).map JA) (iA rN) (by simp;omega) (Nat.le_refl _) (by decide) (by decide) (by omega),lO hq]
    simp only[List.map_append,List.append_assoc,DD]
    rfl
   simp only[pF,g4,g10,g11,g12,cN,a1,e2,s1,s2,eL,eS,eP,wi,fD,iC,VX,Nat.reduceEqDiff,Nat.reduceAdd,Nat.reduceLeDiff,Nat.reduceLT,Nat.reduceSub]
   rw[List.take_left' (by simp)]
   refine⟨i+1,by omega,by rw[afH,xE (kV _ (dV fun _=>rfl)),DW],by omega,fun p hp => ?_,rfl,?_⟩
   ·rw[lO hq] at hp
    rcases List.mem_append.1 hp with h | h
    ·exact qR p h
    ·rw[List.mem_singleton] at h;subst h;exact hf
   ·simp only[oK,g10,g11,vH (kZ _),Ec (show n<(List.replicate n cA.dead++[cA.row i (((qs.take i).map JA).map sV) 1 true]).length by simp),VX,Nat.reduceEqDiff,Nat.reduceAdd,List.take_zero,iF,List.all_nil,List.length_nil,oK,Gy,vH]
 ·have oJ:i=qs.length:=by omega
  subst oJ
  rw[List.take_length] at qR rN
  rw[Nb qR]
  simp only[pF,g4,g10,g11,g12,cN,List.take_length,iC,VX,Nat.reduceEqDiff,Nat.reduceAdd,Nat.reduceLeDiff,Nat.reduceLT,Nat.reduceSub]
  refine⟨_,⟨rfl,fun _ _ _ _ _ h=>h⟩,by simp[dD,mM,kE],by simp only[dE,List.all_cons,List.all_nil,Bool.and_true];exact Gg (fun _=>rfl) _,.ref n qs.length 0 qs.length qs.length,rfl,⟨n,qs.length,qs.length,Nat.le_refl _,by simp,by simp,by simp,rN⟩⟩
def zA (m:List (List Rat)):Option (List (List ByteArray)):=m.mapM pX
theorem tP {n lo:Nat} {args iI:List VV} {F:Nat} {P:Nat→Nat→aA→VV→Prop} {ok:Bool} {H:aA} {K:VV→aA→Prop} (h:FC F iI (R0 P ok)) (tM:BE.contains F=true) (hf:args.mapM (PM.fz depth H)=some iI) (hO:zN n H)
  (hP:∀ {lo hi H H' v},P lo hi H v→cS lo hi H H'→P lo hi H' v) (hk:∀v H',H <+: H'→zN n H'→dD n v=true→P H.length H'.length H' v→K (.dS [v,.sc (.bool ok)]) H'):cQ F args lo H K:=by
 refine h.afS tM hf ?_
 rintro r L ⟨v,rfl,hv⟩ hr hL
 have hvo:dD H.length v=true:=by
  simp only[dD,mM,Bool.and_eq_true] at hr
  exact hr.1
 refine hk v _ (List.prefix_append _ _) (hO.pre ?_) (NQ hO.len v hvo) ?_
 ·exact Gs hO.len hL
 ·rw[List.length_append]
  exact hP hv cS.move
set_option maxHeartbeats 2000000 in
theorem Il (m:List (List Rat)) (hn:m.length≤1000000) (hb:∀r∈m,r.length≤1000000∧∀q∈r,dL q≤1099511627776):FC 149 [aY (aY bE) m] (R0 (CG ((zA m).getD [])) (zA m).isSome):=by
 refine FC.Kt ⟨true,false⟩ HX (Nat.le_of_ble_eq_true rfl) fun n => ?_
 have s0:bY n 1 (.ptr (n+1) 0 0 0) (.agg [.tree [] .nil]) (List.replicate n cA.dead++[cA.row 0 [.tree [] .nil] 1 true,.row 0 [.tree [] .nil] 1 true])=some (List.replicate n cA.dead++[cA.row 0 [.tree [] .nil] 1 true,.row 0 [.agg [.tree [] .nil]] 1 true]):=by
  rw[cJ (e:=1) (g:=0) (j:=0) (by rw[VA,tQ,bA]) (by exact Nat.zero_lt_one) (by omega) rfl rfl,ahB]
  rfl
 simp only[DJ,A8,s0,wF,List.length_replicate,List.length_cons,List.length_nil,List.append_assoc,List.cons_append,List.nil_append,tS,iC,VX,Nat.reduceEqDiff,Nat.reduceAdd,Nat.reduceLeDiff,Nat.reduceLT,Nat.reduceSub]
 refine aQ (fun(i:Nat) ρ H=>i≤m.length∧zN n H∧(∃x v bH,aI H n 0=some ([.tree [] .nil],1,true)∧aI H (n+1) 0=some ([x],1,true)∧aB x=[v]∧zA (m.take i)=some bH∧Nr sV 1 bH (n+2) H.length H v)∧ρ 2 = .ptr n 0 0 0∧ρ 4 = .ptr (n+1) 0 0 0∧ρ 10=aY (aY bE) m∧ρ 11=VI m.length∧ρ 12=VI i) (fun i=>m.length-i) 0
  ⟨Nat.zero_le _,⟨[.row 0 [.tree [] .nil] 1 true,.row 0 [.agg [.tree [] .nil]] 1 true],rfl,rfl⟩,⟨.agg [.tree [] .nil],.tree [] .nil,[],by rw[BF,bA],by rw[VA,tQ,bA],rfl,rfl,.inl ⟨rfl,rfl⟩⟩,rfl,rfl,rfl,rfl,rfl⟩ ?_
 rintro i ρ H ⟨hi,hO,⟨x,v,bH,CB,IQ,hx,Gp,hv⟩,g2,g4,g10,g11,g12⟩
 have DF:=lF IQ
 by_cases cN:(i:Int)<(m.length:Int)
 ·obtain⟨r,hr⟩:∃r,m[i]? = some r:=⟨_,List.getElem?_eq_getElem (by omega)⟩
  have UA:=hb r (List.mem_of_getElem? hr)
  have a1:=fun H=>aK (f:=aY bE) (t := .op) (H:=H) (size:=1) (k := .i64) hr rfl
  have wi:IntKind.i64.wrap ((i:Int)+1)=((i+1:Nat):Int):=wrapN (i+1) (by omega) (by omega)
  simp only[rV,g2,g4,g10,g11,g12,cN,a1,iC,VX,Nat.reduceEqDiff,Nat.reduceAdd,Nat.reduceLeDiff,Nat.reduceLT,Nat.reduceSub]
  refine tP (n:=n) (vO r UA.1 UA.2) rfl (VY (aF (kZ _))) hO MO.bU fun u H2 p2 hO2 _ hu => ?_
  cases ht:pX r with
  |
   none =>
   rw[ht] at hu
   have hu:u = .tree [] .nil:=hu
   subst hu
   have aeF:zA m=none:=mapM_none ht (List.mem_of_getElem? hr)
   rw[aeF]
   have s1:bY n 1 (.ptr n 0 0 0) (.agg [.tree [] .nil]) H2=some (H2.set n (.row 0 [.agg [.tree [] .nil]] 1 true)):=by
    rw[cJ (bX p2 CB) (by exact Nat.zero_lt_one) (Nat.le_refl _) rfl rfl]
    rfl
   have s2:cR true 1 (.ptr n 0 0 0) (H2.set n (.row 0 [.agg [.tree [] .nil]] 1 true))=some (.agg [.tree [] .nil]):=by
    rw[cO,dM (bX p2 CB)]
    rfl
   simp only[g2,g4,s1,s2,Option.isSome_none,iC,VX,Nat.reduceEqDiff,Nat.reduceAdd,Nat.reduceLeDiff,Nat.reduceLT,Nat.reduceSub]
   exact⟨_,yH (by rw[List.length_set];have:=p2.length_le;omega),rfl,yF,.agg [.tree [] .nil],rfl,_,rfl,.inl ⟨rfl,rfl⟩⟩
  |
   some ys =>
   rw[ht] at hu
   obtain⟨b,g,c,k1,k2,rfl,k3,k4⟩:=hu
   ·have eL:∀K,mB false [.slice none 0 0] 1 [(0,.ref b g 0 ys.length c)] K=some (.tree [.ref b g 0 ys.length c] (.cl 1),K):=fun K=>iD rfl rfl rfl
    have eS:∀K,cU 1 (.tree [.ref b g 0 ys.length c] (.cl 1)) K=some [.ref b g 0 ys.length c]:=fun K=>fA rfl rfl
    obtain⟨v',H3,ap,X5,bU,hlen,TR,zO,_⟩:=(hv.bU (cS.pre p2)).snoc (kP:=n) (by omega) (by rw[mZ Gp,List.length_take];omega) ⟨b,g,c,ys⟩ k1 (by simp only;omega) k3 k4
    have aiQ:=bU _ _ _ (by omega) (bX p2 IQ)
    have l1:cR false 1 (.ptr (n+1) 0 0 0) H2=some v:=by
     rw[cO,bX p2 IQ]
     simp[dQ,hx]
    have l2:aI H2 (n+1) 0=some ([x],1,true):=bX p2 IQ
    have vJ:=X5.fQ
    have s1:bY n 1 (.ptr (n+1) 0 0 0) v' H3=some (H3.set (n+1) (.row 0 [v'] 1 true)):=by
     rw[cJ aiQ (by exact Nat.zero_lt_one) (by omega) (by rw[vJ.2.1];rfl) (by rw[vJ.2.1];simp[vJ.1])]
     rfl
    have hO3:=(TR n (by omega) hO2).set (b:=n+1) (g:=0) (e:=1) (es:=[v']) (w:=true) (by omega) (by
     rcases X5 with⟨rfl,_⟩ | ⟨b',g',XV,q1,q2,rfl,_⟩
     ·rfl
     ·simp[mM,dD];omega)
    simp only[g4,g12,wi,eL,eS,l1,ap,s1,aiQ,l2,vD,Nat.add_zero,Option.isSome_some,iC,VX,Nat.reduceEqDiff,Nat.reduceAdd,Nat.reduceLeDiff,Nat.reduceLT,Nat.reduceSub]
    refine⟨i+1,by omega,by omega,hO3,⟨v',v',bH++[ys],cD (by omega) (bU _ _ _ (by omega) (bX p2 CB)),dM aiQ,vJ.2.1,?_,?_⟩,by (repeat' apply And.intro)<;>first | rfl | trivial | assumption⟩
    ·rw[lO hr]
     exact Bz Gp ht
    ·rw[List.length_set]
     exact X5.bU (cS.set (by omega))
 ·have oJ:i=m.length:=by omega
  subst oJ
  rw[List.take_length] at Gp
  rw[Gp]
  have vJ:=hv.fQ
  have l1:cR true 1 (.ptr (n+1) 0 0 0) H=some (.agg [v]):=by
   rw[cO,IQ]
   simp[dQ,hx]
  have s1:bY n 1 (.ptr n 0 0 0) (.agg [v]) H=some (H.set n (.row 0 [.agg [v]] 1 true)):=by
   rw[cJ CB (by exact Nat.zero_lt_one) (Nat.le_refl _) rfl (by simp[aB,vJ.1])]
   rfl
  have s2:cR true 1 (.ptr n 0 0 0) (H.set n (.row 0 [.agg [v]] 1 true))=some (.agg [v]):=by
   rw[cO,dM CB]
   rfl
  simp only[rV,g2,g4,g10,g11,g12,cN,l1,s1,s2,Option.isSome_some,iC,VX,Nat.reduceEqDiff,Nat.reduceAdd,Nat.reduceLeDiff,Nat.reduceLT,Nat.reduceSub]
  have TR:dD n v=true:=by
   rcases hv with⟨rfl,_⟩ | ⟨b',g',XV,q1,q2,rfl,_⟩
   ·rfl
   ·simp[dD];omega
  obtain⟨L,rfl,hL⟩:=hO
  refine⟨L.set 0 (.row 0 [.agg [v]] 1 true),⟨by simp,fun _ _ _ _ _ h=>by rw[DD];exact h⟩,by simp[dD,mM,TR,kE],?_,.agg [v],rfl,v,rfl,?_⟩
  ·have:=(zN.set (n:=n) (b:=n) (g:=0) (e:=1) (es:=[.agg [v]]) (w:=true) ⟨L,rfl,hL⟩ (Nat.le_refl _) (by simp[mM,dD,TR]))
   rw[DD] at this
   obtain⟨L',h1,h2⟩:=this
   rw[List.append_cancel_left h1]
   exact h2
  ·rw[←DD,List.length_set]
   have:=hv.rg.bU (H':=(List.replicate n cA.dead++L).set n (.row 0 [.agg [v]] 1 true)) (cS.set (by omega))
   rw[wF] at this
   exact this.wide (by omega) (Nat.le_refl _)
end Go.PM
namespace Go.PM
open Go.Lib
section
variable {g:List (List Rat)} {e row:List Rat} {n i:Nat} {st:List Bool}
end
end Go.PM
namespace Go.PM
def qL:aD:=(LS [LO 2 (.new [(.bool false),(.slice none 0 0),(.slice none 0 0)]),LO 3 (.mv LF)] (LS [LM 7 0,LO 8 (.call 89 [(LT 7)]),LM 6 8,LO 9 (LX 6 0),LO 10 (LX 6 1),LO 4 (.new [(.bool false),(.slice none 0 0),(.slice none 0 0)]),LN (.store 3 (LT 4) (LT 9)),LM 5 10] (LS [LO 11 (LK 4),LM 12 5,LM 13 12,LY 13 14 (LK 4),⟨(some 15),(.call 104 [(LT 14)]),(some (13,true)),true,[]⟩,LY 13 16 (.bin .gtr (LT 15) (LI 0)),LO 17 (.pick (LT 13) (LT 16) LF),LN (.store 3 (LT 2) (LT 11)),LM 3 17] .ret)))
def uK:aP:=⟨18,[(.cell 2 true 3),(.tmp 3)],qL⟩
theorem JW:gB 201=some uK:=by kernel_rfl
end Go.PM
namespace Go.PM
def kO:aD:=(LS [LO 13 (.bin .lss (LT 12) (LT 11))] (.seq (.cond (LT 13) .skip (.exit 0)) (.seq (.block 1 (LS [LO 14 (.iaddr 1 (LT 10) (LT 12)),LO 15 (LL 14),LM 6 15] (LS [LM 17 6,LO 18 (.call 201 [(LT 17)]),LM 16 18,LO 19 (LX 16 0),LO 20 (LX 16 1),LO 7 (.new [(.bool false),(.slice none 0 0),(.slice none 0 0)]),LN (.store 3 (LT 7) (LT 19)),LM 8 20] (.seq (LS [LM 21 8,LO 22 (.un .not (LT 21))] (.cond (LT 22) (LS [LO 2 (.mv (.const (.slice none 0 0))),LO 3 (.mv LF)] .ret) .skip)) (.dI [LM 23 4,LO 24 (LK 7),LO 25 (.lit [(.bool false),(.slice none 0 0),(.slice none 0 0)] 1 [(0,(LT 24))]),LO 26 (.app 3 56 (LT 23) (LT 25)),LM 4 26]))))) (.dI [LO 27 (.bin .add (LT 12) (LI 1)),LM 12 27]))))
def Bq:aD:=(LS [LO 2 (.mv (.const (.slice none 0 0))),LO 3 (.mv LF)] (LS [LO 9 (.lit [(.bool false),(.slice none 0 0),(.slice none 0 0)] 0 []),LM 4 9] (.seq (LS [LM 10 0,LO 11 (.len (LT 10)),LO 12 (.mv (LI 0))] (.block 0 (.loop kO))) (LS [LM 28 4,LM 2 28,LO 3 (.mv LG)] .ret))))
def Dh:aP:=⟨29,[(.tmp 2),(.tmp 3)],Bq⟩
theorem HE:gB 126=some Dh:=by kernel_rfl
end Go.PM