/- Texts of a claim, in one: part 11. -/
import Derived.KernelRfl
import Derived.Test.YtodamlihdkalfaaGreatDoorKYj
set_option linter.unusedSimpArgs false
set_option linter.unusedVariables false
namespace Go.PM
open Go.Lib
theorem P8 {α:Type} {f:α→VV} {d e b g c:Nat} {xs:List α} {H:aA} {w:Bool} (hp:∀x,aO (f x)=true) (h:aK H b g=some (xs.map f,e,w)) (hc:xs.length≤c):fz (d+2) H (.ref b g 0 xs.length c)=some (aZ f xs):=by
 have:aO (.ref b g 0 xs.length c)=false:=rfl
 unfold PM.fz
 simp only[this,h,Bool.false_eq_true,if_false]
 rw[if_pos ⟨by simp,hc⟩,List.drop_zero,List.take_of_length_le (by simp),mapM_pure (cZ hp)]
 rfl
theorem aaC {d:Nat} {H:aA}:fz (d+1) H (.tree [] .nil)=some (.tree [] .op):=by
 unfold PM.fz
 have:aO (.tree [] .nil)=false:=by simp[aO]
 simp[this]
theorem D0 {H:aA}:fz depth H (.dY [.tree [] .nil,VB false])=some (.dY [.tree [] .op,VB false]):=bF (d:=6) aaC (aH (v:=VB false) rfl)
theorem EC {u v:VV} (hu:gH u=true) (hv:gH v=true):gH (.dY [u,v])=true:=by simp only[gH,qI,hu,hv,Bool.and_self]
theorem Wj {u v:VV} (hu:aO u=true) (hv:aO v=true):aO (.dY [u,v])=true:=by simp only[aO,aL,hu,hv,Bool.and_self]
theorem GM {u v:VV} (hu:aO u=true) (hv:aO v=true):aL [u,v]=true:=by simp only[aL,hu,hv,Bool.and_self]
def pQ (s:ByteArray):Option Rat:=vW s.data.toList
theorem XX (s:ByteArray):sV s=aR s.data.toList:=rfl
def Bo (xs:List ByteArray):Option (List Rat):=if xs.length≤300 then xs.mapM pQ else none
def LB (o:Option (List Rat)):VV:=match o with
 | some qs => .dY [aZ bR qs,VB true]
 | none => .dY [aZ bR [],VB false]
theorem G3 (q:Rat):(aB (bR q)).length=3:=rfl
theorem AW (qs:List Rat):aO (aZ bR qs)=true:=iW G3 kE
theorem VZ (q:Rat):yW (bR q)=true:=by simp[yW,bR,bE]
theorem Ml (qs:List Rat):gH (aZ bR qs)=true:=Cr G3 CJ VZ
theorem LD (o:Option (List Rat)):gH (LB o)=true:=by
 unfold LB
 split
 ·exact EC (Ml _) rfl
 ·exact EC (Ml []) rfl
theorem Ls {α β:Type} {f:α→Option β} {xs:List α} {ys:List β} {x:α} {y:β} (h:xs.mapM f=some ys) (hx:f x=some y):(xs++[x]).mapM f=some (ys++[y]):=by
 rw[List.mapM_append,h]
 simp[hx]
theorem mapM_none {α β:Type} {f:α→Option β} {x:α} (hx:f x=none):∀ {xs:List α},x∈xs→xs.mapM f=none
 | [],h=>by cases h
 |
  y::xs,h=>by
  rw[List.mapM_cons]
  cases hy:f y with
  | none=>rfl
  |
   some z =>
   rcases List.mem_cons.1 h with rfl | h
   ·rw[hx] at hy;cases hy
   ·show ((xs.mapM f).bind fun zs=>some (z::zs))=none
    rw[mapM_none hx h];rfl
theorem mapM_mem {α β:Type} {f:α→Option β} {P:β→Prop} (hP:∀x y,f x=some y→P y):∀ {xs:List α} {ys:List β},xs.mapM f=some ys→∀y∈ys,P y
 | [],ys,h,y,hy=>by simp at h;subst h;cases hy
 |
  x::xs,ys,h,y,hy=>by
  rw[List.mapM_cons] at h
  cases hx:f x with
  | none=>rw[hx] at h;cases h
  |
   some z =>
   rw[hx] at h
   cases hs:xs.mapM f with
   | none=>rw[hs] at h;cases h
   |
    some zs =>
    rw[hs] at h
    cases h
    rcases List.mem_cons.1 hy with rfl | hy
    ·exact hP _ _ hx
    ·exact mapM_mem hP hs _ hy
theorem kM {α:Type} {xs:List α} {i:Nat} {x:α} (h:xs[i]? = some x):xs.take (i+1)=xs.take i++[x]:=by rw[List.take_add_one,h];rfl
theorem El {xs:List ByteArray} {qs:List Rat} (h:Bo xs=some qs):(∀q∈qs,dT q≤665)∧qs.length≤300∧qs.length=xs.length:=by
 unfold Bo at h
 split at h
 ·rename_i hl
  have:=xB h
  exact⟨mapM_mem (fun _ _ h=>SJ h) h,by omega,this⟩
 ·cases h
set_option maxHeartbeats 1000000 in
theorem Qg (xs:List ByteArray) (hn:xs.length≤1000000000) (hs:∀s∈xs,s.size≤1000000000):TC 145 [eK xs] (LB (Bo xs)):=by
 refine TC.walk ⟨true,false⟩ Ps rfl (Nat.le_of_ble_eq_true rfl) (by simp[aL,dF]) (LD _) ?_
 unfold Bo
 by_cases RN:(300:Int)<(xs.length:Int)
 ·rw[if_neg (by omega)]
  simp only[Gp,Ck,RN,VX,Nat.reduceEqDiff,Nat.reduceAdd]
  exact D0
 rw[if_pos (by omega)]
 have e0:=fun H=>jJ (H:=H) (lr:=false) (z:=[.bool false,.slice none 0 0,.slice none 0 0]) rfl
 simp only[Gp,Ck,RN,e0,VX,Nat.reduceEqDiff,Nat.reduceAdd]
 refine JX (fun(s:Nat×List Rat) ρ H=>s.1≤xs.length∧(xs.take s.1).mapM pQ=some s.2∧H=[.row s.1 (s.2.map bR) 3 true]∧ρ 4 = .ref 0 s.1 0 s.1 s.1∧ρ 13=eK xs∧ρ 14=VI xs.length∧ρ 15=VI s.1) (fun s=>xs.length-s.1) (0,[]) ⟨Nat.zero_le _,rfl,rfl,rfl,rfl,rfl,rfl⟩ ?_
 rintro⟨i,out⟩ ρ H ⟨hi,Jf,rfl,g4,g13,g14,g15⟩
 simp only at hi Jf g4 g15
 have gZ:out.length=i:=by rw[xB Jf,List.length_take];omega
 by_cases cC:(i:Int)<(xs.length:Int)
 ·obtain⟨x,hx⟩:∃x,xs[i]? = some x:=⟨_,List.getElem?_eq_getElem (by omega)⟩
  have hxm:=List.mem_of_getElem? hx
  have e1:=fun H=>aF (f:=sV) (t := .op) (H:=H) (size:=1) (k := .i64) hx rfl
  have wi:IntKind.i64.wrap ((i:Int)+1)=((i+1:Nat):Int):=wrapN (i+1) (by omega) (by omega)
  have e2:=Kj x.data.toList (by have:=hs x hxm;rw[Array.length_toList];show x.size≤_;omega)
  rw[←XX] at e2
  cases hp:pQ x with
  |
   none =>
   rw[Qa hp] at e2
   rw[mapM_none hp hxm]
   simp only[uX,g4,g13,g14,g15,cC,e1,e2,Hy,Ja,PG,aY,aX,aP,jX,Nat.reduceLeDiff,Nat.reduceLT,Nat.reduceSub,B6,iQ,kQ,rE,xW,zB,bne_iff_ne,ne_eq,not_false_eq_true,not_true_eq_false,VX,Nat.reduceEqDiff,Nat.reduceAdd]
   exact D0
  |
   some q =>
   rw[Pm hp] at e2
   have eL:∀H,mV false [.bool false,.slice none 0 0,.slice none 0 0] 1 [(0,bR q)] H=some (.tree [bR q] (.cl 3),H):=fun H=>kH rfl rfl rfl
   have eS:∀H,dD 3 (.tree [bR q] (.cl 3)) H=some [bR q]:=fun H=>iC rfl rfl
   have eP:eJ 0 3 56 (.ref 0 i 0 i i) [bR q] [.row i (out.map bR) 3 true,.row 0 [bR q] 3 true]=some (.ref 0 (i+1) 0 (i+1) (i+1),[.row (i+1) ((out++[q]).map bR) 3 true,.row 0 [bR q] 3 true]):=by
    rw[iE (f:=bR) (xs:=out) (by rw[bG]) gZ.symm (Nat.le_refl _) (by decide) (by decide) (by omega),List.set_cons_zero]
   simp only[uX,g4,g13,g14,g15,cC,e1,e2,eL,eS,eP,wi,aG,dC,eZ,aY,aX,aP,jX,Nat.reduceLeDiff,Nat.reduceLT,Nat.reduceSub,B6,iQ,kQ,rE,xW,zB,bne_iff_ne,ne_eq,not_false_eq_true,not_true_eq_false,VX,Nat.reduceEqDiff,Nat.reduceAdd]
   refine⟨(i+1,out++[q]),by simp only;omega,?_,by simp only;omega,by simp only[kM hx];exact Ls Jf hp,rfl,?_⟩
   ·rw[Az (kX _ (cZ kE)),G1]
   ·simp only[sW,g13,g14,Ai (dF _),F6 (Nat.lt_succ_self 0),VX,Nat.reduceEqDiff,Nat.reduceAdd,List.take_zero,iG,List.all_nil,List.length_nil,sW,Jz,Ai]
 ·have oU:i=xs.length:=by omega
  subst oU
  rw[List.take_length] at Jf
  rw[Jf]
  simp only[uX,g4,g13,g14,g15,cC,VX,Nat.reduceEqDiff,Nat.reduceAdd]
  refine bF (d:=6) ?_ (aH (v:=VB true) rfl)
  have:=P8 (d:=5) (w:=true) (f:=bR) (e:=3) (b:=0) (g:=xs.length) (c:=xs.length) (xs:=out) (H:=[.row xs.length (out.map bR) 3 true]) kE (by rw[bG]) (by omega)
  rw[gZ] at this
  exact this
end Go.PM
namespace Go.PM
open Go.Lib
theorem Xe {α:Type} {l:List α} (h:l.Nodup) {i j:Nat} {x:α} (hi:l[i]? = some x) (hj:l[j]? = some x):i=j:=by
 obtain⟨hi,oV⟩:=List.getElem?_eq_some_iff.1 hi
 obtain⟨hj,hj'⟩:=List.getElem?_eq_some_iff.1 hj
 have h:=List.pairwise_iff_getElem.1 h
 rcases Nat.lt_trichotomy i j with aV | heq | hgt
 ·exact absurd (oV.trans hj'.symm) (h i j hi hj aV)
 ·exact heq
 ·exact absurd (hj'.trans oV.symm) (h j i hj hi hgt)
section
variable {α:Type} {f:α→VV} {e lo hi:Nat} {H H':aA} {v:VV}
def eE (lo hi:Nat) (H H':aA):Prop:=∀b g x,lo≤b→b<hi→aK H b g=some x→aK H' b g=some x
theorem eE.pre (h:H <+: H'):eE lo hi H H':=fun _ _ _ _ _=>fS h
theorem eE.refl:eE lo hi H H:=fun _ _ _ _ _ h=>h
theorem eE.trans {Z7:aA} (h:eE lo hi H H') (h':eE lo hi H' Z7):eE lo hi H Z7:=fun b g x h1 h2 h3=>h' b g x h1 h2 (h b g x h1 h2 h3)
theorem eE.sub {l h':Nat} (h:eE lo hi H H') (hl:lo≤l) (hh:h'≤hi):eE l h' H H':=fun b g x h1 h2=>h b g x (by omega) (by omega)
theorem eE.set {b:Nat} {x:cI} (hb:b<lo∨hi≤b):eE lo hi H (H.set b x):=fun _ _ _ h1 h2=>jD (by omega)
theorem eE.move {L:aA}:eE H.length hi (List.replicate H.length .dead++L) (H++L):=fun _ _ _ h1 _=>Wd h1
def Nd (f:α→VV) (e:Nat) (bK:List α) (lo hi:Nat) (H:aA) (v:VV):Prop :=
 (v = .tree [] .nil∧bK=[])∨∃b g c,lo≤b∧b<hi∧v = .ref b g 0 bK.length c∧bK.length≤c∧aK H b g=some (bK.map f,e,true)
theorem Nd.cL {bK:List α} (h:Nd f e bK lo hi H v) (hk:eE lo hi H H'):Nd f e bK lo hi H' v:=by
 rcases h with h | ⟨b,g,c,h1,h2,h3,h4,h5⟩
 ·exact .inl h
 ·exact .inr ⟨b,g,c,h1,h2,h3,h4,hk _ _ _ h1 h2 h5⟩
theorem Nd.wide {bK:List α} {mU oV:Nat} (h:Nd f e bK lo hi H v) (hl:mU≤lo) (hh:hi≤oV):Nd f e bK mU oV H v:=by
 rcases h with h | ⟨b,g,c,h1,h2,h3⟩
 ·exact .inl h
 ·exact .inr ⟨b,g,c,by omega,by omega,h3⟩
theorem IJ {d b g c:Nat} {xs:List α} {w:Bool} (hp:∀x,aO (f x)=true) (h:aK H b g=some (xs.map f,e,w)) (hc:xs.length≤c):fz (d+2) H (.ref b g 0 xs.length c)=some (aZ f xs):=by
 have:aO (.ref b g 0 xs.length c)=false:=rfl
 show PM.fz ((d+1)+1) H _=_
 unfold PM.fz
 simp only[this,h,Bool.false_eq_true,if_false]
 rw[if_pos ⟨by simp,hc⟩,List.drop_zero,List.take_of_length_le (by simp),mapM_pure (n:=d) (cZ hp)]
 rfl
theorem Nd.fz {d:Nat} {bK:List α} (h:Nd f e bK lo hi H v) (hp:∀x,aO (f x)=true):PM.fz (d+2) H v=some (aZ f bK):=by
 rcases h with⟨rfl,rfl⟩ | ⟨b,g,c,h1,h2,rfl,h4,h5⟩
 ·exact KK
 ·exact IJ hp h5 h4
structure EM (α:Type) where
 b:Nat
 g:Nat
 c:Nat
 xs:List α
def Ka (r:EM α):VV := .ref r.b r.g 0 r.xs.length r.c
structure TX (f:α→VV) (e lo hi b:Nat) (H:aA) (rs:List (EM α)):Prop where
 nd:(rs.map (·.b)).Nodup
 row:∀r∈rs,lo≤r.b∧r.b<hi∧r.b≠b∧r.xs.length≤r.c∧aK H r.b r.g=some (r.xs.map f,e,true)
def RG (f:α→VV) (e:Nat) (bK:List (List α)) (lo hi:Nat) (H:aA) (v:VV):Prop :=
 (v = .tree [] .nil∧bK=[])∨∃b g c rs,lo≤b∧b<hi∧v = .ref b g 0 bK.length c∧bK.length≤c∧aK H b g=some (rs.map Ka,1,true)∧rs.map (·.xs)=bK∧TX f e lo hi b H rs
theorem RG.cL {bK:List (List α)} (h:RG f e bK lo hi H v) (hk:eE lo hi H H'):RG f e bK lo hi H' v:=by
 rcases h with h | ⟨b,g,c,rs,h1,h2,h3,h4,h5,h6,h7⟩
 ·exact .inl h
 ·exact .inr ⟨b,g,c,rs,h1,h2,h3,h4,hk _ _ _ h1 h2 h5,h6,h7.nd,fun r hr=>by
   obtain⟨k1,k2,k3,k4,k5⟩:=h7.row r hr
   exact⟨k1,k2,k3,k4,hk _ _ _ k1 k2 k5⟩⟩
theorem RG.wide {bK:List (List α)} {mU oV:Nat} (h:RG f e bK lo hi H v) (hl:mU≤lo) (hh:hi≤oV):RG f e bK mU oV H v:=by
 rcases h with h | ⟨b,g,c,rs,h1,h2,h3,h4,h5,h6,h7⟩
 ·exact .inl h
 ·exact .inr ⟨b,g,c,rs,by omega,by omega,h3,h4,h5,h6,h7.nd,fun r hr=>by
   obtain⟨k1,k2,k3,k4,k5⟩:=h7.row r hr
   exact⟨by omega,by omega,k3,k4,k5⟩⟩
theorem Ug {d b g c lo hi:Nat} {rs:List (EM α)} {w:Bool} (hp:∀x,aO (f x)=true) (h:aK H b g=some (rs.map Ka,1,w)) (hc:rs.length≤c) (hR:TX f e lo hi b H rs) :
  fz (d+3) H (.ref b g 0 rs.length c)=some (aZ (aZ f) (rs.map (·.xs))):=by
 have:aO (.ref b g 0 rs.length c)=false:=rfl
 show PM.fz ((d+2)+1) H _=_
 unfold PM.fz
 simp only[this,h,Bool.false_eq_true,if_false]
 rw[if_pos ⟨by simp,hc⟩,List.drop_zero,List.take_of_length_le (by simp),mapM_map (f:=Ka) (f':=fun r=>aZ f r.xs) fun r hr=>IJ hp (hR.row r hr).2.2.2.2 (hR.row r hr).2.2.2.1]
 simp[aZ,List.map_map]
theorem RG.fz {d:Nat} {bK:List (List α)} (h:RG f e bK lo hi H v) (hp:∀x,aO (f x)=true):PM.fz (d+3) H v=some (aZ (aZ f) bK):=by
 rcases h with⟨rfl,rfl⟩ | ⟨b,g,c,rs,h1,h2,rfl,h4,h5,rfl,h7⟩
 ·exact KK
 ·rw[List.length_map] at h4 ⊢
  exact Ug hp h5 h4 h7
theorem Tb {d:Nat} {us Ei:List VV} (h:us.mapM (PM.fz (d+1) H)=some Ei):PM.fz (d+2) H (.agg us)=some (.agg Ei):=by
 have e:PM.fz (d+2) H (.agg us)=if aO (.agg us)=true then some (.agg us) else (us.mapM (PM.fz (d+1) H)).map .agg:=rfl
 rw[e]
 by_cases hq:aO (.agg us)=true
 ·rw[if_pos hq]
  have:us.mapM (PM.fz (d+1) H)=some us:=mapM_pure hq
  rw[this] at h
  cases h
  rfl
 ·rw[if_neg hq,h]
  rfl
def WX (P:Nat→Nat→aA→VV→Prop) (ok:Bool) (n:Nat) (r:VV) (L:aA):Prop :=
 ∃v,r = .dY [v,.sc (.bool ok)]∧P n (n+L.length) (List.replicate n .dead++L) v
theorem Ks {F lo:Nat} {args gM:List VV} {P:Nat→Nat→aA→VV→Prop} {ok:Bool} {H:aA} {K:VV→aA→Prop} (h:FC F gM (WX P ok)) (rZ:AQ.contains F=true) (hf:args.mapM (PM.fz depth H)=some gM)
  (hP:∀ {lo hi H H' v},P lo hi H v→eE lo hi H H'→P lo hi H' v) (hk:∀v H',H <+: H'→P H.length H'.length H' v→K (.dY [v,.sc (.bool ok)]) H'):cB F args lo H K:=by
 refine h.call rZ hf ?_
 rintro r L ⟨v,rfl,hv⟩
 refine hk v _ (List.prefix_append _ _) ?_
 rw[List.length_append]
 exact hP hv eE.move
end
def EZ (T:VV) (lo hi:Nat) (H:aA) (v:VV):Prop:=∀H',eE lo hi H H'→fz depth H' v=some T
theorem EZ.cL {T:VV}:∀ {lo hi H H' v},EZ T lo hi H v→eE lo hi H H'→EZ T lo hi H' v:=fun h hk _ h'=>h _ (hk.trans h')
theorem EZ.now {T v:VV} {lo hi:Nat} {H:aA} (h:EZ T lo hi H v):fz depth H v=some T:=h H eE.refl
def CG (bK:List (List ByteArray)) (lo hi:Nat) (H:aA) (v:VV):Prop:=∃c,v = .agg [c]∧RG sV 1 bK lo hi H c
theorem CG.cL {bK:List (List ByteArray)}:∀ {lo hi H H' v},CG bK lo hi H v→eE lo hi H H'→CG bK lo hi H' v:=by
 rintro lo hi H H' v ⟨c,h1,h2⟩ hk
 exact⟨c,h1,h2.cL hk⟩
theorem CG.fz {bK:List (List ByteArray)} {lo hi:Nat} {H:aA} {v:VV} (h:CG bK lo hi H v):PM.fz depth H v=some (chV bK):=by
 obtain⟨c,rfl,h⟩:=h
 refine Tb (d:=6) ?_
 rw[List.mapM_cons,h.fz (d:=4) fun _=>rfl]
 rfl
theorem CG.seen {bK:List (List ByteArray)} {lo hi:Nat} {H:aA} {v:VV} (h:CG bK lo hi H v):EZ (chV bK) lo hi H v:=fun _ hk=>(h.cL hk).fz
def WE (s:KQ) (lo hi:Nat) (H:aA) (v:VV):Prop:=∃a b c m1 m2,v = .agg [a,b,c]∧lo≤m1∧m1≤m2∧m2≤hi∧Nd sV 1 s.b lo m1 H a∧RG sV 1 s.g m1 m2 H b∧Nd sV 1 s.e m2 hi H c
theorem WE.cL {s:KQ}:∀ {lo hi H H' v},WE s lo hi H v→eE lo hi H H'→WE s lo hi H' v:=by
 rintro lo hi H H' v ⟨a,b,c,m1,m2,h1,k1,k2,k3,h2,h3,h4⟩ hk
 exact⟨a,b,c,m1,m2,h1,k1,k2,k3,h2.cL (hk.sub (by omega) (by omega)),h3.cL (hk.sub (by omega) (by omega)),h4.cL (hk.sub (by omega) (by omega))⟩
theorem afO {s:KQ} {l1 h1 l2 h2 l3 h3:Nat} {H:aA} {a b c:VV} (ha:Nd sV 1 s.b l1 h1 H a) (hb:RG sV 1 s.g l2 h2 H b) (hc:Nd sV 1 s.e l3 h3 H c):PM.fz depth H (.agg [a,b,c])=some (svV s):=by
 refine Tb (d:=6) ?_
 rw[List.mapM_cons,ha.fz (d:=5) fun _=>rfl]
 rw[List.mapM_cons,hb.fz (d:=4) fun _=>rfl]
 rw[List.mapM_cons,hc.fz (d:=5) fun _=>rfl]
 rfl
theorem WE.fz {s:KQ} {lo hi:Nat} {H:aA} {v:VV} (h:WE s lo hi H v):PM.fz depth H v=some (svV s):=by
 obtain⟨a,b,c,m1,m2,rfl,k1,k2,k3,h2,h3,h4⟩:=h
 exact afO h2 h3 h4
theorem WE.seen {s:KQ} {lo hi:Nat} {H:aA} {v:VV} (h:WE s lo hi H v):EZ (svV s) lo hi H v:=fun _ hk=>(h.cL hk).fz
theorem Nd.seen {bK:List ByteArray} {lo hi:Nat} {H:aA} {v:VV} (h:Nd sV 1 bK lo hi H v):EZ (eK bK) lo hi H v:=fun _ hk=>(h.cL hk).fz (d:=6) fun _=>rfl
def QY (k:Int):ByteArray:=⟨(109::(if k≤0 then [48] else decDigits k.toNat)).toArray⟩
theorem BB (k:Int) (hk:0≤k∧k≤1000000000):TC 130 [VI k] (.sc (.string (QY k))):=by
 refine TC.walk ⟨true,false⟩ HZ rfl (Nat.le_of_ble_eq_true rfl) rfl rfl ?_
 by_cases h0:k≤0
 ·have e:QY k=⟨#[109,48]⟩:=by unfold QY;rw[if_pos h0]
  rw[e]
  simp only[zD,tW,h0,VX,Nat.reduceEqDiff,Nat.reduceAdd]
  exact aI rfl
 obtain⟨n,rfl⟩:∃n:Nat,k=n:=⟨k.toNat,by omega⟩
 have e1:∀(x:UInt8) (H:aA),mV false [.int .u8 0] 1 [(0,bV x)] H=some (.tree [bV x] (.cl 1),H):=fun x H=>kH rfl rfl rfl
 simp only[zD,tW,h0,VX,Nat.reduceEqDiff,Nat.reduceAdd]
 refine aN (fun(s:Nat×List UInt8) ρ H=>s.1≤n∧H=[]∧ρ 0=VI s.1∧ρ 3=aR s.2∧decDigits n=jZ s.1++s.2) (fun s=>s.1) (n,[]) ⟨Nat.le_refl _,rfl,rfl,rfl,by rw[List.append_nil,jZ,if_neg (by omega)]⟩ ?_
 rintro⟨r,bs⟩ ρ H ⟨hr,rfl,g0,g3,hd⟩
 simp only at hr hd g0 g3
 have tG:bs.length≤11:=by
  have h1:=wT n 10 (by omega)
  rw[hd,List.length_append] at h1
  omega
 by_cases hz:(0:Int)<(r:Int)
 ·have em:=Pb (r:Int)
  have eq:=adK (r:Int) (by omega) (by omega)
  have m1:((r:Int)).tmod 10=((r % 10:Nat):Int):=by rw[Int.tmod_eq_emod_of_nonneg (by omega)];omega
  have m2:((r:Int)).tdiv 10=((r / 10:Nat):Int):=by rw[Int.tdiv_eq_ediv_of_nonneg (by omega)];omega
  rw[m1] at em
  rw[m2] at eq
  have w1:IntKind.i64.wrap (48+((r % 10:Nat):Int))=((48+r % 10:Nat):Int):=wrapN _ (by omega) (by omega)
  have w2:IntKind.u8.wrap ((48+r % 10:Nat):Int)=((d10 (r % 10)).toNat:Int):=by
   rw[Lt (Nat.mod_lt _ (by decide))]
   simp[IntKind.wrap,IntKind.bits,IntKind.signed]
   omega
  have bs2:=fun aU (h:dK aU (.tmp 12) = .tree [bV (d10 (r % 10))] (.cl 1))=>(Ep.tree (bs:=[d10 (r % 10)]) (k := .cl 1) (H:=[])).str (fl:=⟨true,false⟩) (lo:=0) h
  have UP:decDigits n=jZ (r / 10)++d10 (r % 10)::bs:=by
   refine GI ?_
   rw[hd,jZ,if_neg (by omega)]
  have ea:=pI [d10 (r % 10)] bs (by have:=tG;simp only[List.length_cons,List.length_nil];omega)
  simp only[sP,g0,g3,hz,em,eq,w1,w2,e1,Ny,VX,Nat.reduceEqDiff,Nat.reduceAdd]
  rw[bs2 _ rfl]
  simp only[g0,g3,em,eq,ea,VX,Nat.reduceEqDiff,Nat.reduceAdd]
  exact⟨(r / 10,d10 (r % 10)::bs),by simp only;omega,by simp only;omega,rfl,rfl,UP⟩
 ·have Mj:r=0:=by omega
  subst Mj
  simp only[sP,g0,hz,VX,Nat.reduceEqDiff,Nat.reduceAdd]
  have hb:bs=decDigits n:=by rw[hd,jZ,if_pos rfl,List.nil_append]
  have e:QY (n:Int)=⟨(109::bs).toArray⟩:=by
   unfold QY
   rw[if_neg h0,Int.toNat_natCast,hb]
  have ea:=pI [109] bs (by simp only[List.length_cons,List.length_nil];omega)
  have ea:cU .add (.string ⟨#[109]⟩) (.string ⟨bs.toArray⟩)=some (.string ⟨(109::bs).toArray⟩):=ea
  rw[e]
  simp only[g3,ea,VX,Nat.reduceEqDiff,Nat.reduceAdd]
  exact aI rfl
theorem aaY (k:Int):cU .neq (.string (QY k)) (.string (QY k))=some (.bool false):=by
 unfold QY
 rw[Nk]
 simp
abbrev nK (k:Int) (n:Nat):List ByteArray:=(iota k n).map QY
theorem sA (k:Int) (n:Nat):(nK k n).length=n:=by rw[List.length_map,FM]
theorem SM {k:Int} {n i:Nat} (h:i<n):(nK k n)[i]? = some (QY (k+i)):=by
 rw[List.getElem?_map]
 simp[iota,List.getElem?_range,h]
theorem wE {lo b g n c:Nat} {H:aA} (xs:List ByteArray) (k:Int) (hr:aK H b g=some (xs.map sV,1,true)) (hn:n≤xs.length) (eX:lo≤b) (hk:0≤k∧k≤100000000) (Ok:n≤100000000) :
  kG 50 [.ref b g 0 n c,VI k] lo H fun r H'=>r=VI (k+n)∧H'=H.set b (.row g ((nK k n++xs.drop n).map sV) 1 true):=by
 refine kG.walk ⟨true,false⟩ wM (Nat.le_of_ble_eq_true rfl) ?_
 have hb:b<H.length:=(List.getElem?_eq_some_iff.1 (bS.1 hr)).1
 have h00:H=H.set b (.row g ((nK k 0++xs.drop 0).map sV) 1 true):=by
  have h':=bS.1 hr
  obtain⟨aV,AF⟩:=List.getElem?_eq_some_iff.1 h'
  have:nK k 0++xs.drop 0=xs:=by simp[iota]
  rw[this,←AF,List.set_getElem_self]
 simp only[sB,pY,VX,Nat.reduceEqDiff,Nat.reduceAdd]
 refine aN (fun(i:Nat) ρ H1=>i≤n∧H1=H.set b (.row g ((nK k i++xs.drop i).map sV) 1 true)∧ρ 0 = .ref b g 0 n c∧ρ 1=VI (k+i)∧ρ 5=VI i) (fun i=>n-i) 0 ⟨Nat.zero_le _,h00,rfl,by simp only[VX,Nat.reduceEqDiff,Nat.reduceAdd];simp,rfl⟩ ?_
 rintro i ρ H1 ⟨hi,rfl,h0,h1,h5⟩
 have hR:aK (H.set b (.row g ((nK k i++xs.drop i).map sV) 1 true)) b g=some ((nK k i++xs.drop i).map sV,1,true):=bS.2 (List.getElem?_set_self hb)
 have hlen:(nK k i++xs.drop i).length=xs.length:=by rw[List.length_append,sA,List.length_drop];omega
 have el:=cT (o:=0) (n:=n) (c:=c) hR
 by_cases cC:(i:Int)<(n:Int)
 ·have e1:=aQ (o:=0) (n:=n) (c:=c) (i:=i) (k := .i64) hR (by omega)
  have e2:=cR (f:=sV) (e:=1) (x:=QY (k+i)) (j:=i) (lo:=lo) hR (by omega) eX rfl rfl
  have e3:=BB (k+i) (by omega)
  have hs:(nK k i++xs.drop i).set i (QY (k+i))=nK k (i+1)++xs.drop (i+1):=by
   obtain⟨x,hx⟩:∃x,xs[i]? = some x:=⟨_,List.getElem?_eq_getElem (by omega)⟩
   have hd:xs.drop i=x::xs.drop (i+1):=by
    have aV:=List.getElem?_eq_some_iff.1 hx
    rw[List.drop_eq_getElem_cons aV.1,aV.2]
   rw[List.set_append_right _ _ (by rw[sA];exact Nat.le_refl _),sA,Nat.sub_self,hd,List.set_cons_zero]
   have:nK k (i+1)=nK k i++[QY (k+i)]:=by
    show (iota k (i+1)).map QY=(iota k i).map QY++[QY (k+i)]
    unfold iota
    rw[List.range_succ,List.map_append,List.map_append]
    rfl
   rw[this,List.append_assoc]
   rfl
  rw[List.set_set,hs] at e2
  have w1:IntKind.i64.wrap (k+i+1)=k+((i+1:Nat):Int):=by rw[wrap64 (by omega) (by omega)];omega
  have wi:IntKind.i64.wrap ((i:Int)+1)=((i+1:Nat):Int):=wrapN (i+1) (by omega) (by omega)
  simp only[jY,h0,h1,h5,cC,el,e1,e2,e3,w1,wi,VX,Nat.reduceEqDiff,Nat.reduceAdd]
  exact⟨i+1,by omega,by omega,by (repeat' apply And.intro)<;>first | rfl | trivial⟩
 ·have oU:i=n:=by omega
  subst oU
  simp only[jY,h0,h1,h5,cC,el,VX,Nat.reduceEqDiff,Nat.reduceAdd]
theorem BR {lo:Nat} {H:aA} (k:Int):kG 50 [.tree [] .nil,VI k] lo H fun r H'=>r=VI k∧H'=H:=by
 refine kG.walk ⟨true,false⟩ wM (Nat.le_of_ble_eq_true rfl) ?_
 simp only[sB,pY,VX,Nat.reduceEqDiff,Nat.reduceAdd]
 refine aN (fun(_:Unit) ρ H1=>H1=H∧ρ 0 = .tree [] .nil∧ρ 1=VI k∧ρ 5=VI 0) (fun _=>0) () ⟨rfl,rfl,rfl,rfl⟩ ?_
 rintro _ ρ H1 ⟨rfl,h0,h1,h5⟩
 simp only[jY,h0,h1,h5,List.length_nil,Int.natCast_zero,Int.lt_irrefl,Int.reduceLT,VX,Nat.reduceEqDiff,Nat.reduceAdd]
theorem D8 (k:Int) (n:Nat) (hk:0≤k∧k≤100000000) (hn:n≤100000000):TC 57 [eK (nK k n),VI k] (VI (k+n)):=by
 refine TC.walk ⟨true,false⟩ En rfl (Nat.le_of_ble_eq_true rfl) (GM (dF _) rfl) rfl ?_
 simp only[Ag,wO,VX,Nat.reduceEqDiff,Nat.reduceAdd]
 refine aN (fun(i:Nat) ρ H=>i≤n∧H=[]∧ρ 0=eK (nK k n)∧ρ 1=VI (k+i)∧ρ 5=VI i) (fun i=>n-i) 0 ⟨Nat.zero_le _,rfl,rfl,by simp only[VX,Nat.reduceEqDiff,Nat.reduceAdd];simp,rfl⟩ ?_
 rintro i ρ H ⟨hi,rfl,h0,h1,h5⟩
 have hlen:=sA k n
 by_cases cC:(i:Int)<(n:Int)
 ·have hx:=SM (k:=k) (n:=n) (i:=i) (by omega)
  have e1:=aF (f:=sV) (t := .op) (H:=[]) (size:=1) (k := .i64) hx rfl
  have e3:=BB (k+i) (by omega)
  have w1:IntKind.i64.wrap (k+i+1)=k+((i+1:Nat):Int):=by rw[wrap64 (by omega) (by omega)];omega
  have wi:IntKind.i64.wrap ((i:Int)+1)=((i+1:Nat):Int):=wrapN (i+1) (by omega) (by omega)
  simp only[oP,h0,h1,h5,cC,hlen,e1,e3,w1,wi,aaY,VX,Nat.reduceEqDiff,Nat.reduceAdd]
  exact⟨i+1,by omega,by omega,by (repeat' apply And.intro)<;>first | rfl | trivial⟩
 ·have oU:i=n:=by omega
  subst oU
  simp only[oP,h0,h1,h5,cC,hlen,VX,Nat.reduceEqDiff,Nat.reduceAdd]
  exact aI rfl
theorem ZS {lo hi mU:Nat} {bK:List ByteArray} {H:aA} {v:VV} {k:Int} {K:VV→aA→Prop} (hv:Nd sV 1 bK lo hi H v) (eX:mU≤lo) (hk:0≤k∧k≤100000000) (hn:bK.length≤100000000)
  (hK:∀H',H'.length=H.length→Nd sV 1 (nK k bK.length) lo hi H' v→(∀b g x,b<lo∨hi≤b→aK H b g=some x→aK H' b g=some x)→K (VI (k+bK.length)) H') :
  cB 50 [v,VI k] mU H K:=by
 rcases hv with⟨rfl,rfl⟩ | ⟨b,g,c,h1,h2,rfl,h4,h5⟩
 ·refine fX rfl ((BR k).mono ?_)
  rintro r H' ⟨rfl,rfl⟩
  have:=hK H' rfl (.inl ⟨rfl,rfl⟩) fun _ _ _ _ h=>h
  simpa using this
 ·refine fX rfl ((wE bK k h5 (Nat.le_refl _) (Nat.le_trans eX h1) hk hn).mono ?_)
  rintro r H' ⟨rfl,rfl⟩
  refine hK _ (by simp) (.inr ⟨b,g,c,h1,h2,by rw[sA],by rw[sA];exact h4,?_⟩) fun b' g' x xH h=>jD (by omega) h
  rw[List.drop_length,List.append_nil]
  exact jG h5
theorem UW {lo b:Nat} {xs:List ByteArray} {H:aA} {k:Int} {K:VV→aA→Prop} (h:aK H b 0=some ((cN jP xs).map sV,1,true)) (eX:lo≤b) (hk:0≤k∧k≤100000000) (hn:xs.length≤100000000)
  (hK:∀x,K (VI (k+xs.length)) (H.set b x)):cB 50 [.ref b 0 0 xs.length (xs.length+room xs.length),VI k] lo H K:=by
 refine fX rfl ((wE (cN jP xs) k h (by rw[xU];omega) eX hk hn).mono ?_)
 rintro r H' ⟨rfl,rfl⟩
 exact hK _
end Go.PM
namespace Go.PM
section
variable {α:Type} {f:α→VV} {e:Nat}
structure Rd (f:α→VV) (e:Nat) (xs:List α) (H:aA) (v:VV):Prop where
 len:∀H',H <+: H'→nS v H'=some (VI xs.length)
 get:∀H',H <+: H'→∀(i:Nat) x,xs[i]? = some x→∃p,bC e v (VI i) H'=some p∧∀ag,dG ag e p H'=dW ag e (f x) 0
 cell:aB v=[v]∧bQ v=true∧isAny v=false
theorem Rd.pre {xs:List α} {H H':aA} {v:VV} (h:Rd f e xs H v) (hh:H <+: H'):Rd f e xs H' v:=⟨fun H2 h2=>h.len H2 (hh.trans h2),fun H2 h2=>h.get H2 (hh.trans h2),h.cell⟩
theorem Rd.tree {xs:List α} {H:aA} {t:TK} (hs:∀x,(aB (f x)).length=e):Rd f e xs H (.tree (xs.map f) t) :=
 ⟨fun _ _=>dH,fun _ _ i x hx=>⟨_,aF hx (hs x),fun ag=>IQ⟩,rfl,rfl,rfl⟩
theorem Rd.row {xs:List α} {H:aA} {b g n c:Nat} {w:Bool} (h:aK H b g=some (xs.map f,e,w)) (hn:n=xs.length):Rd f e xs H (.ref b g 0 n c):=by
 subst hn
 refine⟨fun H' hh=>cT (fS hh h),fun H' hh i x hx => ?_,rfl,rfl,rfl⟩
 have hi:=(List.getElem?_eq_some_iff.1 hx).1
 have e1:=aQ (o:=0) (n:=xs.length) (c:=c) (i:=i) (k := .i64) (fS hh h) hi
 rw[Nat.zero_add] at e1
 exact⟨_,e1,fun ag=>oM (f:=f) (fS hh h) hx⟩
structure MG (f:α→VV) (e lo hi b g:Nat) (H:aA) (rs:List (EM α)):Prop where
 out:aK H b g=some (rs.map Ka,1,true)
 blo:lo≤b
 bhi:b<hi
 rows:TX f e lo hi b H rs
variable {lo hi b g:Nat} {H H':aA} {rs:List (EM α)}
theorem MG.cL (h:MG f e lo hi b g H rs) (hk:eE lo hi H H'):MG f e lo hi b g H' rs :=
 ⟨hk _ _ _ h.blo h.bhi h.out,h.blo,h.bhi,h.rows.nd,fun r hr=>by
  obtain⟨k1,k2,k3,k4,k5⟩:=h.rows.row r hr
  exact⟨k1,k2,k3,k4,hk _ _ _ k1 k2 k5⟩⟩
theorem MG.pre (h:MG f e lo hi b g H rs) (hh:H <+: H'):MG f e lo hi b g H' rs:=h.cL (eE.pre hh)
theorem MG.len {n c:Nat} (h:MG f e lo hi b g H rs):nS (.ref b g 0 n c) H=some (VI n):=cT h.out
theorem MG.cell {i:Nat} {r:EM α} (h:MG f e lo hi b g H rs) (hr:rs[i]? = some r):dG false 1 (.ptr b g i 0) H=some (.ref r.b r.g 0 r.xs.length r.c):=by
 rw[oM (f:=Ka) h.out hr]
 rfl
theorem MG.row {i:Nat} {r:EM α} (h:MG f e lo hi b g H rs) (hr:rs[i]? = some r):aK H r.b r.g=some (r.xs.map f,e,true):=(h.rows.row r (List.mem_of_getElem? hr)).2.2.2.2
theorem MG.at {i j n c:Nat} {r:EM α} (h:MG f e lo hi b g H rs) (hr:rs[i]? = some r) (hj:j<n):bC e (.ref r.b r.g 0 n c) (VI j) H=some (.ptr r.b r.g j 0):=by
 have:=aQ (o:=0) (n:=n) (c:=c) (i:=j) (k := .i64) (h.row hr) hj
 rwa [Nat.zero_add] at this
theorem MG.get {i j:Nat} {ag:Bool} {r:EM α} {x:α} (h:MG f e lo hi b g H rs) (hr:rs[i]? = some r) (hx:r.xs[j]? = some x):dG ag e (.ptr r.b r.g j 0) H=dW ag e (f x) 0:=oM (f:=f) (h.row hr) hx
theorem MG.inj {i j:Nat} {r s:EM α} (h:MG f e lo hi b g H rs) (hr:rs[i]? = some r) (hs:rs[j]? = some s) (he:r.b=s.b):i=j:=by
 have h1:(rs.map (·.b))[i]? = some r.b:=by simp[hr]
 have h2:(rs.map (·.b))[j]? = some r.b:=by simp[hs,he]
 exact Xe h.rows.nd h1 h2
theorem Jv {β γ:Type} {F:β→γ} {l:List β} {i:Nat} {x y:β} (hx:l[i]? = some x) (he:F y=F x):(l.set i y).map F=l.map F:=by
 apply List.ext_getElem?
 intro j
 rw[List.getElem?_map,List.getElem?_map,List.getElem?_set]
 split
 ·rename_i Rk
  subst Rk
  split
  ·rw[hx,Option.map_some,Option.map_some,he]
  ·rename_i hn
   rw[(List.getElem?_eq_none (by omega))] at hx
   cases hx
 ·rfl
theorem MG.set {i:Nat} {r:EM α} {ys:List α} (h:MG f e lo hi b g H rs) (hr:rs[i]? = some r) (hl:ys.length=r.xs.length):MG f e lo hi b g (H.set r.b (.row r.g (ys.map f) e true)) (rs.set i { r with xs:=ys }):=by
 have hrm:=h.rows.row r (List.mem_of_getElem? hr)
 refine⟨?_,h.blo,h.bhi,?_,fun s hs => ?_⟩
 ·rw[Jv hr (by simp[Ka,hl])]
  exact jD hrm.2.2.1 h.out
 ·rw[Jv (F:=fun r:EM α=>r.b) (y:={ r with xs:=ys }) hr rfl]
  exact h.rows.nd
 ·obtain⟨j,hj⟩:=List.getElem?_of_mem hs
  rw[List.getElem?_set] at hj
  split at hj
  ·rename_i Rk
   split at hj
   ·cases hj
    exact⟨hrm.1,hrm.2.1,hrm.2.2.1,by rw[hl];exact hrm.2.2.2.1,jG hrm.2.2.2.2⟩
   ·cases hj
  ·rename_i Rk
   have Xz:=h.rows.row s (List.mem_of_getElem? hj)
   exact⟨Xz.1,Xz.2.1,Xz.2.2.1,Xz.2.2.2.1,jD (fun he=>Rk (h.inj hr hj he)) Xz.2.2.2.2⟩
theorem MG.put {i j mU:Nat} {r:EM α} {y:α} (h:MG f e lo hi b g H rs) (hr:rs[i]? = some r) (hj:j<r.xs.length) (eX:mU≤lo) (hv:(aB (f y)).length=e) (hs:(aB (f y)).all bQ=true) :
  cJ mU e (.ptr r.b r.g j 0) (f y) H=some (H.set r.b (.row r.g ((r.xs.set j y).map f) e true)) :=
 cR (f:=f) (h.row hr) hj (Nat.le_trans eX (h.rows.row r (List.mem_of_getElem? hr)).1) hv hs
theorem MG.lt {i:Nat} {r:EM α} (h:MG f e lo hi b g H rs) (hr:rs[i]? = some r):lo≤r.b∧r.b<hi∧r.b<H.length:=⟨(h.rows.row r (List.mem_of_getElem? hr)).1,(h.rows.row r (List.mem_of_getElem? hr)).2.1,yA (h.row hr)⟩
theorem MG.bK {c:Nat} (h:MG f e lo hi b g H rs) (hc:rs.length≤c):RG f e (rs.map (·.xs)) lo hi H (.ref b g 0 rs.length c) := .inr ⟨b,g,c,rs,h.blo,h.bhi,by rw[List.length_map],by rw[List.length_map];exact hc,h.out,rfl,h.rows⟩
theorem MG.fz {d c:Nat} (h:MG f e lo hi b g H rs) (hc:rs.length≤c) (hp:∀x,aO (f x)=true):PM.fz (d+3) H (.ref b g 0 rs.length c)=some (aZ (aZ f) (rs.map (·.xs))):=Ug hp h.out hc h.rows
theorem MG.wide {mU oV:Nat} (h:MG f e lo hi b g H rs) (hl:mU≤lo) (hh:hi≤oV):MG f e mU oV b g H rs:=⟨h.out,by have:=h.blo;omega,by have:=h.bhi;omega,h.rows.nd,fun r hr=>by
 obtain⟨k1,k2,k3,k4,k5⟩:=h.rows.row r hr
 exact⟨by omega,by omega,k3,k4,k5⟩⟩
end
theorem qE:type_of% (And.intro @AI<|And.intro @Bc<|And.intro @mM.eq_1<|And.intro @pO.eq_1<|And.intro @pO.eq_2<|And.intro @Dv.eq_1<|And.intro @Dv.eq_2<|And.intro @xI.eq_1<|And.intro @xI.eq_2<|And.intro @FE<|And.intro @A5<|And.intro @C9<|And.intro @CX<|And.intro @List.take_zero.{0}<|And.intro @List.take_succ_cons.{0}<|And.intro @List.take_nil.{0}<|And.intro @List.drop_zero.{0}<|And.intro @List.drop_succ_cons.{0}<|And.intro @List.drop_nil.{0}<|And.intro @List.append_nil.{0} <| @Nat.le_refl):=And.intro @AI<|And.intro @Bc<|And.intro @mM.eq_1<|And.intro @pO.eq_1<|And.intro @pO.eq_2<|And.intro @Dv.eq_1<|And.intro @Dv.eq_2<|And.intro @xI.eq_1<|And.intro @xI.eq_2<|And.intro @FE<|And.intro @A5<|And.intro @C9<|And.intro @CX<|And.intro @List.take_zero.{0}<|And.intro @List.take_succ_cons.{0}<|And.intro @List.take_nil.{0}<|And.intro @List.drop_zero.{0}<|And.intro @List.drop_succ_cons.{0}<|And.intro @List.drop_nil.{0}<|And.intro @List.append_nil.{0} <| @Nat.le_refl
def Uq (P:Nat→Nat→aA→VV→Prop) (H:aA) (r:VV) (H':aA):Prop:=H <+: H'∧P H.length H'.length H' r
theorem AV {F lo:Nat} {args:List VV} {P:Nat→Nat→aA→VV→Prop} {H:aA} {K:VV→aA→Prop} (rZ:AQ.contains F=true) (h:kG F args lo H (Uq P H)) (hk:∀r L,P H.length (H++L).length (H++L) r→K r (H++L)):cB F args lo H K:=by
 refine fX rZ (h.mono ?_)
 rintro r H' ⟨⟨L,rfl⟩,hP⟩
 exact hk r L hP
end Go.PM
namespace Go.PM
open Go.Lib
abbrev cell0:cI := .row 0 [.agg [VB false,.tree [] .nil,.tree [] .nil]] 3 true
def tK (qs:List Rat):Rat:=qs.foldl (· + ·) 0
theorem LH {qs:List Rat} {i:Nat} {q:Rat} (h:qs[i]? = some q):tK (qs.take (i+1))=tK (qs.take i)+q:=by
 rw[kM h,tK,List.foldl_append];rfl
theorem MO {B:Nat}:∀ {qs:List Rat},(∀q∈qs,dT q≤B)→∀a:Rat,dT (qs.foldl (· + ·) a)≤qs.length*(B+1)+dT a
 | [],_,a=>by simp
 |
  q::qs,h,a=>by
  have h1:=MO (fun x hx=>h x (List.mem_cons_of_mem _ hx)) (a+q)
  have h2:=MU a q
  have h3:=h q List.mem_cons_self
  rw[List.foldl_cons,List.length_cons,Nat.succ_mul]
  omega
theorem Be {B:Nat} {qs:List Rat} (h:∀q∈qs,dT q≤B) (i:Nat):dT (tK (qs.take i))≤qs.length*(B+1)+1:=by
 have h1:=MO (qs:=qs.take i) (fun q hq=>h q (List.mem_of_mem_take hq)) 0
 have h2:(qs.take i).length*(B+1)≤qs.length*(B+1):=Nat.mul_le_mul_right _ (by rw[List.length_take];omega)
 rw[DW] at h1
 unfold tK
 omega
set_option maxHeartbeats 1000000 in
abbrev rz:VV := .agg [VB false,.tree [] .nil,.tree [] .nil]
theorem BQ {H H1:aA} {b:Nat} {x:cI} (h:H <+: H1) (hb:H.length≤b):H <+: H1.set b x:=by
 obtain⟨L,rfl⟩:=h
 rw[List.set_append_right _ _ hb]
 exact List.prefix_append _ _
theorem Qp {H H1 L:aA} (h:H <+: H1):H <+: H1++L:=h.trans (List.prefix_append _ _)
theorem I4 {lo:Nat} {H:aA} {q:Rat} (h:lo≤H.length):cJ lo 3 (.ptr H.length 0 0 0) (bR q) (H++[cell0])=some (H++[.row 0 [bR q] 3 true]):=by
 rw[jL (g:=0) (e:=3) (j:=0) C8 (by exact Nat.zero_lt_one) h rfl rfl,Jc]
 rfl
theorem TW {H K:aA} {q:Rat}:dG true 3 (.ptr H.length 0 0 0) (H ++ .row 0 [bR q] 3 true::K)=some (bR q):=by
 rw[jN,IH,bG]
 exact eZ _
theorem Ri {lo:Nat} {H:aA} {v:VV} (qs:List Rat) {B:Nat} (hv:Rd bR 3 qs H v) (eX:lo≤H.length) (hb:∀q∈qs,dT q≤B) (hk:qs.length*(B+1)+1≤1099511627776) (hB:B≤1099511627776) (hn:qs.length≤1000000000) :
  kG 148 [v] lo H (Uq (fun _ _ _ r=>r=bR (tK qs)) H):=by
 refine kG.walk ⟨true,false⟩ RY (Nat.le_of_ble_eq_true rfl) ?_
 have e1:TC 97 [VI 0] (bR 0):=Bg 0 (by decide) (by decide)
 have e2:=hv.len (H++[cell0,.row 0 [bR 0] 3 true]) (List.prefix_append _ _)
 have s0:cJ lo 3 (.ptr (H.length+1) 0 0 0) (bR 0) (H++[cell0,cell0])=some (H++[cell0,.row 0 [bR 0] 3 true]):=by
  have:=I4 (lo:=lo) (H:=H++[cell0]) (q:=0) (by rw[List.length_append];omega)
  simpa only[List.length_append,List.length_cons,List.length_nil,Nat.zero_add,List.append_assoc,List.cons_append,List.nil_append] using this
 simp only[Pz,Kc,e1,e2,s0,List.length_append,List.length_cons,List.length_nil,List.append_assoc,List.cons_append,List.nil_append,qE,VX,Nat.reduceEqDiff,Nat.reduceAdd,Nat.reduceLeDiff,Nat.reduceLT,Nat.reduceSub]
 refine aN (fun(i:Nat) ρ H1=>i≤qs.length∧H <+: H1∧aK H1 H.length 0=some ([rz],3,true)∧aK H1 (H.length+1) 0=some ([bR (tK (qs.take i))],3,true)∧ρ 2 = .ptr H.length 0 0 0∧ρ 3 = .ptr (H.length+1) 0 0 0∧ρ 7=v∧ρ 8=VI qs.length∧ρ 9=VI i) (fun i=>qs.length-i) 0 ⟨Nat.zero_le _,List.prefix_append _ _,IH.trans bG,TN.trans (C0.trans bG),rfl,rfl,rfl,rfl,rfl⟩ ?_
 rintro i ρ H1 ⟨hi,hp,Mj,Om,g2,g3,g7,g8,g9⟩
 have DX:=yA Om
 by_cases cC:(i:Int)<(qs.length:Int)
 ·obtain⟨q,hq⟩:∃q,qs[i]? = some q:=⟨_,List.getElem?_eq_getElem (by omega)⟩
  obtain⟨p,a1,a2⟩:=hv.get H1 hp i q hq
  have a2':=(a2 true).trans (eZ _)
  have wi:IntKind.i64.wrap ((i:Int)+1)=((i+1:Nat):Int):=wrapN (i+1) (by omega) (by omega)
  have h1:=Be hb i
  have h2:=hb q (List.mem_of_getElem? hq)
  have h3:(i+1)*(B+1)≤qs.length*(B+1):=Nat.mul_le_mul_right _ (by omega)
  have e3:=B8 (tK (qs.take i)) q (by omega) (by omega)
  rw[←LH hq] at e3
  have s1:=I4 (lo:=lo) (H:=H1) (q:=q) (by omega)
  have s2:=TW (H:=H1) (K:=[]) (q:=q)
  have s3:dG true 3 (.ptr (H.length+1) 0 0 0) (H1++[.row 0 [bR q] 3 true])=some (bR (tK (qs.take i))):=by
   rw[jN,tJ Om]
   exact eZ _
  have s4:=jL (lo:=lo) (v:=bR (tK (qs.take (i+1)))) (j:=0) (tJ (L:=[.row 0 [bR q] 3 true]) Om) (by exact Nat.zero_lt_one) (by omega) rfl rfl
  rw[List.set_cons_zero] at s4
  simp only[B1,g2,g3,g7,g8,g9,cC,a1,a2',e3,s1,s2,s3,s4,wi,eZ,qE,VX,Nat.reduceEqDiff,Nat.reduceAdd,Nat.reduceLeDiff,Nat.reduceLT,Nat.reduceSub]
  exact⟨i+1,by omega,by omega,BQ (Qp hp) (by omega),jD (by omega) (tJ Mj),jG (tJ Om),by (repeat' apply And.intro)<;>first | rfl | trivial | assumption⟩
 ·have oU:i=qs.length:=by omega
  subst oU
  rw[List.take_length] at Om
  have s3:dG true 3 (.ptr (H.length+1) 0 0 0) H1=some (bR (tK qs)):=by
   rw[jN,Om]
   exact eZ _
  have s4:=jL (lo:=lo) (v:=bR (tK qs)) (j:=0) Mj (by exact Nat.zero_lt_one) eX rfl rfl
  rw[List.set_cons_zero] at s4
  have s5:dG true 3 (.ptr H.length 0 0 0) (H1.set H.length (.row 0 [bR (tK qs)] 3 true))=some (bR (tK qs)):=by
   rw[jN,jG Mj]
   exact eZ _
  simp only[B1,g2,g3,g8,g9,cC,s3,s4,s5,qE,VX,Nat.reduceEqDiff,Nat.reduceAdd,Nat.reduceLeDiff,Nat.reduceLT,Nat.reduceSub]
  exact⟨BQ hp (Nat.le_refl _),rfl⟩
theorem MC {q:Rat}:kR q<0↔q<0:=by
 have e:q.num<0↔q<0:=by rw[←Int.not_le,Rat.num_nonneg];constructor<;>intro h<;>grind
 rw[←e]
 rcases Int.lt_trichotomy q.num 0 with h | h | h
 ·rw[oE h];omega
 ·rw[lC h];omega
 ·rw[nQ h];omega
theorem Kf (q:Rat):TC 147 [bR q] (VB (decide (q<0))):=by
 refine TC.walk ⟨true,false⟩ JS rfl (Nat.le_of_ble_eq_true rfl) (by simp[aL,kE]) rfl ?_
 have e1:=lQ q
 by_cases h:kR q<0
 ·rw[decide_eq_true (MC.1 h)]
  simp only[AN,vN,e1,h,aG,dC,eZ,aY,aX,aP,jX,Nat.reduceLeDiff,Nat.reduceLT,Nat.reduceSub,B6,iQ,kQ,rE,xW,zB,bne_iff_ne,ne_eq,not_false_eq_true,not_true_eq_false,VX,Nat.reduceEqDiff,Nat.reduceAdd]
  exact aI rfl
 ·rw[decide_eq_false (mt MC.2 h)]
  simp only[AN,vN,e1,h,aG,dC,eZ,aY,aX,aP,jX,Nat.reduceLeDiff,Nat.reduceLT,Nat.reduceSub,B6,iQ,kQ,rE,xW,zB,bne_iff_ne,ne_eq,not_false_eq_true,not_true_eq_false,VX,Nat.reduceEqDiff,Nat.reduceAdd]
  exact aI rfl
theorem A0 (xs:List Rat) (g:Nat) (p:Rat→Bool) (hg:∀x∈xs,TC g [bR x] (VB (p x))) (hn:xs.length≤1000000000) :
  ∃k:Int,(0≤k↔xs.any p=true)∧TC 205 [aZ bR xs,.sY g []] (VI k):=by
 refine⟨match xs.findIdx? p with | some i=>i | none => -1,?_,?_⟩
 ·cases h:xs.findIdx? p with
  |
   none =>
   rw[List.findIdx?_eq_none_iff] at h
   simp only[List.any_eq_true]
   constructor
   ·intro h';omega
   ·rintro⟨x,hx,hp⟩;rw[h x hx] at hp;cases hp
  |
   some i =>
   simp only[List.any_eq_true]
   obtain⟨hi,hp,_⟩:=List.findIdx?_eq_some_iff_getElem.1 h
   exact⟨fun _=>⟨_,List.getElem_mem hi,hp⟩,fun _=>by omega⟩
 ·refine TC.walk ⟨true,false⟩ mX rfl (Nat.le_of_ble_eq_true rfl) (by simp[aL,AW];rfl) rfl ?_
  simp only[gR,fZ,VX,Nat.reduceEqDiff,Nat.reduceAdd]
  refine aN (fun(i:Nat) ρ H=>i≤xs.length∧H=[]∧(∀j x,j<i→xs[j]? = some x→p x=false)∧ρ 0=aZ bR xs∧ρ 1 = .sY g []∧ρ 7=VI xs.length∧ρ 8=VI i) (fun i=>xs.length-i) 0 ⟨Nat.zero_le _,rfl,fun j x h=>by omega,rfl,rfl,rfl,rfl⟩ ?_
  rintro i ρ H ⟨hi,rfl,kB,h0,h1,h7,h8⟩
  by_cases cC:(i:Int)<(xs.length:Int)
  ·obtain⟨x,hx⟩:∃x,xs[i]? = some x:=⟨_,List.getElem?_eq_getElem (by omega)⟩
   have e1:=aF (f:=bR) (t := .op) (H:=[]) (size:=3) (k := .i64) hx rfl
   have wi:IntKind.i64.wrap ((i:Int)+1)=((i+1:Nat):Int):=wrapN (i+1) (by omega) (by omega)
   have e2:=hg x (List.mem_of_getElem? hx)
   cases hp:p x with
   |
    false =>
    rw[hp] at e2
    simp only[bZ,h0,h1,h7,h8,cC,e1,e2,wi,AM,List.append_nil,aG,dC,eZ,aY,aX,aP,VX,Nat.reduceEqDiff,Nat.reduceAdd]
    refine⟨i+1,by omega,by omega,fun j y hj hy => ?_,by (repeat' apply And.intro)<;>first | rfl | trivial⟩
    rcases Nat.lt_or_ge j i with KY | KY
    ·exact kB j y KY hy
    ·have:j=i:=by omega
     subst this
     rw[hx] at hy
     injection hy with hy
     exact hy▸hp
   |
    true =>
    rw[hp] at e2
    simp only[bZ,h0,h1,h7,h8,cC,e1,e2,wi,AM,List.append_nil,aG,dC,eZ,aY,aX,aP,VX,Nat.reduceEqDiff,Nat.reduceAdd]
    have:xs.findIdx? p=some i:=by
     rw[List.findIdx?_eq_some_iff_getElem]
     obtain⟨aV,AF⟩:=List.getElem?_eq_some_iff.1 hx
     exact⟨aV,by rw[AF];exact hp,fun j hj=>by
      have:=kB j _ hj (List.getElem?_eq_getElem (by omega))
      simp[this]⟩
    rw[this]
    exact aI rfl
  ·simp only[bZ,h0,h1,h7,h8,cC,VX,Nat.reduceEqDiff,Nat.reduceAdd]
   have:xs.findIdx? p=none:=by
    rw[List.findIdx?_eq_none_iff]
    intro x hx
    obtain⟨j,hj⟩:=List.getElem?_of_mem hx
    exact kB j x (by have:=(List.getElem?_eq_some_iff.1 hj).1;omega) hj
   rw[this]
   exact aI rfl
theorem xN (xs:List Rat) (g:Nat) (p:Rat→Bool) (hg:∀x∈xs,TC g [bR x] (VB (p x))) (hn:xs.length≤1000000000):TC 146 [aZ bR xs,.sY g []] (VB (xs.any p)):=by
 refine TC.walk ⟨true,false⟩ lD rfl (Nat.le_of_ble_eq_true rfl) (by simp[aL,AW];rfl) rfl ?_
 obtain⟨k,hk,hc⟩:=A0 xs g p hg hn
 have e:decide (0≤k)=xs.any p:=by
  cases h:xs.any p with
  | true=>rw[decide_eq_true (hk.2 h)]
  | false=>rw[decide_eq_false fun h'=>by rw[hk.1 h'] at h;cases h]
 simp only[fT,fH,hc,e,VX,Nat.reduceEqDiff,Nat.reduceAdd]
 exact aI rfl
def jA (qs:List Rat):Bool := !(qs.any fun q=>decide (q<0))&&decide (tK qs=1)
def oW (xs:List ByteArray):Option (List Rat):=match Bo xs with
 | some qs=>if jA qs=true then some qs else none
 | none=>none
theorem K5 {xs:List ByteArray} {qs:List Rat} (h:oW xs=some qs):Bo xs=some qs∧jA qs=true:=by
 unfold oW at h
 split at h
 ·rename_i ps hp
  split at h
  ·rename_i hw
   cases h
   exact⟨hp,hw⟩
  ·cases h
 ·cases h
theorem JE {n:Nat} (h:n≤300):n*(665+1)+1≤1099511627776:=by omega
theorem B4 {xs:List ByteArray} {qs:List Rat} (h:Bo xs=some qs):oW xs=if jA qs=true then some qs else none:=by unfold oW;rw[h]
theorem Hi {xs:List ByteArray} (h:Bo xs=none):oW xs=none:=by unfold oW;rw[h]
theorem wZ:LB none = .dY [aZ bR [],VB false]:=rfl
theorem Et (qs:List Rat):LB (some qs) = .dY [aZ bR qs,VB true]:=rfl
set_option maxHeartbeats 1000000 in
theorem FY (xs:List ByteArray) (hn:xs.length≤1000000000) (hs:∀s∈xs,s.size≤1000000000):TC 114 [eK xs] (LB (oW xs)):=by
 refine TC.walk ⟨true,false⟩ Ga rfl (Nat.le_of_ble_eq_true rfl) (by simp[aL,dF]) (LD _) ?_
 have e1:=Qg xs hn hs
 cases h:Bo xs with
 |
  none =>
  rw[h,wZ] at e1
  rw[Hi h,wZ]
  simp only[nA,kO,e1,VX,Nat.reduceEqDiff,Nat.reduceAdd]
  exact D0
 |
  some qs =>
  rw[h,Et] at e1
  rw[B4 h]
  obtain⟨hb,hl,_⟩:=El h
  have e2:=xN qs 147 (fun q=>decide (q<0)) (fun q _=>Kf q) (by omega)
  have hm:qs.length*666≤199800:=by omega
  have e3:=fun(K:aA)=>Ri (lo:=0) (H:=K) (v:=aZ bR qs) qs (B:=665) (Rd.tree G3) (Nat.zero_le _) hb (JE hl) (by decide) (by omega)
  have ZM:=Be hb qs.length
  rw[List.take_length] at ZM
  have e4:=F1 (tK qs) (by omega)
  cases ID:qs.any (fun q=>decide (q<0)) with
  |
   true =>
   rw[ID] at e2
   have hw:¬jA qs=true:=by unfold jA;rw[ID];simp
   rw[if_neg hw,wZ]
   simp only[nA,kO,e1,e2,VX,Nat.reduceEqDiff,Nat.reduceAdd]
   exact D0
  |
   false =>
   rw[ID] at e2
   by_cases VD:tK qs=1
   ·rw[decide_eq_true VD] at e4
    have hw:jA qs=true:=by unfold jA;rw[ID,decide_eq_true VD];rfl
    rw[if_pos hw,Et]
    simp only[nA,kO,e1,e2,VX,Nat.reduceEqDiff,Nat.reduceAdd]
    refine AV rfl (e3 _) fun r L hr => ?_
    subst hr
    simp only[e4,VX,Nat.reduceEqDiff,Nat.reduceAdd]
    exact aI (Wj (AW _) rfl)
   ·rw[decide_eq_false VD] at e4
    have hw:¬jA qs=true:=by unfold jA;rw[ID,decide_eq_false VD];simp
    rw[if_neg hw,wZ]
    simp only[nA,kO,e1,e2,VX,Nat.reduceEqDiff,Nat.reduceAdd]
    refine AV rfl (e3 _) fun r L hr => ?_
    subst hr
    simp only[e4,VX,Nat.reduceEqDiff,Nat.reduceAdd]
    exact D0
end Go.PM
namespace Go.PM
open Go.Lib
end Go.PM
namespace Go.PM
end Go.PM
namespace Go.PM
open Go.Lib
end Go.PM
namespace Go.PM
end Go.PM
namespace Go.PM
def KR (cs:List iT) (i:Nat):Int:=((cs[i]?).map (·.t)).getD 0
def Ww (cs:List iT) (i:Nat):Int:=((cs[i]?).map (·.w)).getD 0
def klC (cs:List iT) (i:Nat):Int:=((cs[i]?).map (·.k)).getD 0
def Gq (st:List Int) (i:Nat):Int:=(st[i]?).getD 0
theorem RD {cs:List iT} {i:Nat} {x:iT} (h:cs[i]? = some x):KR cs i=x.t:=by simp[KR,h]
theorem afM {cs:List iT} {i:Nat} {x:iT} (h:cs[i]? = some x):Ww cs i=x.w:=by simp[Ww,h]
theorem XP {st:List Int} {i:Nat} {x:Int} (h:st[i]? = some x):Gq st i=x:=by simp[Gq,h]
def inS (cs:List iT) (st:List Int) (t:Int) (i:Nat):Bool:=decide (0≤Gq st i)&&decide (Gq st i≤t)&&decide (t<Gq st i+Ww cs i)
def bz (cs:List iT) (st:List Int) (t:Int):Nat:=(List.range cs.length).countP (inS cs st t)
def isW (cs:List iT) (st:List Int) (t:Int) (i:Nat):Bool:=decide (Gq st i<0)&&decide (KR cs i≤t)
def wt (cs:List iT) (st:List Int) (t:Int):List Nat:=(List.range cs.length).filter (isW cs st t)
def Ix (bT:Int) (cs:List iT) (i k:Nat):Bool :=
 if bT=1 then true else if bT=2 then decide (Ww cs i<Ww cs k) else if bT=3 then decide (klC cs i<klC cs k) else false
def yM (bT:Int) (cs:List iT) (b:Option Nat) (i:Nat):Option Nat:=match b with
 | none=>some i
 | some k=>if Ix bT cs i k then some i else some k
def Z2 (bT:Int) (cs:List iT) (st:List Int) (t:Int):Option Nat:=(wt cs st t).foldl (yM bT cs) none
def fill (bT qP:Int) (cs:List iT) (t:Int):Nat→List Int→List Int
 | 0,st=>st
 |
  n+1,st=>if (bz cs st t:Int)<qP then (match Z2 bT cs st t with
  | none=>st
  | some k=>fill bT qP cs t n (st.set k t)) else st
def full (bT qP:Int) (cs:List iT) (st:List Int) (t:Int):Prop:=qP≤(bz cs st t:Int)∨Z2 bT cs st t=none
def runT (bT qP:Int) (cs:List iT):Int→Nat→List Int→List Int
 | _,0,st=>st
 | t,n+1,st=>runT bT qP cs (t+1) n (fill bT qP cs t cs.length st)
def stL (bT qP:Int) (cs:List iT):List Int:=runT bT qP cs 0 100000 (List.replicate cs.length (-1))
section
variable {bT qP:Int} {cs:List iT} {st:List Int} {t:Int}
theorem vK (h:full bT qP cs st t) (n:Nat):fill bT qP cs t n st=st:=by
 cases n with
 | zero=>rfl
 |
  succ n =>
  rw[fill]
  rcases h with h | h
  ·rw[if_neg (by omega)]
  ·split
   ·rw[h]
   ·rfl
theorem MP (m:Nat):∀(t:Int) (n:Nat),(∀u,t≤u→u<t+m→full bT qP cs st u)→m≤n→runT bT qP cs t n st=runT bT qP cs (t+m) (n-m) st:=by
 induction m with
 | zero=>intro t n _ _;simp
 |
  succ m ih =>
  intro t n h hm
  obtain⟨n,rfl⟩:∃k,n=k+1:=⟨n-1,by omega⟩
  rw[runT,vK (h t (Int.le_refl _) (by omega)),ih (t+1) n (fun u h1 h2=>h u (by omega) (by omega)) (by omega)]
  congr 1
  ·omega
  ·omega
theorem Wg (n:Nat):∀(t:Int),(∀u,t≤u→full bT qP cs st u)→runT bT qP cs t n st=st:=by
 intro t h
 rw[MP n t n (fun u h1 _=>h u h1) (Nat.le_refl _),Nat.sub_self]
 rfl
theorem Tg {a b:Int} (ha:0≤a) (Gz:a≤b) (hb:b≤100000) (h:∀u,a≤u→u<b→full bT qP cs st u):runT bT qP cs a (100000-a).toNat st=runT bT qP cs b (100000-b).toNat st:=by
 rw[MP (b-a).toNat a _ (fun u h1 h2=>h u h1 (by omega)) (by omega)]
 congr 1
 ·omega
 ·omega
theorem X4 {a:Int} (ha:0≤a) (hb:a<100000):runT bT qP cs a (100000-a).toNat st=runT bT qP cs (a+1) (100000-(a+1)).toNat (fill bT qP cs a cs.length st):=by
 rw[show (100000-a).toNat=(100000-(a+1)).toNat+1 by omega,runT]
theorem Mu {ws:List Nat} {k:Nat}:∃j,(ws.foldl (yM bT cs) (some k))=some j∧(j=k∨j∈ws):=by
 induction ws generalizing k with
 | nil=>exact⟨k,rfl,.inl rfl⟩
 |
  cons i ws ih =>
  rw[List.foldl_cons]
  have:∃q,yM bT cs (some k) i=some q∧(q=k∨q=i):=by
   unfold yM
   simp only
   split
   ·exact⟨i,rfl,.inr rfl⟩
   ·exact⟨k,rfl,.inl rfl⟩
  obtain⟨q,hq,hqq⟩:=this
  rw[hq]
  obtain⟨j,h1,h2⟩:=ih (k:=q)
  refine⟨j,h1,?_⟩
  rcases h2 with rfl | h2
  ·rcases hqq with rfl | rfl
   ·exact .inl rfl
   ·exact .inr List.mem_cons_self
  ·exact .inr (List.mem_cons_of_mem _ h2)
theorem wA:Z2 bT cs st t=none↔wt cs st t=[]:=by
 unfold Z2
 cases h:wt cs st t with
 | nil=>exact⟨fun _=>rfl,fun _=>rfl⟩
 |
  cons i ws =>
  refine⟨fun h2 => ?_,fun h2=>(by cases h2)⟩
  rw[List.foldl_cons] at h2
  obtain⟨j,h3,_⟩:=Mu (bT:=bT) (cs:=cs) (ws:=ws) (k:=i)
  rw[show yM bT cs none i=some i from rfl,h3] at h2
  cases h2
theorem Ng {k:Nat} (h:Z2 bT cs st t=some k):k∈wt cs st t:=by
 unfold Z2 at h
 cases hw:wt cs st t with
 | nil=>rw[hw] at h;cases h
 |
  cons i ws =>
  rw[hw,List.foldl_cons] at h
  obtain⟨j,h3,h4⟩:=Mu (bT:=bT) (cs:=cs) (ws:=ws) (k:=i)
  rw[show yM bT cs none i=some i from rfl,h3] at h
  injection h with h
  subst h
  rcases h4 with rfl | h4
  ·exact List.mem_cons_self
  ·exact List.mem_cons_of_mem _ h4
theorem KH {k:Nat}:k∈wt cs st t↔k<cs.length∧Gq st k<0∧KR cs k≤t:=by
 simp[wt,isW]
theorem X3:(wt cs st t).Nodup:=List.Pairwise.filter _ List.nodup_range
theorem Fa {k i:Nat} (hk:k<st.length):Gq (st.set k t) i=if i=k then t else Gq st i:=by
 unfold Gq
 rw[List.getElem?_set]
 by_cases h:i=k
 ·subst h
  simp[hk]
 ·rw[if_neg (fun h'=>h h'.symm),if_neg h]
theorem Oh {p q:Nat→Bool} {k:Nat} (hp:p k=false) (h:∀i,i≠k→q i=p i):∀n,(List.range n).countP q=(List.range n).countP p+if k<n∧q k=true then 1 else 0:=by
 intro n
 induction n with
 | zero=>simp
 |
  succ n ih =>
  rw[List.range_succ,List.countP_append,List.countP_append,ih]
  by_cases hk:n=k
  ·subst hk
   simp only[List.countP_singleton,hp]
   cases hq:q n<;>simp
  ·rw[List.countP_singleton,List.countP_singleton,h n hk]
   have:(k<n+1∧q k=true)↔(k<n∧q k=true):=by
    constructor
    ·rintro⟨h1,h2⟩;exact⟨by omega,h2⟩
    ·rintro⟨h1,h2⟩;exact⟨by omega,h2⟩
   simp only[this]
   omega
theorem ahE {k:Nat} {u:Int} (hk:k<cs.length) (hl:st.length=cs.length) (hs:Gq st k<0) (h0:0≤t):bz cs (st.set k t) u=bz cs st u+if t≤u∧u<t+Ww cs k then 1 else 0:=by
 unfold bz
 rw[Oh (p:=inS cs st u) (q:=inS cs (st.set k t) u) (k:=k)]
 ·congr 1
  have:(k<cs.length∧inS cs (st.set k t) u k=true)↔(t≤u∧u<t+Ww cs k):=by
   simp only[inS,Fa (t:=t) (i:=k) (by omega:k<st.length),if_true,Bool.and_eq_true,decide_eq_true_eq]
   constructor
   ·rintro⟨_,⟨_,h1⟩,h2⟩;exact⟨h1,h2⟩
   ·rintro⟨h1,h2⟩;exact⟨hk,⟨h0,h1⟩,h2⟩
  simp only[this]
 ·simp only[inS]
  rw[decide_eq_false (by omega)]
  rfl
 ·intro i hi
  simp only[inS,Fa (t:=t) (i:=i) (by omega:k<st.length),if_neg hi]
theorem aeU {k:Nat} {u:Int} (hl:st.length=cs.length) (hk:k<cs.length) (h0:0≤t):wt cs (st.set k t) u=(wt cs st u).filter (· != k):=by
 unfold wt
 rw[List.filter_filter]
 refine List.filter_congr fun i hi => ?_
 simp only[isW,Fa (t:=t) (i:=i) (by omega:k<st.length)]
 by_cases h:i=k
 ·subst h
  simp
  omega
 ·simp[h]
def Ej (st:List Int):Nat:=st.countP (fun s=>decide (s<0))
theorem zZ {k:Nat} (hk:k<st.length) (hs:Gq st k<0) (h0:0≤t):Ej (st.set k t)+1=Ej st:=by
 unfold Ej
 rw[List.countP_set hk]
 have hx:st[k]=Gq st k:=by
  rw[XP (x:=st[k]) (List.getElem?_eq_getElem hk)]
 have h1:decide (st[k]<0)=true:=by rw[hx];exact decide_eq_true hs
 have h2:decide (t<0)=false:=decide_eq_false (by omega)
 have h3:0<st.countP (fun s=>decide (s<0)):=by
  rw[List.countP_pos_iff]
  exact⟨st[k],List.getElem_mem hk,h1⟩
 simp only[h1,h2,if_true,Bool.false_eq_true,if_false]
 omega
theorem UT (hl:st.length=cs.length) (h0:0≤t):∀(n m:Nat),Ej st≤n→Ej st≤m→fill bT qP cs t n st=fill bT qP cs t m st:=by
 intro n
 induction n generalizing st with
 |
  zero =>
  intro m hn hm
  have hf:full bT qP cs st t:=by
   right
   rw[wA]
   cases hw:wt cs st t with
   | nil=>rfl
   |
    cons i ws =>
    have h1:i∈wt cs st t:=by rw[hw];exact List.mem_cons_self
    obtain⟨h2,h3,_⟩:=KH.1 h1
    have:=zZ (t:=t) (by omega:i<st.length) h3 h0
    omega
  rw[vK hf,vK hf]
 |
  succ n ih =>
  intro m hn hm
  cases m with
  |
   zero =>
   have hf:full bT qP cs st t:=by
    right
    rw[wA]
    cases hw:wt cs st t with
    | nil=>rfl
    |
     cons i ws =>
     have h1:i∈wt cs st t:=by rw[hw];exact List.mem_cons_self
     obtain⟨h2,h3,_⟩:=KH.1 h1
     have:=zZ (t:=t) (by omega:i<st.length) h3 h0
     omega
   rw[vK hf,vK hf]
  |
   succ m =>
   rw[fill,fill]
   split
   ·split
    ·rfl
    ·rename_i k hk
     obtain⟨h2,h3,_⟩:=KH.1 (Ng hk)
     have:=zZ (t:=t) (by omega:k<st.length) h3 h0
     exact ih (by simp[hl]) m (by omega) (by omega)
   ·rfl
theorem TV:Ej st≤st.length:=List.countP_le_length
theorem Vf {k:Nat} (hl:st.length=cs.length) (h0:0≤t) (hb:(bz cs st t:Int)<qP) (hk:Z2 bT cs st t=some k):fill bT qP cs t cs.length (st.set k t)=fill bT qP cs t cs.length st:=by
 obtain⟨h2,h3,_⟩:=KH.1 (Ng hk)
 have h4:=zZ (t:=t) (by omega:k<st.length) h3 h0
 have h5:=TV (st:=st)
 rw[UT (st:=st) hl h0 cs.length (cs.length+1) (by omega) (by omega)]
 conv=>rhs;rw[fill,if_pos hb,hk]
def evT (cs:List iT) (st:List Int) (i:Nat):Int:=if 0≤Gq st i then Gq st i+Ww cs i else KR cs i
def aeP (cs:List iT) (st:List Int) (t:Int) (b:Int) (i:Nat):Int:=if t<evT cs st i∧(b<0∨evT cs st i<b) then evT cs st i else b
def later (cs:List iT) (st:List Int) (t:Int):Int:=(List.range cs.length).foldl (aeP cs st t) (-1)
structure Way (cs:List iT) (st:List Int) (t:Int):Prop where
 len:st.length=cs.length
 low:∀i,i<cs.length → -1≤Gq st i
 high:∀i,i<cs.length→Gq st i≤t
 bd:∀i,i<cs.length→Gq st i+1000*(Ej st:Int)≤10000+1000*(cs.length:Int)
 tm:0≤t∧t+1000*(Ej st:Int)≤11000+1000*(cs.length:Int)
theorem Way.set {k:Nat} (h:Way cs st t) (hk:k<cs.length) (hs:Gq st k<0):Way cs (st.set k t) t:=by
 have hl:=h.len
 have Wz:=h.tm
 have h4:=zZ (t:=t) (by omega:k<st.length) hs Wz.1
 refine⟨by simp[hl],fun i hi => ?_,fun i hi => ?_,fun i hi => ?_,Wz.1,by omega⟩
 all_goals rw[Fa (by omega:k<st.length)]
 ·have:=h.low i hi
  split<;>omega
 ·have:=h.high i hi
  split<;>omega
 ·have:=h.bd i hi
  split<;>omega
theorem Way.le (h:Way cs st t) (hc:lK cs):t≤35000∧∀i,i<cs.length→Gq st i≤34000:=by
 have hlen:=hc.2
 have Wz:=h.tm
 refine⟨by omega,fun i hi => ?_⟩
 have:=h.bd i hi
 omega
theorem lK.bnd (hc:lK cs) {i:Nat} (hi:i<cs.length):(0≤KR cs i∧KR cs i≤10000)∧(1≤Ww cs i∧Ww cs i≤1000):=by
 have hx:cs[i]? = some cs[i]:=List.getElem?_eq_getElem hi
 have:=hc.at hx
 rw[RD hx,afM hx]
 exact⟨this.1,this.2.1⟩
def J1 (bT:Int) (cs:List iT) (ws:List Nat):Nat :=
 if bT=1 then ws.length-1 else if bT=2∨bT=3 then (List.range ws.length).foldl (fun b k=>if Ix bT cs (ws.getD k 0) (ws.getD b 0) then k else b) 0 else 0
theorem R8 {ws:List Nat} {k:Nat} (h:∀i j,Ix bT cs i j=false):ws.foldl (yM bT cs) (some k)=some k:=by
 induction ws with
 | nil=>rfl
 |
  cons i ws ih =>
  rw[List.foldl_cons]
  have:yM bT cs (some k) i=some k:=by
   unfold yM
   simp only[h]
   rfl
  rw[this,ih]
theorem Yt {ws:List Nat} (eW:ws≠[]) (hr:0≤bT∧bT≤3):J1 bT cs ws<ws.length∧ws[J1 bT cs ws]? = ws.foldl (yM bT cs) none:=by
 have hlen:0<ws.length:=List.length_pos_iff.2 eW
 unfold J1
 by_cases h1:bT=1
 ·rw[if_pos h1]
  rcases List.eq_nil_or_concat ws with rfl | ⟨xs,y,rfl⟩
  ·exact absurd rfl eW
  ·rw[List.concat_eq_append,List.foldl_append]
   refine⟨by simp,?_⟩
   simp only[List.length_append,List.length_cons,List.length_nil,Nat.zero_add,Nat.add_sub_cancel,List.foldl_cons,List.foldl_nil]
   rw[List.getElem?_append_right (Nat.le_refl _),Nat.sub_self]
   unfold yM
   split
   ·rfl
   ·simp only[Ix,if_pos h1,if_true]
    rfl
 ·rw[if_neg h1]
  by_cases h2:bT=2∨bT=3
  ·rw[if_pos h2]
   have aoW:∀i,Ix bT cs i i=false:=fun i=>by
    unfold Ix
    rw[if_neg h1]
    split
    ·exact decide_eq_false (by omega)
    ·split
     ·exact decide_eq_false (by omega)
     ·rfl
   have key:∀n,n<ws.length→(List.range (n+1)).foldl (fun b k=>if Ix bT cs (ws.getD k 0) (ws.getD b 0) then k else b) 0<ws.length ∧
     ws[(List.range (n+1)).foldl (fun b k=>if Ix bT cs (ws.getD k 0) (ws.getD b 0) then k else b) 0]? = (ws.take (n+1)).foldl (yM bT cs) none:=by
    intro n
    induction n with
    |
     zero =>
     intro _
     have:(List.range (0+1)).foldl (fun b k=>if Ix bT cs (ws.getD k 0) (ws.getD b 0) then k else b) 0=0:=by
      simp[List.range_succ,aoW]
     rw[this]
     refine⟨hlen,?_⟩
     cases ws with
     | nil=>exact absurd rfl eW
     | cons i ws=>rfl
    |
     succ n ih =>
     intro hn
     obtain⟨g1,g2⟩:=ih (by omega)
     rw[List.range_succ,List.foldl_append,List.foldl_cons,List.foldl_nil]
     generalize (List.range (n+1)).foldl (fun b k=>if Ix bT cs (ws.getD k 0) (ws.getD b 0) then k else b) 0=b at *
     obtain⟨x,hx⟩:∃x,ws[n+1]? = some x:=⟨_,List.getElem?_eq_getElem hn⟩
     obtain⟨y,hy⟩:∃y,ws[b]? = some y:=⟨_,List.getElem?_eq_getElem g1⟩
     rw[List.take_add_one,hx,List.foldl_append,←g2,hy]
     simp only[Option.toList_some,List.foldl_cons,List.foldl_nil,List.getD_eq_getElem?_getD,hx,hy,Option.getD_some,yM]
     split
     ·exact⟨hn,hx⟩
     ·exact⟨g1,hy⟩
   have:=key (ws.length-1) (by omega)
   rw[show ws.length-1+1=ws.length by omega,List.take_of_length_le (Nat.le_refl _)] at this
   exact this
  ·rw[if_neg h2]
   refine⟨hlen,?_⟩
   have hb:∀i j,Ix bT cs i j=false:=fun i j=>by
    unfold Ix
    rw[if_neg h1,if_neg (by omega),if_neg (by omega)]
   cases ws with
   | nil=>exact absurd rfl eW
   |
    cons i ws =>
    rw[List.foldl_cons,show yM bT cs none i=some i from rfl,R8 hb]
    rfl
end
end Go.PM
namespace Go.PM
def R3 (st:List Int) (i:Nat):Bool:=decide (Gq st i<0)
def gtB (u e:Int):Bool:=decide (u<e)
section
variable {bT qP:Int} {cs:List iT} {st:List Int} {t:Int}
theorem lK.sorted (hc:lK cs):∀ {i j:Nat},i≤j→j<cs.length→KR cs i≤KR cs j:=by
 intro i j Rk hj
 induction j with
 |
  zero =>
  have:i=0:=by omega
  subst this
  exact Int.le_refl _
 |
  succ j ih =>
  rcases Nat.lt_or_ge i (j+1) with h | h
  ·have h1:=ih (by omega) (by omega)
   have hx:cs[j+1]? = some cs[j+1]:=List.getElem?_eq_getElem hj
   have hy:cs[j]? = some cs[j]:=List.getElem?_eq_getElem (by omega)
   have h2:=(hc.1 (j+1) _ hx).2 _ (by omega) (by rw[Nat.add_sub_cancel];exact hy)
   rw[RD hx]
   rw[RD hy] at h1
   omega
  ·have:i=j+1:=by omega
   subst this
   exact Int.le_refl _
theorem FL {dZ:Nat} (amH:dZ≤cs.length) (past:∀i,i<dZ→KR cs i≤t) (ZR:∀i,dZ≤i→i<cs.length→t<KR cs i):wt cs st t=(List.range dZ).filter (R3 st):=by
 unfold wt
 rw[show cs.length=dZ+(cs.length-dZ) by omega,List.range_add,List.filter_append]
 have h1:(List.range dZ).filter (isW cs st t)=(List.range dZ).filter (R3 st):=by
  refine List.filter_congr fun i hi => ?_
  rw[List.mem_range] at hi
  simp[isW,R3,past i hi]
 have h2:((List.range (cs.length-dZ)).map fun x=>dZ+x).filter (isW cs st t)=[]:=by
  rw[List.filter_eq_nil_iff]
  intro i hi
  obtain⟨j,hj,rfl⟩:=List.mem_map.1 hi
  rw[List.mem_range] at hj
  have:=ZR (dZ+j) (by omega) (by omega)
  simp only[isW,Bool.and_eq_true,decide_eq_true_eq]
  omega
 rw[h1,h2,List.append_nil]
structure Nf (bT qP:Int) (cs:List iT) (st:List Int) (t:Int) (dZ:Nat) (ws:List Nat) (ends:List Int):Prop where
 len:st.length=cs.length
 low:∀i,i<cs.length → -1≤Gq st i
 high:∀i,i<cs.length→Gq st i≤t
 bd:∀i,i<cs.length→Gq st i+1000*(Ej st:Int)≤10000+1000*(cs.length:Int)
 tm : -1≤t
 LC:dZ≤cs.length
 past:∀i,i<dZ→KR cs i≤t
 ZR:∀i,dZ≤i→i<cs.length→t<KR cs i∧Gq st i<0
 wsq:ws=wt cs st t
 cnt:∀u,t≤u→ends.countP (gtB u)=bz cs st u
 ef:∀e∈ends,t<e
 eb:∀e∈ends,e+1000*(Ej st:Int)≤11000+1000*(cs.length:Int)
 fl:full bT qP cs st t
 room:ws.length+ends.length≤dZ
 es:(ends.length:Int)≤qP
 run:runT bT qP cs (t+1) (100000-(t+1)).toNat st=stL bT qP cs
theorem Fy {n i:Nat} (h:i<n):Gq (List.replicate n (-1)) i = -1:=XP (by rw[List.getElem?_replicate,if_pos h])
theorem Nf.start (hc:lK cs) (hs:1≤qP):Nf bT qP cs (List.replicate cs.length (-1)) (-1) 0 [] []:=by
 have hw:wt cs (List.replicate cs.length (-1)) (-1)=[]:=by
  rw[FL (Nat.zero_le _) (fun i hi=>by omega) fun i _ hi=>by have:=hc.bnd hi;omega]
  rfl
 have hu:Ej (List.replicate cs.length (-1))=cs.length:=by simp[Ej,List.countP_replicate]
 refine⟨by simp,fun i hi=>by rw[Fy hi];decide,fun i hi=>by rw[Fy hi];decide,fun i hi=>by rw[Fy hi,hu];omega,by decide,Nat.zero_le _,fun i hi=>by omega,fun i _ hi=>⟨by have:=hc.bnd hi;omega,by rw[Fy hi];decide⟩,hw.symm,fun u _ => ?_,fun e he=>(by cases he),fun e he=>(by cases he),.inr (wA.2 hw),Nat.le_refl _,by simp;omega,rfl⟩
 unfold bz
 rw[(List.countP_eq_zero (p:=inS cs (List.replicate cs.length (-1)) u)).2]
 ·rfl
 ·intro i hi
  rw[List.mem_range] at hi
  simp only[inS,Fy hi,Bool.and_eq_true,decide_eq_true_eq]
  omega
def Ol (w:Bool) (b e:Int):Int:=if b<0∨(w=true∧e<b) then e else b
theorem afB {es:List Int} {b:Int} (h:0≤b):es.foldl (Ol false) b=b:=by
 induction es with
 | nil=>rfl
 |
  cons e es ih =>
  rw[List.foldl_cons]
  have:Ol false b e=b:=by
   unfold Ol
   rw[if_neg (by simp;omega)]
  rw[this,ih]
theorem adY:∀ {es:List Int} {b:Int},(∀e∈es,0≤e)→(es.foldl (Ol true) b=b∨es.foldl (Ol true) b∈es)∧(∀e∈es,es.foldl (Ol true) b≤e)∧(0≤b→es.foldl (Ol true) b≤b)∧(es≠[]→0≤es.foldl (Ol true) b)
 | [],b,_=>⟨.inl rfl,fun e he=>(by cases he),fun _=>Int.le_refl _,fun h=>absurd rfl h⟩
 |
  e::es,b,h=>by
  rw[List.foldl_cons]
  have h1:=h e List.mem_cons_self
  have h2:∀e'∈es,0≤e':=fun e' he=>h e' (List.mem_cons_of_mem _ he)
  have hm:(Ol true b e=b∨Ol true b e=e)∧Ol true b e≤e∧(0≤b→Ol true b e≤b)∧0≤Ol true b e:=by
   unfold Ol
   by_cases hc:b<0∨(true=true∧e<b)
   ·rw[if_pos hc]
    refine⟨.inr rfl,Int.le_refl _,fun hb => ?_,h1⟩
    rcases hc with hc | hc<;>omega
   ·rw[if_neg hc]
    simp at hc
    exact⟨.inl rfl,hc.2,fun _=>Int.le_refl _,hc.1⟩
  obtain⟨m1,m2,m3,m4⟩:=hm
  obtain⟨g1,g2,g3,g4⟩:=adY (es:=es) (b:=Ol true b e) h2
  have g3:=g3 m4
  refine⟨?_,?_,fun hb=>by have:=m3 hb;omega,fun _ => ?_⟩
  ·rcases g1 with g1 | g1
   ·rw[g1]
    rcases m1 with m1 | m1
    ·exact .inl m1
    ·rw[m1];exact .inr List.mem_cons_self
   ·exact .inr (List.mem_cons_of_mem _ g1)
  ·intro e' he
   rcases List.mem_cons.1 he with rfl | he
   ·omega
   ·exact g2 e' he
  ·rcases g1 with g1 | g1
   ·rw[g1];exact m4
   ·exact h2 _ g1
def Oi (cs:List iT) (dZ:Nat):Int:=if dZ<cs.length then KR cs dZ else -1
def Kb (cs:List iT) (dZ:Nat) (ws:List Nat) (ends:List Int):Int:=ends.foldl (Ol (decide (0<ws.length))) (Oi cs dZ)
theorem Nf.Y8 {dZ:Nat} {ws:List Nat} {ends:List Int} (h:Nf bT qP cs st t dZ ws ends):ends.length=bz cs st t:=by
 rw[←h.cnt t (Int.le_refl _),List.countP_eq_length.2]
 intro e he
 exact decide_eq_true (h.ef e he)
theorem Nf.time {dZ:Nat} {ws:List Nat} {ends:List Int} (h:Nf bT qP cs st t dZ ws ends) (hc:lK cs) (hs:1≤qP) (hg:dZ<cs.length∨0<ws.length) :
  (t<Kb cs dZ ws ends∧Kb cs dZ ws ends+1000*(Ej st:Int)≤11000+1000*(cs.length:Int))∧(∀i,dZ≤i→i<cs.length→Kb cs dZ ws ends≤KR cs i) ∧
   (dZ<cs.length∧KR cs dZ=Kb cs dZ ws ends∨0<ws.length∧Kb cs dZ ws ends∈ends)∧runT bT qP cs (Kb cs dZ ws ends) (100000-Kb cs dZ ws ends).toNat st=stL bT qP cs:=by
 have Wz:=h.tm
 have Ot:=TV (st:=st)
 have hlen:=h.len
 have he0:∀e∈ends,0≤e:=fun e he=>by have:=h.ef e he;omega
 have atD:=hc.2
 by_cases hw:0<ws.length
 ·have hbz:qP≤(bz cs st t:Int):=by
   rcases h.fl with hf | hf
   ·exact hf
   ·rw[wA,←h.wsq] at hf
    rw[hf] at hw
    simp at hw
  have eW:ends≠[]:=by
   intro he
   have:=h.Y8
   rw[he] at this
   simp at this
   omega
  obtain⟨g1,g2,g3,g4⟩:=adY (es:=ends) (b:=Oi cs dZ) he0
  have Vy:Kb cs dZ ws ends=ends.foldl (Ol true) (Oi cs dZ):=by unfold Kb;rw[decide_eq_true hw]
  rw[Vy]
  generalize ends.foldl (Ol true) (Oi cs dZ)=w at *
  have g4:=g4 eW
  have J9:(dZ<cs.length∧KR cs dZ=w)∨w∈ends:=by
   rcases g1 with g1 | g1
   ·unfold Oi at g1
    split at g1
    ·rename_i mC
     exact .inl ⟨mC,g1.symm⟩
    ·omega
   ·exact .inr g1
  have htw:t<w∧w+1000*(Ej st:Int)≤11000+1000*(cs.length:Int):=by
   rcases J9 with⟨h1,h2⟩ | h1
   ·have:=h.ZR dZ (Nat.le_refl _) h1
    have:=hc.bnd h1
    omega
   ·exact⟨h.ef _ h1,h.eb _ h1⟩
  refine⟨htw,fun i h1 h2 => ?_,J9.imp id fun h1=>⟨hw,h1⟩,?_⟩
  ·have h3:=hc.sorted h1 h2
   have h4:=hc.bnd (i:=dZ) (by omega)
   have h5:Oi cs dZ=KR cs dZ:=by unfold Oi;rw[if_pos (by omega)]
   have:=g3 (by rw[h5];omega)
   omega
  ·rw[←h.run]
   refine(Tg (by omega) (by omega) (by omega) fun u h1 h2 => .inl ?_).symm
   rw[←h.cnt u (by omega),(List.countP_eq_length (p:=gtB u)).2 fun e he=>decide_eq_true (by have:=g2 e he;omega),h.Y8]
   exact hbz
 ·have mC:dZ<cs.length:=by omega
  have h5:Oi cs dZ=KR cs dZ:=by unfold Oi;rw[if_pos mC]
  have h4:=hc.bnd mC
  have hf:=(h.ZR dZ (Nat.le_refl _) mC).1
  have Vy:Kb cs dZ ws ends=KR cs dZ:=by unfold Kb;rw[decide_eq_false hw,afB (by rw[h5];omega),h5]
  rw[Vy]
  refine⟨⟨hf,by omega⟩,fun i h1 h2=>hc.sorted h1 h2,.inl ⟨mC,rfl⟩,?_⟩
  rw[←h.run]
  refine(Tg (by omega) (by omega) (by omega) fun u h1 h2 => .inr ?_).symm
  rw[wA,FL h.LC (fun i hi=>by have:=h.past i hi;omega) fun i h3 h4=>by have:=hc.sorted h3 h4;omega]
  have e1:=FL (st:=st) h.LC h.past fun i h3 h4=>(h.ZR i h3 h4).1
  rw[←e1,←h.wsq]
  exact List.eq_nil_of_length_eq_zero (by omega)
theorem Nf.done {dZ:Nat} {ws:List Nat} {ends:List Int} (h:Nf bT qP cs st t dZ ws ends) (amH:¬dZ<cs.length) (hw:¬0<ws.length):st=stL bT qP cs:=by
 rw[←h.run]
 refine(Wg _ _ fun u hu => .inr ?_).symm
 have mC:=h.LC
 have e1:=FL (st:=st) h.LC h.past fun i h3 h4=>(h.ZR i h3 h4).1
 rw[wA,FL h.LC (fun i hi=>by have:=h.past i hi;omega) fun i h3 h4=>by omega,←e1,←h.wsq]
 exact List.eq_nil_of_length_eq_zero (by omega)
structure Ph4 (bT qP:Int) (cs:List iT) (st0:List Int) (now:Int) (dZ ZI:Nat) (st:List Int) (ws:List Nat) (ends:List Int):Prop where
 UG:Way cs st now
 wsq:ws=wt cs st now
 cnt:∀u,now≤u→ends.countP (gtB u)=bz cs st u
 ef:∀e∈ends,now<e
 eb:∀e∈ends,e+1000*(Ej st:Int)≤11000+1000*(cs.length:Int)
 fl:fill bT qP cs now cs.length st=fill bT qP cs now cs.length st0
 past:∀i,i<dZ→KR cs i≤now
 ZR:∀i,dZ≤i→i<cs.length→now<KR cs i∧Gq st i<0
 ZI:ws.length+ends.length=ZI
 es:(ends.length:Int)≤qP
theorem Bl:∀ {l:List Nat} {i k:Nat},l.Nodup→l[i]? = some k→l.eraseIdx i=l.filter (· != k)
 | [],_,_,_,h=>by cases h
 |
  x::l,0,k,hn,h=>by
  injection h with h
  subst h
  rw[List.nodup_cons] at hn
  rw[List.eraseIdx_cons_zero,List.filter_cons_of_neg (by simp),List.filter_eq_self.2]
  intro y hy
  have:y≠x:=fun he=>hn.1 (he▸hy)
  simpa using this
 |
  x::l,i+1,k,hn,h=>by
  rw[List.nodup_cons] at hn
  rw[List.getElem?_cons_succ] at h
  have hx:x≠k:=fun he=>hn.1 (he▸List.mem_of_getElem? h)
  rw[List.eraseIdx_cons_succ,List.filter_cons_of_pos (by simpa using hx),Bl hn.2 h]
theorem Ph4.step {now:Int} {st0:List Int} {dZ ZI:Nat} {ws:List Nat} {ends:List Int} (h:Ph4 bT qP cs st0 now dZ ZI st ws ends) (hc:lK cs) (hr:0≤bT∧bT≤3) (hb:(ends.length:Int)<qP) (eW:0<ws.length) :
  ∃k,ws[J1 bT cs ws]? = some k∧k<cs.length∧J1 bT cs ws<ws.length∧(0≤now∧now≤35000)∧Ph4 bT qP cs st0 now dZ ZI (st.set k now) (ws.eraseIdx (J1 bT cs ws)) (ends++[now+Ww cs k]):=by
 have VG:ws≠[]:=fun he=>by rw[he] at eW;simp at eW
 obtain⟨g1,g2⟩:=Yt (cs:=cs) VG hr
 obtain⟨k,hk⟩:∃k,ws[J1 bT cs ws]? = some k:=⟨_,List.getElem?_eq_getElem g1⟩
 have hnx:Z2 bT cs st now=some k:=by
  unfold Z2
  rw[←h.wsq,←g2,hk]
 obtain⟨m1,m2,m3⟩:=KH.1 (Ng hnx)
 have Wz:=h.UG.tm
 have hle:=(h.UG.le hc).1
 have hbz:(bz cs st now:Int)=ends.length:=by
  rw[←h.cnt now (Int.le_refl _),(List.countP_eq_length (p:=gtB now)).2 fun e he=>decide_eq_true (h.ef e he)]
 have N2:k<st.length:=by rw[h.UG.len];exact m1
 have hus:=zZ (t:=now) N2 m2 Wz.1
 have hwk:=(hc.bnd m1).2
 refine⟨k,hk,m1,g1,⟨Wz.1,hle⟩,h.UG.set m1 m2,?_,?_,?_,?_,?_,h.past,?_,?_,?_⟩
 ·rw[aeU h.UG.len m1 Wz.1,←h.wsq]
  exact Bl (by rw[h.wsq];exact X3) hk
 ·intro u hu
  rw[List.countP_append,h.cnt u hu,ahE m1 h.UG.len m2 Wz.1,List.countP_singleton]
  congr 1
  simp only[gtB,decide_eq_true_eq]
  by_cases hq:u<now+Ww cs k
  ·rw[if_pos hq,if_pos ⟨hu,hq⟩]
  ·rw[if_neg hq,if_neg fun h'=>hq h'.2]
 ·intro e he
  rcases List.mem_append.1 he with he | he
  ·exact h.ef e he
  ·rw[List.mem_singleton] at he
   omega
 ·intro e he
  rcases List.mem_append.1 he with he | he
  ·have:=h.eb e he
   omega
  ·rw[List.mem_singleton] at he
   omega
 ·rw[Vf h.UG.len Wz.1 (by rw[hbz];exact hb) hnx,h.fl]
 ·intro i h1 h2
  have h3:=h.ZR i h1 h2
  refine⟨h3.1,?_⟩
  rw[Fa N2,if_neg (fun he=>by subst he;omega)]
  exact h3.2
 ·rw[List.length_eraseIdx_of_lt g1,List.length_append,List.length_cons,List.length_nil]
  have:=h.ZI
  omega
 ·rw[List.length_append,List.length_cons,List.length_nil]
  omega
theorem Ph4.done {now:Int} {st0:List Int} {dZ ZI:Nat} {ws:List Nat} {ends:List Int} (h:Ph4 bT qP cs st0 now dZ ZI st ws ends) (hc:lK cs) (mC:dZ≤cs.length) (ht:ZI≤dZ) (hf:qP≤(ends.length:Int)∨ws=[])
  (hr:runT bT qP cs now (100000-now).toNat st0=stL bT qP cs):Nf bT qP cs st now dZ ws ends:=by
 have Wz:=h.UG.tm
 have hle:=(h.UG.le hc).1
 have hbz:(bz cs st now:Int)=ends.length:=by
  rw[←h.cnt now (Int.le_refl _),(List.countP_eq_length (p:=gtB now)).2 fun e he=>decide_eq_true (h.ef e he)]
 have adS:full bT qP cs st now:=by
  rcases hf with hf | hf
  ·exact .inl (by rw[hbz];exact hf)
  ·exact .inr (wA.2 (by rw[←h.wsq];exact hf))
 refine⟨h.UG.len,h.UG.low,h.UG.high,h.UG.bd,by omega,mC,h.past,h.ZR,h.wsq,h.cnt,h.ef,h.eb,adS,by rw[h.ZI];exact ht,h.es,?_⟩
 have h1:=vK adS cs.length
 rw[h.fl] at h1
 rw[X4 Wz.1 (by omega),h1] at hr
 exact hr
end
end Go.PM
namespace Go.PM
end Go.PM
namespace Go.PM
section
variable {α:Type} {f:α→VV} {H:aA} {b g e lo:Nat} {X Y:List α}
end
end Go.PM
namespace Go.PM
end Go.PM
namespace Go.PM
open Go.Lib
def Hz {α:Type} (f:α→VV) (e:Nat) (bK:List α) (lo hi:Nat) (H:aA) (v:VV):Prop :=
 ∃b g c,lo≤b∧b<hi∧v = .ref b g 0 bK.length c∧bK.length≤c∧aK H b g=some (bK.map f,e,true)
def TabIs {α:Type} (f:α→VV) (e:Nat) (m:List (List α)) (lo hi:Nat) (H:aA) (v:VV):Prop :=
 ∃b g c rs,v = .ref b g 0 m.length c∧m.length≤c∧MG f e lo hi b g H rs∧rs.map (·.xs)=m
theorem WV {α:Type} {f:α→VV} {lo b k e bytes:Nat} {H:aA} {xs:List α} {x:α} (h:aK H b k=some (xs.map f,e,true)) (hk:k=xs.length) (eX:lo≤b) (he:1≤e) (hb:1≤bytes) (A3:(k+1)*bytes≤140737488355328) :
 eJ lo e bytes (.ref b k 0 k k) [f x] H=some (.ref b (k+1) 0 (k+1) (k+1),H.set b (.row (k+1) ((xs++[x]).map f) e true)):=iE h hk eX he hb A3
theorem Hz.rd {α:Type} {f:α→VV} {e lo hi:Nat} {bK:List α} {H:aA} {v:VV} (h:Hz f e bK lo hi H v):Rd f e bK H v:=by
 obtain⟨b,g,c,h1,h2,rfl,h3,h4⟩:=h
 exact Rd.row h4 rfl
end Go.PM
namespace Go.PM
structure aiV (s:KQ):Prop where
 b4:s.b.length≤400000000
 e4:s.e.length≤400000000
 g4:s.g.length≤400000000∧∀x∈s.g,x.length≤400000000
 bs:∀x∈s.b,x.size≤1000000000
 es:∀x∈s.e,x.size≤1000000000
 gs:∀x∈s.g,∀y∈x,y.size≤1000000000
theorem aiV.g9 {s:KQ} (h:aiV s):s.g.length≤1000000000∧∀x∈s.g,x.length≤1000000000:=⟨by have:=h.g4.1;omega,fun x hx=>by have:=h.g4.2 x hx;omega⟩
end Go.PM
namespace Go.PM
def Es {β:Type} (xs:List (List β)):Nat:=(xs.map List.length).sum
section
variable {β:Type}
end
def svN (s:KQ):Nat:=s.b.length+Es s.g+s.e.length
theorem Nd.cell {α:Type} {f:α→VV} {e lo hi:Nat} {H:aA} {v:VV} {bK:List α} (h:Nd f e bK lo hi H v):bQ v=true:=by
 rcases h with⟨rfl,rfl⟩ | ⟨b,g,c,h1,h2,rfl,h3⟩<;>rfl
theorem RG.cell {α:Type} {f:α→VV} {e lo hi:Nat} {H:aA} {v:VV} {bK:List (List α)} (h:RG f e bK lo hi H v):bQ v=true:=by
 rcases h with⟨rfl,rfl⟩ | ⟨b,g,c,rs,h1,h2,rfl,h3⟩<;>rfl
end Go.PM
namespace Go.PM
open Go.Lib
section
variable {α:Type} {f:α→VV} {e:Nat}
def Ui (f:α→VV) (e:Nat) (bK:List (List α)) (lo hi:Nat) (H:aA) (v:VV):Prop :=
 (v = .tree [] .nil∧bK=[])∨∃b g rs,lo≤b∧b<hi∧v = .ref b g 0 bK.length bK.length∧aK H b g=some (rs.map Ka,1,true)∧rs.map (·.xs)=bK∧TX f e lo hi b H rs
theorem Ui.rg {bK:List (List α)} {lo hi:Nat} {H:aA} {v:VV} (h:Ui f e bK lo hi H v):RG f e bK lo hi H v:=by
 rcases h with h | ⟨b,g,rs,h1,h2,h3,h5,h6,h7⟩
 ·exact .inl h
 ·exact .inr ⟨b,g,_,rs,h1,h2,h3,Nat.le_refl _,h5,h6,h7⟩
theorem Ui.cL {bK:List (List α)} {lo hi:Nat} {H H':aA} {v:VV} (h:Ui f e bK lo hi H v) (hk:eE lo hi H H'):Ui f e bK lo hi H' v:=by
 rcases h with h | ⟨b,g,rs,h1,h2,h3,h5,h6,h7⟩
 ·exact .inl h
 ·exact .inr ⟨b,g,rs,h1,h2,h3,hk _ _ _ h1 h2 h5,h6,h7.nd,fun r hr=>by
   obtain⟨k1,k2,k3,k4,k5⟩:=h7.row r hr
   exact⟨k1,k2,k3,k4,hk _ _ _ k1 k2 k5⟩⟩
theorem Ui.wide {bK:List (List α)} {lo hi mU oV:Nat} {H:aA} {v:VV} (h:Ui f e bK lo hi H v) (hl:mU≤lo) (hh:hi≤oV):Ui f e bK mU oV H v:=by
 rcases h with h | ⟨b,g,rs,h1,h2,h3,h5,h6,h7⟩
 ·exact .inl h
 ·exact .inr ⟨b,g,rs,by omega,by omega,h3,h5,h6,h7.nd,fun r hr=>by
   obtain⟨k1,k2,k3,k4,k5⟩:=h7.row r hr
   exact⟨by omega,by omega,k3,k4,k5⟩⟩
theorem Ui.fP {bK:List (List α)} {lo hi:Nat} {H:aA} {v:VV} (h:Ui f e bK lo hi H v):bQ v=true∧aB v=[v]∧isAny v=false:=by
 rcases h with⟨rfl,rfl⟩ | ⟨b,g,rs,h1,h2,rfl,h3⟩<;>exact⟨rfl,rfl,rfl⟩
theorem Ui.aeT {bK:List (List α)} {lo hi:Nat} {H:aA} {v:VV} (h:Ui f e bK lo hi H v):nS v H=some (VI bK.length):=by
 rcases h with⟨rfl,rfl⟩ | ⟨b,g,rs,h1,h2,rfl,h5,h6,h7⟩
 ·rfl
 ·exact cT h5
end
def HL {α:Type} (f:α→VV) (e:Nat) (o:Option (List α)) (lo hi:Nat) (H:aA) (v:VV):Prop:=match o with
 | none=>v = .tree [] .nil
 | some ys=>Hz f e ys lo hi H v
theorem Hz.cL {α:Type} {f:α→VV} {e:Nat} {ys:List α}:∀ {lo hi H H' v},Hz f e ys lo hi H v→eE lo hi H H'→Hz f e ys lo hi H' v:=by
 rintro lo hi H H' v ⟨b,g,c,h1,h2,h3,h4,h5⟩ hk
 exact⟨b,g,c,h1,h2,h3,h4,hk _ _ _ h1 h2 h5⟩
theorem HL.cL {α:Type} {f:α→VV} {e:Nat} {o:Option (List α)}:∀ {lo hi H H' v},HL f e o lo hi H v→eE lo hi H H'→HL f e o lo hi H' v:=by
 intro lo hi H H' v h hk
 cases o with
 | none=>exact h
 | some ys=>exact Hz.cL h hk
theorem HL.lg {α:Type} {f:α→VV} {e lo hi:Nat} {H:aA} {v:VV} {o:Option (List α)} (h:HL f e o lo hi H v):Nd f e (o.getD []) lo hi H v:=by
 cases o with
 | none=>exact .inl ⟨h,rfl⟩
 |
  some ys =>
  obtain⟨b,g,c,h1⟩:=h
  exact .inr ⟨b,g,c,h1⟩
theorem EU {n n':Nat} {L:aA} (h:n≤n') (hL:dA n' L=true):dA n L=true:=by
 unfold dA at hL ⊢
 rw[List.all_eq_true] at hL ⊢
 intro x hx
 have:=hL x hx
 cases x with
 | dead=>rfl
 | row g es e w=>exact Am h es this
theorem EN {n:Nat} {H:aA} (h:n≤H.length):EF H (List.replicate n .dead++List.replicate (H.length-n) .dead):=by
 refine⟨by simp;omega,fun b g es e w hb => ?_⟩
 rw[List.replicate_append_replicate] at hb
 have:=List.eq_of_mem_replicate (List.mem_of_getElem? hb)
 cases this
theorem FG {n k:Nat}:dA n (List.replicate k .dead)=true:=by
 unfold dA
 rw[List.all_eq_true]
 intro x hx
 rw[List.eq_of_mem_replicate hx]
def Im (q:Rat):ByteArray:=⟨(Ds q).toArray⟩
def wS (qs:List Rat):Option (List ByteArray):=if qs.all uK=true then some (qs.map Im) else none
theorem P7 {qs:List Rat} {q:Rat} (hq:q∈qs) (h:uK q=false):wS qs=none:=if_neg (fun ha=>by
 rw[List.all_eq_true] at ha
 rw[ha q hq] at h
 cases h)
theorem Lp {qs:List Rat} (h:∀q∈qs,uK q=true):wS qs=some (qs.map Im):=if_pos (List.all_eq_true.2 h)
set_option maxHeartbeats 1000000 in
theorem Iw (qs:List Rat) (hn:qs.length≤1000000) (hb:∀q∈qs,dT q≤1099511627776):FC 111 [aZ bR qs] (WX (HL sV 1 (wS qs)) (wS qs).isSome):=by
 refine FC.Qs ⟨true,false⟩ Ia (Nat.le_of_ble_eq_true rfl) fun n => ?_
 have e0:∀K,mV false [.string ⟨#[]⟩] 0 [] K=some (.ref K.length 0 0 0 0,K++[.row 0 [] 1 true]):=fun K=>jJ rfl
 simp only[DU,Bk,e0,List.length_replicate,qE,VX,Nat.reduceEqDiff,Nat.reduceAdd,Nat.reduceLeDiff,Nat.reduceLT,Nat.reduceSub]
 refine JX (fun(i:Nat) ρ H=>i≤qs.length∧(∀q∈qs.take i,uK q=true)∧H=List.replicate n cI.dead++[cI.row i (((qs.take i).map Im).map sV) 1 true]∧ρ 4 = .ref n i 0 i i∧ρ 10=aZ bR qs∧ρ 11=VI qs.length∧ρ 12=VI i) (fun i=>qs.length-i) 0 ⟨Nat.zero_le _,by simp,rfl,rfl,rfl,rfl,rfl⟩ ?_
 rintro i ρ H ⟨hi,nC,rfl,g4,g10,g11,g12⟩
 have qK:aK (List.replicate n cI.dead++[cI.row i (((qs.take i).map Im).map sV) 1 true]) n i=some (((qs.take i).map Im).map sV,1,true):=by rw[IL,bG]
 by_cases cC:(i:Int)<(qs.length:Int)
 ·obtain⟨q,hq⟩:∃q,qs[i]? = some q:=⟨_,List.getElem?_eq_getElem (by omega)⟩
  have hqm:=List.mem_of_getElem? hq
  have a1:=fun H=>aF (f:=bR) (t := .op) (H:=H) (size:=3) (k := .i64) hq rfl
  have wi:IntKind.i64.wrap ((i:Int)+1)=((i+1:Nat):Int):=wrapN (i+1) (by omega) (by omega)
  have e2:=Ij q (hb q hqm)
  have s1:=I4 (lo:=n) (H:=List.replicate n cI.dead++[cI.row i (((qs.take i).map Im).map sV) 1 true]) (q:=q) (by simp)
  have s2:=TW (H:=List.replicate n cI.dead++[cI.row i (((qs.take i).map Im).map sV) 1 true]) (K:=[]) (q:=q)
  cases hf:uK q with
  |
   false =>
   rw[hf] at e2
   rw[P7 hqm hf]
   simp only[oC,g4,g10,g11,g12,cC,a1,e2,s1,s2,eZ,qE,VX,Nat.reduceEqDiff,Nat.reduceAdd,Nat.reduceLeDiff,Nat.reduceLT,Nat.reduceSub]
   exact⟨_,EN (by simp),rfl,FG,.tree [] .nil,rfl,rfl⟩
  |
   true =>
   rw[hf] at e2
   have eL:∀H,mV false [.string ⟨#[]⟩] 1 [(0,aR (Ds q))] H=some (.tree [sV (Im q)] (.cl 1),H):=fun H=>kH rfl rfl rfl
   have eS:∀H,dD 1 (.tree [sV (Im q)] (.cl 1)) H=some [sV (Im q)]:=fun H=>iC rfl rfl
   have eP:eJ n 1 16 (.ref n i 0 i i) [sV (Im q)] (List.replicate n cI.dead++[cI.row i (((qs.take i).map Im).map sV) 1 true]++[.row 0 [bR q] 3 true])=some (.ref n (i+1) 0 (i+1) (i+1),(List.replicate n cI.dead++[cI.row (i+1) (((qs.take (i+1)).map Im).map sV) 1 true])++[.row 0 [bR q] 3 true]):=by
    rw[iE (f:=sV) (xs:=(qs.take i).map Im) (tJ qK) (by simp;omega) (Nat.le_refl _) (by decide) (by decide) (by omega),kM hq]
    simp only[List.map_append,List.append_assoc,RP]
    rfl
   simp only[oC,g4,g10,g11,g12,cC,a1,e2,s1,s2,eL,eS,eP,wi,eZ,qE,VX,Nat.reduceEqDiff,Nat.reduceAdd,Nat.reduceLeDiff,Nat.reduceLT,Nat.reduceSub]
   rw[List.take_left' (by simp)]
   refine⟨i+1,by omega,by rw[acI,Az (kX _ (cZ fun _=>rfl)),G1],by omega,fun p hp => ?_,rfl,?_⟩
   ·rw[kM hq] at hp
    rcases List.mem_append.1 hp with h | h
    ·exact nC p h
    ·rw[List.mem_singleton] at h;subst h;exact hf
   ·simp only[sW,g10,g11,Ai (AW _),F6 (show n<(List.replicate n cI.dead++[cI.row i (((qs.take i).map Im).map sV) 1 true]).length by simp),VX,Nat.reduceEqDiff,Nat.reduceAdd,List.take_zero,iG,List.all_nil,List.length_nil,sW,Jz,Ai]
 ·have oU:i=qs.length:=by omega
  subst oU
  rw[List.take_length] at nC qK
  rw[Lp nC]
  simp only[oC,g4,g10,g11,g12,cC,List.take_length,qE,VX,Nat.reduceEqDiff,Nat.reduceAdd,Nat.reduceLeDiff,Nat.reduceLT,Nat.reduceSub]
  refine⟨_,⟨rfl,fun _ _ _ _ _ h=>h⟩,by simp[fO,sQ,jS],by simp only[dA,List.all_cons,List.all_nil,Bool.and_true];exact Aq (fun _=>rfl) _,.ref n qs.length 0 qs.length qs.length,rfl,⟨n,qs.length,qs.length,Nat.le_refl _,by simp,by simp,by simp,qK⟩⟩
theorem UM {n lo:Nat} {args gM:List VV} {F:Nat} {P:Nat→Nat→aA→VV→Prop} {ok:Bool} {H:aA} {K:VV→aA→Prop} (h:FC F gM (WX P ok)) (rZ:AQ.contains F=true) (hf:args.mapM (PM.fz depth H)=some gM) (hO:GG n H)
  (hP:∀ {lo hi H H' v},P lo hi H v→eE lo hi H H'→P lo hi H' v) (hk:∀v H',H <+: H'→GG n H'→fO n v=true→P H.length H'.length H' v→K (.dY [v,.sc (.bool ok)]) H'):cB F args lo H K:=by
 refine h.adL rZ hf ?_
 rintro r L ⟨v,rfl,hv⟩ hr hL
 have hvo:fO H.length v=true:=by
  simp only[fO,sQ,Bool.and_eq_true] at hr
  exact hr.1
 refine hk v _ (List.prefix_append _ _) (hO.pre ?_) (LW hO.len v hvo) ?_
 ·exact EU hO.len hL
 ·rw[List.length_append]
  exact hP hv eE.move
end Go.PM
namespace Go.PM
open Go.Lib
section
variable {g:List (List Rat)} {e row:List Rat} {n i:Nat} {st:List Bool}
end
end Go.PM
namespace Go.PM
end Go.PM
namespace Go.PM
def sE:aD:=(.seq (LS [LM 36 8,LO 37 (.len (LT 36)),LM 38 10,LO 39 (.bin .leq (LT 37) (LT 38))] (.cond (LT 39) .skip (.exit 2))) (.block 3 (.cX [LM 40 8,LO 41 (.call 97 [(LI 0)]),LO 42 (.lit [(.bool false),(.slice none 0 0),(.slice none 0 0)] 1 [(0,(LT 41))]),LO 43 (.app 3 56 (LT 40) (LT 42)),LM 8 43])))
def oA:aD:=(LS [LO 29 (.bin .lss (LT 28) (LT 27))] (.seq (.cond (LT 29) .skip (.exit 0)) (.seq (.block 1 (LS [LM 30 28,LO 31 (.iaddr 1 (LT 26) (LT 28)),LO 32 (LL 31),LM 9 30,LM 10 32] (.seq (LS [LM 33 10,LO 34 (.call 95 [(LT 33),(LI 0),(LI 11)]),LO 35 (.un .not (LT 34))] (.cond (LT 35) (LS [LO 4 (.mv (.const (.slice none 0 0))),LO 5 (.mv LF)] .ret) .skip)) (.seq (.block 2 (.loop sE)) (.cX [LM 44 8,LM 45 10,LM 46 8,LM 47 10,LO 48 (.iaddr 3 (LT 46) (LT 47)),LO 49 (LK 48),LM 50 6,LM 51 9,LO 52 (.iaddr 3 (LT 50) (LT 51)),LO 53 (LK 52),LQ 54 (.call 99 [(LT 49),(LT 53)]),LO 55 (.iaddr 3 (LT 44) (LT 45)),LN (.store 3 (LT 55) (LT 54))]))))) (.cX [LO 56 (.bin .add (LT 28) (LI 1)),LM 28 56]))))
def pP:aD:=(LS [LO 4 (.mv (.const (.slice none 0 0))),LO 5 (.mv LF)] (LS [LM 12 0,LO 13 (.call 114 [(LT 12)]),LM 11 13,LO 14 (LX 11 0),LO 15 (LX 11 1),LM 6 14,LM 7 15] (.seq (LS [LM 16 7,LO 17 (.un .not (LT 16)),LM 18 17,LZ 18 19 (.mv (LT 1)),LZ 18 20 (.len (LT 19)),LZ 18 21 (.mv (LT 6)),LZ 18 22 (.len (LT 21)),LZ 18 23 (.bin .neq (LT 20) (LT 22)),LO 24 (.pick (LT 18) LG (LT 23))] (.cond (LT 24) (LS [LO 4 (.mv (.const (.slice none 0 0))),LO 5 (.mv LF)] .ret) .skip)) (LS [LO 25 (.lit [(.bool false),(.slice none 0 0),(.slice none 0 0)] 0 []),LM 8 25] (.seq (LS [LM 26 1,LO 27 (.len (LT 26)),LO 28 (.mv (LI 0))] (.block 0 (.loop oA))) (LS [LM 57 8,LO 58 (.call 111 [(LT 57)]),LO 59 (LX 58 0),LO 60 (LX 58 1),LM 4 59,LM 5 60] .ret))))))
def tD:aT:=⟨61,[(.tmp 4),(.tmp 5)],pP⟩
theorem IC:gE 53=some tD:=by kernel_rfl
end Go.PM
namespace Go.PM
open Go.Lib
theorem agY {n k lo hi:Nat} {H:aA} {P:Nat→Nat→aA→VV→Prop} {v:VV} {ok:Bool} (hk:n≤k) (hl:k≤H.length) (hT:Fm n k H) (hv:fO n v=true)
  (HI:∀ {lo hi H H' v},P lo hi H v→eE lo hi H H'→P lo hi H' v) (alG:∀ {lo hi mU oV:Nat} {H:aA} {v:VV},P lo hi H v→mU≤lo→hi≤oV→P mU oV H v) (hp:P lo hi H v) (eX:k≤lo) (hhi:hi≤H.length) :
  ∃L,EF H (List.replicate n .dead++L)∧fO n (.dY [v,.sc (.bool ok)])=true∧dA n L=true∧WX P ok n (.dY [v,.sc (.bool ok)]) L:=by
 obtain⟨L,k1,k2,k3⟩:=Xf hk hl hT
 refine⟨L,k1,by simp[fO,sQ,hv,jS],k2,v,rfl,?_⟩
 have hl3:=k1.1
 rw[List.length_append,List.length_replicate] at hl3
 exact alG (HI hp (H':=List.replicate n cI.dead++L) fun b g x h1 h2 h3=>k3 b g x (by omega) h3) (by omega) (by omega)
theorem CG.wide {bK:List (List ByteArray)}:∀ {lo hi mU oV:Nat} {H:aA} {v:VV},CG bK lo hi H v→mU≤lo→hi≤oV→CG bK mU oV H v:=by
 rintro lo hi mU oV H v ⟨c,h1,h2⟩ hl hh
 exact⟨c,h1,h2.wide hl hh⟩
theorem CG.own {n lo hi:Nat} {H:aA} {v:VV} {bK:List (List ByteArray)} (h:CG bK lo hi H v) (hn:n≤lo):∃c,v = .agg [c]∧bQ c=true∧aB c=[c]∧fO n c=true:=by
 obtain⟨c,rfl,h | ⟨b,g,cc,rs,h1,h2,rfl,h3⟩⟩:=h
 ·obtain⟨rfl,_⟩:=h
  exact⟨_,rfl,rfl,rfl,rfl⟩
 ·exact⟨_,rfl,rfl,rfl,by simp[fO];omega⟩
theorem WE.wide {s:KQ}:∀ {lo hi mU oV:Nat} {H:aA} {v:VV},WE s lo hi H v→mU≤lo→hi≤oV→WE s mU oV H v:=by
 rintro lo hi mU oV H v ⟨a,b,c,m1,m2,h1,k1,k2,k3,h2,h3,h4⟩ hl hh
 exact⟨a,b,c,m1,m2,h1,by omega,k2,by omega,h2.wide hl (Nat.le_refl _),h3,h4.wide (Nat.le_refl _) hh⟩
theorem Fm.apG {n k:Nat} {H L:aA} (h:Fm n k H) (hL:dA n L=true):Fm n k (H++L):=by
 intro b g es e w hb hr
 rcases Nat.lt_or_ge b H.length with aV | AF
 ·rw[List.getElem?_append_left aV] at hr
  exact h b g es e w hb hr
 ·rw[List.getElem?_append_right AF] at hr
  exact List.all_eq_true.1 hL _ (List.mem_of_getElem? hr)
theorem Fm.start {n:Nat} {H:aA}:Fm n H.length H:=fun b g es e w hb hr=>by
 rw[List.getElem?_eq_none hb] at hr
 cases hr
end Go.PM
namespace Go.PM
section
variable {α:Type}
def vec (n:Nat) (f:Nat→α):List α:=(List.range n).map f
theorem tA (n:Nat) (f:Nat→α):(vec n f).length=n:=by simp[vec]
theorem Ob {n i:Nat} {f:Nat→α} (h:i<n):(vec n f)[i]? = some (f i):=by simp[vec,h]
theorem Qq {n i:Nat} {f:Nat→α} (h:n≤i):(vec n f)[i]? = none:=by rw[List.getElem?_eq_none];rw[tA];exact h
theorem UY {n:Nat} {f g:Nat→α} (h:∀i,i<n→f i=g i):vec n f=vec n g:=List.map_congr_left fun i hi=>h i (List.mem_range.1 hi)
theorem aaB {n j:Nat} {f:Nat→α} {y:α}:(vec n f).set j y=vec n fun b=>if b=j then y else f b:=by
 apply List.ext_getElem?
 intro b
 rw[List.getElem?_set,tA]
 by_cases hb:b<n
 ·rw[Ob hb,Ob hb]
  by_cases hj:j=b
  ·subst hj;simp[hb]
  ·simp[hj,Ne.symm hj]
 ·rw[Qq (by omega),Qq (by omega)]
  split
  ·rw[if_neg (by omega)]
  ·rfl
theorem T4 {n:Nat} {f:Nat→α} {x:α}:x∈vec n f↔∃i,i<n∧f i=x:=by simp[vec]
theorem QL {n:Nat} {f:Nat→α}:vec (n+1) f=vec n f++[f n]:=by simp[vec,List.range_succ]
end
end Go.PM
namespace Go.PM
open Go.Lib
theorem U8 {qs:List Rat} {B:Nat} (h:∀q∈qs,dT q≤B) (hB:1≤B) (i:Nat):dT (qs.getD i 0)≤B:=by
 rw[List.getD_eq_getElem?_getD]
 cases hi:qs[i]? with
 | none=>rw[Option.getD_none,DW];exact hB
 | some q=>exact h q (List.mem_of_getElem? hi)
theorem WE.own {n lo hi:Nat} {s:KQ} {H:aA} {v:VV} (h:WE s lo hi H v) (hn:n≤lo):∃a b c,v = .agg [a,b,c]∧bQ a=true∧bQ b=true∧bQ c=true∧fO n a=true∧fO n b=true∧fO n c=true:=by
 obtain⟨a,b,c,m1,m2,rfl,l1,l2,l3,ha,hb,hc⟩:=h
 refine⟨a,b,c,rfl,ha.cell,hb.cell,hc.cell,?_,?_,?_⟩
 ·rcases ha with⟨rfl,_⟩ | ⟨b,g,c,h1,h2,rfl,h3⟩
  ·rfl
  ·simp[fO];omega
 ·rcases hb with⟨rfl,_⟩ | ⟨b,g,c,rs,h1,h2,rfl,h3⟩
  ·rfl
  ·simp[fO];omega
 ·rcases hc with⟨rfl,_⟩ | ⟨b,g,c,h1,h2,rfl,h3⟩
  ·rfl
  ·simp[fO];omega
end Go.PM
namespace Go.PM
open Go.Lib
section
variable {α:Type} {f:α→VV} {e:Nat}
structure RdT (f:α→VV) (e:Nat) (m:List (List α)) (H:aA) (v:VV):Prop where
 len:∀H',H <+: H'→nS v H'=some (VI m.length)
 get:∀H',H <+: H'→∀(i:Nat) r,m[i]? = some r→∃p w,bC 1 v (VI i) H'=some p∧dG false 1 p H'=some w∧Rd f e r H' w
theorem RdT.pre {m:List (List α)} {H H':aA} {v:VV} (h:RdT f e m H v) (hh:H <+: H'):RdT f e m H' v:=⟨fun H2 h2=>h.len H2 (hh.trans h2),fun H2 h2=>h.get H2 (hh.trans h2)⟩
theorem RdT.tree {m:List (List α)} {H:aA} {t:TK} (hs:∀x,(aB (f x)).length=e):RdT f e m H (.tree (m.map (aZ f)) t) :=
 ⟨fun _ _=>dH,fun _ _ i x hx=>⟨_,_,aF hx rfl,by rw[IQ];rfl,Rd.tree hs⟩⟩
theorem RdT.row {m:List (List α)} {H:aA} {b g n c:Nat} {w:Bool} (h:aK H b g=some (m.map (aZ f),1,w)) (hn:n=m.length) (hs:∀x,(aB (f x)).length=e):RdT f e m H (.ref b g 0 n c):=by
 subst hn
 refine⟨fun H' hh=>cT (fS hh h),fun H' hh i x hx => ?_⟩
 have hi:=(List.getElem?_eq_some_iff.1 hx).1
 have e1:=aQ (o:=0) (n:=m.length) (c:=c) (i:=i) (k := .i64) (fS hh h) hi
 rw[Nat.zero_add] at e1
 exact⟨_,_,e1,by rw[oM (f:=aZ f) (fS hh h) hx];rfl,Rd.tree hs⟩
end
end Go.PM
namespace Go.PM
open Go.Lib
theorem Gn {a:Nat} (h:a≤12):a*(665+1)+1≤7993:=by omega
end Go.PM
namespace Go.PM
open Go.Lib
def lZ (w:List Rat) (ps:List Int) (p:Nat):Nat→Rat
 | 0=>0
 | i+1=>if ps.getD i 0=(p:Int) then lZ w ps p i+w.getD i 0 else lZ w ps p i
def gN (ps:List Int):Nat→Nat
 | 0=>0
 | i+1=>max (gN ps i) ((ps.getD i 0).toNat+1)
def kZ (w:List Rat) (ps:List Int) (i:Nat):List Rat:=vec (gN ps i) fun p=>lZ w ps p i
def rY (ws:List ByteArray) (ps:List Int):Option (List ByteArray):=match oW ws with
 | some w=>if ps.length=w.length∧∀k∈ps,0≤k∧k≤11 then wS (kZ w ps ps.length) else none
 | none=>none
theorem OF {w:List Rat} {ps:List Int} {p:Nat}:∀ {i:Nat},(∀k∈ps.take i,0≤k)→i≤ps.length→gN ps i≤p→lZ w ps p i=0
 | 0,_,_,_=>rfl
 |
  i+1,h,hi,hp=>by
  have hk:ps[i]? = some ps[i]:=List.getElem?_eq_getElem (by omega)
  rw[kM hk] at h
  have h0:=h ps[i] (List.mem_append.2 (.inr (List.mem_singleton.2 rfl)))
  rw[gN,List.getD_eq_getElem?_getD,hk,Option.getD_some] at hp
  rw[lZ,List.getD_eq_getElem?_getD,hk,Option.getD_some,if_neg (by omega)]
  exact OF (fun k hk=>h k (List.mem_append.2 (.inl hk))) (by omega) (by omega)
theorem Af {w:List Rat} {ps:List Int} {p:Nat} (hb:∀q∈w,dT q≤665):∀i,dT (lZ w ps p i)≤666*i+1
 | 0=>by rw[lZ,DW];omega
 |
  i+1=>by
  have h1:=Af (ps:=ps) (p:=p) hb i
  rw[lZ]
  split
  ·have h2:=U8 hb (by decide) i
   have h3:=MU (lZ w ps p i) (w.getD i 0)
   omega
  ·omega
theorem zQ {ps:List Int}:∀ {i:Nat},(∀k∈ps.take i,0≤k∧k≤11)→i≤ps.length→gN ps i≤12
 | 0,_,_=>Nat.zero_le _
 |
  i+1,h,hi=>by
  have hk:ps[i]? = some ps[i]:=List.getElem?_eq_getElem (by omega)
  rw[kM hk] at h
  have h0:=h ps[i] (List.mem_append.2 (.inr (List.mem_singleton.2 rfl)))
  have:=zQ (i:=i) (fun k hk=>h k (List.mem_append.2 (.inl hk))) (by omega)
  rw[gN,List.getD_eq_getElem?_getD,hk,Option.getD_some]
  omega
theorem SH {w:List Rat} {ps:List Int} {i k:Nat} {q:Rat} (hk:ps[i]? = some (k:Int)) (hq:w[i]? = some q):(vec (max (gN ps i) (k+1)) fun p=>lZ w ps p i).set k (lZ w ps k i+q)=kZ w ps (i+1):=by
 have hi:=(List.getElem?_eq_some_iff.1 hk).1
 have hm:gN ps (i+1)=max (gN ps i) (k+1):=by rw[gN,List.getD_eq_getElem?_getD,hk,Option.getD_some,Int.toNat_natCast]
 rw[aaB,kZ,hm]
 refine UY fun p _ => ?_
 rw[lZ,List.getD_eq_getElem?_getD,hk,Option.getD_some,List.getD_eq_getElem?_getD,hq,Option.getD_some]
 by_cases h:p=k
 ·subst h
  rw[if_pos rfl,if_pos rfl]
 ·rw[if_neg h,if_neg (fun he=>h (by omega))]
theorem Ea {n:Nat} {H:aA} {o:Option (List ByteArray)} (hl:n≤H.length) (hv:o=none):∃L,EF H (List.replicate n .dead++L)∧fO n (.dY [.tree [] .nil,.sc (.bool false)])=true∧dA n L=true∧WX (HL sV 1 o) o.isSome n (.dY [.tree [] .nil,.sc (.bool false)]) L:=by
 subst hv
 exact⟨_,EN hl,rfl,FG,_,rfl,rfl⟩
theorem HL.wide {α:Type} {f:α→VV} {e:Nat} {o:Option (List α)}:∀ {lo hi mU oV:Nat} {H:aA} {v:VV},HL f e o lo hi H v→mU≤lo→hi≤oV→HL f e o mU oV H v:=by
 intro lo hi mU oV H v h hl hh
 cases o with
 | none=>exact h
 |
  some ys =>
  obtain⟨b,g,c,h1,h2,h3⟩:=h
  exact⟨b,g,c,by omega,by omega,h3⟩
theorem HL.arX {α:Type} {f:α→VV} {e lo hi n:Nat} {H:aA} {v:VV} {o:Option (List α)} (h:HL f e o lo hi H v) (hn:n≤lo):fO n v=true:=by
 cases o with
 |
  none =>
  have h:v = .tree [] .nil:=h
  subst h
  rfl
 |
  some ys =>
  obtain⟨b,g,c,h1,h2,rfl,h3⟩:=h
  simp[fO];omega
theorem S3 {n:Nat} {F:Nat} {args gM:List VV} {o:Option (List ByteArray)} {ok:Bool} {H:aA} {K:VV→aA→Prop} (h:FC F gM (WX (HL sV 1 o) ok)) (rZ:AQ.contains F=true) (hf:args.mapM (PM.fz depth H)=some gM) (hn:n≤H.length)
  (hk:∀v H2,(∃L',EF H2 (List.replicate n .dead++L')∧fO n (.dY [v,.sc (.bool ok)])=true∧dA n L'=true∧WX (HL sV 1 o) ok n (.dY [v,.sc (.bool ok)]) L')→K (.dY [v,.sc (.bool ok)]) H2) :
  cB F args n H K:=by
 refine h.adL rZ hf ?_
 rintro r L ⟨v,rfl,hv⟩ FT hL
 have hv:=hv.cL eE.move
 rw[←List.length_append] at hv
 exact hk v _ (agY (k:=H.length) (lo:=H.length) (hi:=(H++L).length) hn (by rw[List.length_append];omega) (Fm.start.apG (EU hn hL)) (hv.arX hn) HL.cL HL.wide hv (Nat.le_refl _) (Nat.le_refl _))
set_option maxHeartbeats 2000000 in
theorem HX (ws:List ByteArray) (ps:List Int) (On:ws.length≤1000000000∧∀s∈ws,s.size≤1000000000) (hp:ps.length≤1000000000):FC 53 [eK ws,jQ ps] (WX (HL sV 1 (rY ws ps)) (rY ws ps).isSome):=by
 refine FC.Qs ⟨true,false⟩ IC (Nat.le_of_ble_eq_true rfl) fun n => ?_
 have e1:=FY ws On.1 On.2
 cases hw:oW ws with
 |
  none =>
  rw[hw,wZ] at e1
  simp only[tD,pP,e1,qE,VX,Nat.reduceEqDiff,Nat.reduceAdd,Nat.reduceLeDiff,Nat.reduceLT,Nat.reduceSub]
  exact Ea (by simp) (by unfold rY;rw[hw])
 |
  some w =>
  rw[hw,Et] at e1
  obtain⟨hb,hwl,_⟩:=El (K5 hw).1
  by_cases hl:(ps.length:Int)=(w.length:Int)
  case neg =>
   simp only[tD,pP,e1,hl,ne_eq,not_false_eq_true,decide_true,qE,VX,Nat.reduceEqDiff,Nat.reduceAdd,Nat.reduceLeDiff,Nat.reduceLT,Nat.reduceSub]
   exact Ea (by simp) (by unfold rY;rw[hw];exact if_neg (fun h=>hl (by omega)))
  have e0:∀K,mV false [.bool false,.slice none 0 0,.slice none 0 0] 0 [] K=some (.ref K.length 0 0 0 0,K++[.row 0 [] 3 true]):=fun K=>jJ rfl
  simp only[tD,pP,e0,e1,hl,List.length_replicate,ne_eq,not_true_eq_false,decide_false,qE,VX,Nat.reduceEqDiff,Nat.reduceAdd,Nat.reduceLeDiff,Nat.reduceLT,Nat.reduceSub]
  refine aN (fun(i:Nat) ρ H=>i≤w.length∧(∀k∈ps.take i,0≤k∧k≤11)∧(∃g,(∃_c:Nat,aK H n g=some ((kZ w ps i).map bR,3,true))∧ρ 8 = .ref n g 0 (gN ps i) (gN ps i))∧ρ 1=jQ ps∧ρ 6=aZ bR w∧ρ 26=jQ ps∧ρ 27=VI w.length∧ρ 28=VI i) (fun i=>w.length-i) 0
   ⟨Nat.zero_le _,by simp,⟨0,⟨0,by rw[IL,bG];rfl⟩,rfl⟩,by (repeat' apply And.intro)<;>first | rfl | trivial | assumption⟩ ?_
  rintro i ρ H ⟨hi,nE,⟨g,⟨_,qK⟩,g8⟩,g1,g6,g26,g27,g28⟩
  have hnl:=yA qK
  by_cases cC:(i:Int)<(w.length:Int)
  ·obtain⟨k0,V7⟩:∃k,ps[i]? = some k:=⟨_,List.getElem?_eq_getElem (by omega)⟩
   obtain⟨q,hq⟩:∃q,w[i]? = some q:=⟨_,List.getElem?_eq_getElem (by omega)⟩
   have a1:=fun H=>aF (f:=nV) (t := .op) (H:=H) (size:=1) (k := .i64) V7 rfl
   have a2:=fun H=>aF (f:=bR) (t := .op) (H:=H) (size:=3) (k := .i64) hq rfl
   have wi:IntKind.i64.wrap ((i:Int)+1)=((i+1:Nat):Int):=wrapN (i+1) (by omega) (by omega)
   have e2:=UC k0 0 11
   by_cases hk:0≤k0∧k0≤11
   case neg =>
    rw[decide_eq_false hk] at e2
    simp only[oA,g26,g27,g28,cC,a1,e2,qE,VX,Nat.reduceEqDiff,Nat.reduceAdd,Nat.reduceLeDiff,Nat.reduceLT,Nat.reduceSub]
    exact Ea (by omega) (by unfold rY;rw[hw];exact if_neg (fun h=>hk (h.2 k0 (List.mem_of_getElem? V7))))
   rw[decide_eq_true hk] at e2
   obtain⟨k,rfl⟩:∃k:Nat,k0=k:=⟨k0.toNat,by omega⟩
   simp only[oA,g1,g6,g26,g27,g28,cC,a1,e2,qE,VX,Nat.reduceEqDiff,Nat.reduceAdd,Nat.reduceLeDiff,Nat.reduceLT,Nat.reduceSub]
   refine aN (fun(m:Nat) ρ H2=>(gN ps i≤m∧m≤max (gN ps i) (k+1))∧(∃g,aK H2 n g=some ((vec m fun p=>lZ w ps p i).map bR,3,true)∧ρ 8 = .ref n g 0 m m)∧ρ 1=jQ ps∧ρ 6=aZ bR w∧ρ 9=VI i∧ρ 10=VI k∧ρ 26=jQ ps∧ρ 27=VI w.length∧ρ 28=VI i) (fun m=>max (gN ps i) (k+1)-m) (gN ps i)
    ⟨⟨Nat.le_refl _,Nat.le_max_left _ _⟩,⟨g,qK,by simp only[qE,VX,Nat.reduceEqDiff,Nat.reduceAdd,Nat.reduceLeDiff,Nat.reduceLT,Nat.reduceSub];exact g8⟩,by (repeat' apply And.intro)<;>first | rfl | trivial | assumption⟩ ?_
   clear g1 g6 g8 g26 g27 g28
   rintro m ρ H2 ⟨⟨IF,X7⟩,⟨g',DH,g8⟩,g1,g6,g9,g10,g26,g27,g28⟩
   have aAd:=yA DH
   have el:=cT (o:=0) (n:=m) (c:=m) DH
   by_cases hmk:(m:Int)≤(k:Int)
   ·have e3:TC 97 [VI 0] (bR 0):=Bg 0 (by decide) (by decide)
    have eL:∀H,mV false [.bool false,.slice none 0 0,.slice none 0 0] 1 [(0,bR 0)] H=some (.tree [bR 0] (.cl 3),H):=fun H=>kH rfl rfl rfl
    have eS:∀H,dD 3 (.tree [bR 0] (.cl 3)) H=some [bR 0]:=fun H=>iC rfl rfl
    have eP:eJ n 3 56 (.ref n g' 0 m m) [bR 0] H2=some (.ref n (g'+1) 0 (m+1) (m+1),H2.set n (.row (g'+1) ((vec (m+1) fun p=>lZ w ps p i).map bR) 3 true)):=by
     have hps:=OF (w:=w) (ps:=ps) (p:=m) (i:=i) (fun z hz=>(nE z hz).1) (by omega) IF
     rw[iE (f:=bR) (x:=(0:Rat)) DH (by rw[tA]) (Nat.le_refl _) (by decide) (by decide) (by omega),QL,hps]
    simp only[sE,g8,g10,el,hmk,e3,eL,eS,eP,qE,VX,Nat.reduceEqDiff,Nat.reduceAdd,Nat.reduceLeDiff,Nat.reduceLT,Nat.reduceSub]
    exact⟨m+1,by omega,⟨by omega,by omega⟩,⟨g'+1,jG DH,rfl⟩,by (repeat' apply And.intro)<;>first | rfl | trivial | assumption⟩
   ·have hme:m=max (gN ps i) (k+1):=by omega
    have agQ:=zQ (ps:=ps) (i:=i) nE (by omega)
    have hkm:k<m:=by omega
    have uS:(vec m fun p=>lZ w ps p i)[k]? = some (lZ w ps k i):=Ob hkm
    have b1:=Af (ps:=ps) (p:=k) hb i
    have b2:=hb q (List.mem_of_getElem? hq)
    have e4:=B8 (lZ w ps k i) q (by omega) (by omega)
    have a3:=aQ (o:=0) (n:=m) (c:=m) (i:=k) (k := .i64) DH hkm
    rw[Nat.zero_add] at a3
    have a4:dG true 3 (.ptr n g' k 0) H2=some (bR (lZ w ps k i)):=by
     rw[oM (f:=bR) DH uS]
     exact eZ _
    have a5:=cR (lo:=n) (f:=bR) (x:=lZ w ps k i+q) (j:=k) DH (by rw[tA];exact hkm) (Nat.le_refl _) rfl rfl
    have Ay:=SH (w:=w) V7 hq
    rw[←hme] at Ay
    rw[Ay] at a5
    simp only[sE,g6,g8,g9,g10,el,hmk,a2,a3,a4,a5,e4,wi,g28,eZ,qE,VX,Nat.reduceEqDiff,Nat.reduceAdd,Nat.reduceLeDiff,Nat.reduceLT,Nat.reduceSub]
    have aiY:gN ps (i+1)=m:=by rw[gN,List.getD_eq_getElem?_getD,V7,Option.getD_some,Int.toNat_natCast,hme]
    refine⟨i+1,by omega,by omega,fun z hz => ?_,⟨g',⟨0,jG DH⟩,by rw[aiY]⟩,by (repeat' apply And.intro)<;>first | rfl | trivial | assumption⟩
    rw[kM V7] at hz
    rcases List.mem_append.1 hz with h | h
    ·exact nE z h
    ·rw[List.mem_singleton] at h
     subst h
     exact hk
  ·have oU:i=w.length:=by omega
   have hip:i=ps.length:=by omega
   have BI:rY ws ps=wS (kZ w ps ps.length):=by
    unfold rY
    rw[hw]
    rw[hip,List.take_length] at nE
    exact if_pos ⟨by omega,nE⟩
   rw[BI]
   have agQ:=zQ (ps:=ps) (i:=i) nE (by omega)
   have akW:aK H n g=some ((kZ w ps ps.length).map bR,3,true):=by rw[←hip];exact qK
   have hlen:(kZ w ps ps.length).length=gN ps i:=by rw[kZ,tA,hip]
   have Ue:=IJ (d:=6) (c:=gN ps i) kE akW (by omega)
   rw[hlen] at Ue
   simp only[oA,g8,g27,g28,cC,qE,VX,Nat.reduceEqDiff,Nat.reduceAdd,Nat.reduceLeDiff,Nat.reduceLT,Nat.reduceSub]
   refine S3 (Iw (kZ w ps ps.length) (by omega) (fun q hq => ?_)) rfl (fz1 Ue) (by omega) fun v H2 hx => ?_
   ·obtain⟨p,_,rfl⟩:=T4.1 hq
    have:=Af (ps:=ps) (p:=p) hb ps.length
    omega
   ·simp only[qE,VX,Nat.reduceEqDiff,Nat.reduceAdd,Nat.reduceLeDiff,Nat.reduceLT,Nat.reduceSub]
    exact hx
end Go.PM
namespace Go.PM
open Go.Lib
theorem YX (d:Nat) (h:d≤9223372036854775807):TC 235 [VI (d:Int)] (aR (decDigits d)):=by
 have:=K9 (d:Int) (by omega) (by omega)
 rw[if_neg (by omega),List.nil_append,Int.natAbs_natCast] at this
 exact this
theorem Ym {n i:Nat} (hi:i+1=(aC 1000000000 n).length):n / 1000000000^i=n / 1000000000^i % 1000000000:=by
 have h1:=Wi (b:=1000000000) (by decide) n (i+1)
 rw[List.drop_of_length_le (by omega)] at h1
 have h2:=(kK (b:=1000000000) (by decide)).1 h1.symm
 rw[rG] at h2
 rcases Nat.div_eq_zero_iff.1 h2 with h | h
 ·exact absurd h (by decide)
 ·exact(Nat.mod_eq_of_lt h).symm
theorem Hr (l:List UInt8) (a b:Nat):(⟨l.toArray⟩:ByteArray).extract a b=⟨((l.drop a).take (b-a)).toArray⟩:=by
 rw[ByteArray.ext_iff,ByteArray.data_extract]
 simp[List.extract_toArray,List.extract_eq_take_drop]
theorem YU (l:List UInt8) {a b:Nat} (h:a≤b) (hb:b≤l.length):tN (aR l) (some (VI (a:Int))) (some (VI (b:Int)))=some (aR ((l.drop a).take (b-a))):=by
 have hs:(⟨l.toArray⟩:ByteArray).size=l.length:=by simp[ByteArray.size]
 have e1:(0:Int)≤b∧(b:Int)≤(l.length:Int):=by omega
 have e2:(0:Int)≤a∧(a:Int)≤(b:Int):=by omega
 simp only[tN,FH,xZ,hs,dV,e1,e2,and_self,if_true,Int.toNat_natCast,Hr]
theorem MH (l:List UInt8) {a:Nat} (h:a≤l.length):tN (aR l) (some (VI (a:Int))) none=some (aR (l.drop a)):=by
 have hs:(⟨l.toArray⟩:ByteArray).size=l.length:=by simp[ByteArray.size]
 have e2:(0:Int)≤a∧(a:Int)≤(l.length:Int):=by omega
 simp only[tN,FH,xZ,hs,dV,e2,and_self,if_true,Int.toNat_natCast,Hr]
 rw[List.take_of_length_le (by simp)]
theorem alJ (l:List UInt8) (h:1≤l.length):tN (aR l) (some (VI 1)) none=some (aR (l.drop 1)):=MH l h
theorem UD {a:Nat} (h:a<1000000000):IntKind.i64.wrap ((a:Int)+1000000000)=((a+1000000000:Nat):Int):=wrapN _ (by omega) (by omega)
theorem mK (n:Nat) (hn:bl n≤2199023255552):TC 212 [bL n] (aR (decDigits n)):=by
 refine TC.walk ⟨true,false⟩ Fv rfl (Nat.le_of_ble_eq_true rfl) (by simp[aL,bO]) rfl ?_
 by_cases h0:n=0
 ·subst h0
  have hl:(((aC 1000000000 0).length:Nat):Int)=0:=by rw[bN];rfl
  simp only[uF,qX,cH,hl,VX,Nat.reduceEqDiff,Nat.reduceAdd]
  rw[gI (by decide)]
  exact aI rfl
 have hl:¬(((aC 1000000000 n).length:Nat):Int)=0:=by have:=(wH (n:=n)).2 h0;omega
 obtain⟨L,hL⟩:∃L,(aC 1000000000 n).length=L+1:=⟨(aC 1000000000 n).length-1,by omega⟩
 have BX:=pT (n:=n) (by omega)
 have hlT:=acQ n
 have hdl:=Ah n
 have w1:IntKind.i64.wrap (((L+1:Nat):Int)-1)=(L:Int):=wrapN _ (by omega) (by omega)
 have w2:IntKind.i64.wrap (((L+1:Nat):Int)-2)=(L:Int)-1:=by rw[wrap64 (by omega) (by omega)];omega
 have at':∀i,i≤L→bC 1 (bL n) (VI (i:Int)) []=some (.cO (tV (n / 1000000000^i % 1000000000)) 0):=fun i hi=>aF (f:=tV) (t := .op) (H:=[]) (size:=1) (k := .i64) (Je (b:=1000000000) (by decide) (n:=n) (i:=i) (by omega)) rfl
 have eL:=at' L (Nat.le_refl _)
 have XZ:=Ym (n:=n) (i:=L) (by omega)
 rw[←XZ] at eL
 have Ou:n / 1000000000^L≠0:=(Dd (b:=1000000000) (by decide)).1 (by omega)
 have hqT:n / 1000000000^L<1000000000:=by rw[XZ];exact Nat.mod_lt _ (by decide)
 have c1:=YX (n / 1000000000^L) (by omega)
 rw[hL] at hl
 simp only[uF,qX,cH,hL,hl,w1,w2,eL,c1,VX,Nat.reduceEqDiff,Nat.reduceAdd]
 refine aN (fun(j:Nat) ρ H=>j≤L∧H=[]∧ρ 0=bL n∧ρ 3=aR (decDigits (n / 1000000000^j))∧ρ 4=VI ((j:Int)-1)) (fun j=>j) L ⟨Nat.le_refl _,rfl,rfl,rfl,rfl⟩ ?_
 rintro j ρ H ⟨hj,rfl,g0,g3,g4⟩
 by_cases hz:(0:Int)≤(j:Int)-1
 ·obtain⟨i,rfl⟩:∃i,j=i+1:=⟨j-1,by omega⟩
  have KY:((i+1:Nat):Int)-1=(i:Int):=by omega
  rw[KY] at g4 hz
  have e1:=at' i (by omega)
  have hm:=Nat.mod_lt (n / 1000000000^i) (show 0<1000000000 by decide)
  have hq1:n / 1000000000^(i+1)≠0:=(Dd (b:=1000000000) (by decide)).1 (by omega)
  have hdm:=Nat.mod_add_div (n / 1000000000^i) 1000000000
  rw[←rG] at hdm
  have hch:=GL (Nat.pos_of_ne_zero hq1) hm
  have hle:n / 1000000000^i≤n:=Nat.div_le_self _ _
  have Xd:=Ah (n / 1000000000^i)
  have hbi:=oG hle
  rw[show n / 1000000000^(i+1)*1000000000+n / 1000000000^i % 1000000000=n / 1000000000^i by omega] at hch
  generalize hAA:n / 1000000000^i=A at *
  generalize n / 1000000000^(i+1)=B at *
  have w4:IntKind.i64.wrap ((i:Int)-1)=(i:Int)-1:=wrap64 (by omega) (by omega)
  have c2:=YX (A % 1000000000+1000000000) (by omega)
  rw[Z4 hm] at c2
  have e2:=alJ (d10 1::BJ 9 (A % 1000000000)) (by simp)
  rw[List.drop_succ_cons,List.drop_zero] at e2
  have hlen:=congrArg List.length hch
  rw[List.length_append] at hlen
  have a1:=pI (decDigits B) (BJ 9 (A % 1000000000)) (by omega)
  rw[←hch] at a1
  have apE:i≤L:=by omega
  have hmu:i<i+1:=by omega
  have w3:=UD hm
  simp only[pX,g0,g3,g4,hz,e1,w3,w4,c2,e2,a1,VX,Nat.reduceEqDiff,Nat.reduceAdd]
  refine⟨i,hmu,apE,?_⟩
  rw[hAA]
  exact⟨rfl,rfl⟩
 ·have RA:j=0:=by omega
  subst RA
  rw[Nat.pow_zero,Nat.div_one] at g3
  simp only[pX,g0,g3,g4,hz,VX,Nat.reduceEqDiff,Nat.reduceAdd]
  exact aI rfl
theorem Kv (q:Rat) (hk:dT q≤1099511627776):TC 176 [bU q] (VB (uK q)):=by
 refine TC.walk ⟨true,false⟩ Jx rfl (Nat.le_of_ble_eq_true rfl) (by simp[aL,As]) rfl ?_
 have la:=AR hk
 have lb:=AJ hk
 have t1:=mK q.num.natAbs (by omega)
 have t2:=mK q.den (by omega)
 have hf:uK q=(decide (((decDigits q.num.natAbs).length:Int)≤200)&&decide (((decDigits q.den).length:Int)≤200)):=by
  unfold uK
  congr 1<;>exact decide_eq_decide.2 (by omega)
 rw[hf]
 by_cases hl:((decDigits q.num.natAbs).length:Int)≤200
 ·simp only[AH,wP,t1,t2,hl,bB,cQ,lM,pD,pE,aM,jX,Nat.reduceLeDiff,Nat.reduceLT,Nat.reduceSub,VX,Nat.reduceEqDiff,Nat.reduceAdd]
  exact aI rfl
 ·simp only[AH,wP,t1,t2,hl,bB,cQ,lM,pD,pE,aM,jX,Nat.reduceLeDiff,Nat.reduceLT,Nat.reduceSub,VX,Nat.reduceEqDiff,Nat.reduceAdd]
  exact aI rfl
theorem Jb (q:Rat) (hk:dT q≤1099511627776):TC 163 [bU q] (aR (Ds q)):=by
 refine TC.walk ⟨true,false⟩ JC rfl (Nat.le_of_ble_eq_true rfl) (by simp[aL,As]) rfl ?_
 have la:=AR hk
 have lb:=AJ hk
 have t1:=mK q.num.natAbs (by omega)
 have t2:=mK q.den (by omega)
 have d1:=Ah q.num.natAbs
 have d2:=Ah q.den
 have c1:∀lo H K,_:=fun lo H K=>IT (n:=q.den) (lo:=lo) (H:=H) (K:=K) (Nat.le_of_lt (pT (by omega)))
 have a1:cU .add (.string ⟨#[45]⟩) (.string ⟨(decDigits q.num.natAbs).toArray⟩)=some (.string ⟨(45::decDigits q.num.natAbs).toArray⟩):=pI [45] _ (by simp only[List.length_cons,List.length_nil];omega)
 have a2:cU .add (.string ⟨#[47]⟩) (.string ⟨(decDigits q.den).toArray⟩)=some (.string ⟨(47::decDigits q.den).toArray⟩):=pI [47] (decDigits q.den) (by simp only[List.length_cons,List.length_nil];omega)
 have a3:=pI (45::decDigits q.num.natAbs) (47::decDigits q.den) (by simp only[List.length_cons];omega)
 have a4:=pI (decDigits q.num.natAbs) (47::decDigits q.den) (by simp only[List.length_cons];omega)
 have hs:Ds q=(if q.num<0 then (45::decDigits q.num.natAbs) else decDigits q.num.natAbs)++(if q.den=1 then [] else 47::decDigits q.den):=by
  unfold Ds
  by_cases hn:q.num<0
  ·rw[if_pos hn,if_pos hn];rfl
  ·rw[if_neg hn,if_neg hn];rfl
 rw[hs]
 by_cases hd:eH q.den 1=0
 ·rw[if_pos (vF.1 hd),List.append_nil]
  by_cases hn:q.num<0
  all_goals
   simp only[A9,vV,t1,t2,a1,a2,a3,a4,c1,hd,hn,dE,cQ,lM,pD,pE,aM,jX,Nat.reduceLeDiff,Nat.reduceLT,Nat.reduceSub,VX,Nat.reduceEqDiff,Nat.reduceAdd]
   exact aI rfl
 ·rw[if_neg (mt vF.2 hd)]
  by_cases hn:q.num<0
  all_goals
   simp only[A9,vV,t1,t2,a1,a2,a3,a4,c1,hd,hn,dE,cQ,lM,pD,pE,aM,jX,Nat.reduceLeDiff,Nat.reduceLT,Nat.reduceSub,VX,Nat.reduceEqDiff,Nat.reduceAdd]
   exact aI rfl
theorem JP (q:Rat) (hk:dT q≤1099511627776):TC 93 [bU q] (OJ q):=by
 refine TC.walk ⟨true,false⟩ I5 rfl (Nat.le_of_ble_eq_true rfl) (by simp[aL,As]) (UB q) ?_
 have t1:=Kv q hk
 have t2:=Jb q hk
 unfold OJ
 by_cases h:uK q=true
 ·rw[h] at t1
  rw[if_pos h]
  simp only[Bd,xL,t1,t2,cQ,jC,jM,aM,jX,Nat.reduceLeDiff,Nat.reduceLT,Nat.reduceSub,VX,Nat.reduceEqDiff,Nat.reduceAdd]
  exact aI rfl
 ·have h':uK q=false:=by simpa using h
  rw[h'] at t1
  rw[if_neg h]
  simp only[Bd,xL,t1,cQ,jC,jM,aM,jX,Nat.reduceLeDiff,Nat.reduceLT,Nat.reduceSub,VX,Nat.reduceEqDiff,Nat.reduceAdd]
  exact aI rfl
end Go.PM