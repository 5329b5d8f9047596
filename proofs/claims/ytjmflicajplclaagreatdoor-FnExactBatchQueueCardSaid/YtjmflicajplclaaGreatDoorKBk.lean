/- Texts of a claim, in one: part 11. -/
import Derived.ChangeMaps5
import Derived.KernelRfl
import Derived.Test.YtjmflicajplclaaGreatDoorKBj
set_option linter.unusedSimpArgs false
set_option linter.unusedVariables false
namespace Go.PM
open Go.Lib
theorem KW {l:List UInt8} {q:Rat} (h:AH l=some q):D8 l = .dQ [aP q,VB true]:=by unfold D8;rw[h]
theorem Lh {l:List UInt8} (h:AH l=none):D8 l = .dQ [Hk,VB false]:=by unfold D8;rw[h]
theorem wQ:aB Hk=[VB false,bN 0,bN 0]:=rfl
theorem zR:isAny Hk=false:=rfl
theorem Fa:dM true 3 Hk 0=some Hk:=rfl
theorem MC {d:Nat} {H:aA} {u u' v v' w w':VV} (h1:fz (d+1) H u=some u') (h2:fz (d+1) H v=some v') (h3:fz (d+1) H w=some w'):fz (d+2) H (.dQ [u,v,w])=some (.dQ [u',v',w']):=by
 have e:fz (d+2) H (.dQ [u,v,w])=if aQ (.dQ [u,v,w])=true then some (.dQ [u,v,w]) else ([u,v,w].mapM (fz (d+1) H)).map .dQ:=rfl
 rw[e]
 split
 ·rename_i h
  simp only[aQ,aO,Bool.and_eq_true,Bool.and_true] at h
  rw[aI h.1] at h1
  rw[aI h.2.1] at h2
  rw[aI h.2.2] at h3
  cases h1
  cases h2
  cases h3
  rfl
 ·rw[List.mapM_cons,h1,List.mapM_cons,h2,List.mapM_cons,h3]
  rfl
end Go.PM
namespace Go.PM
open Go.Lib
end Go.PM
namespace Go.PM
open Go.Lib
theorem Nq {α:Type} {f:α→VV} {d e b g c:Nat} {xs:List α} {H:aA} {w:Bool} (hp:∀x,aQ (f x)=true) (h:aJ H b g=some (xs.map f,e,w)) (hc:xs.length≤c):fz (d+2) H (.ref b g 0 xs.length c)=some (aM f xs):=by
 have:aQ (.ref b g 0 xs.length c)=false:=rfl
 unfold PM.fz
 simp only[this,h,Bool.false_eq_true,if_false]
 rw[if_pos ⟨by simp,hc⟩,List.drop_zero,List.take_of_length_le (by simp),mapM_pure (eW hp)]
 rfl
theorem akR {d:Nat} {H:aA}:fz (d+1) H (.tree [] .nil)=some (.tree [] .op):=by
 unfold PM.fz
 have:aQ (.tree [] .nil)=false:=by simp[aQ]
 simp[this]
theorem C1 {H:aA}:fz depth H (.dQ [.tree [] .nil,VB false])=some (.dQ [.tree [] .op,VB false]):=bR (d:=6) akR (aI (v:=VB false) rfl)
theorem tM {u v:VV} (hu:fX u=true) (hv:fX v=true):fX (.dQ [u,v])=true:=by simp only[fX,rE,hu,hv,Bool.and_self]
theorem Ic {u v w:VV} (hu:fX u=true) (hv:fX v=true) (hw:fX w=true):fX (.dQ [u,v,w])=true:=by simp only[fX,rE,hu,hv,hw,Bool.and_self]
theorem mZ {u v:VV} (hu:aQ u=true) (hv:aQ v=true):aQ (.dQ [u,v])=true:=by simp only[aQ,aO,hu,hv,Bool.and_self]
theorem XM {u:VV} (hu:aQ u=true):aO [u]=true:=by simp only[aO,hu,Bool.and_self]
theorem GX {u v:VV} (hu:aQ u=true) (hv:aQ v=true):aO [u,v]=true:=by simp only[aO,hu,hv,Bool.and_self]
theorem aiQ {u:VV} (hu:aQ u=true):aQ (.agg [u])=true:=by simp only[aQ,aO,hu,Bool.and_self]
def pQ (s:ByteArray):Option Rat:=AH s.data.toList
theorem Rv (s:ByteArray):sV s=bE s.data.toList:=rfl
def yC (xs:List ByteArray):Option (List Rat):=if xs.length≤300 then xs.mapM pQ else none
def Jd (o:Option (List Rat)):VV:=match o with
 | some qs => .dQ [aM aP qs,VB true]
 | none => .dQ [aM aP [],VB false]
theorem Fe (q:Rat):(aB (aP q)).length=3:=rfl
theorem tA (qs:List Rat):aQ (aM aP qs)=true:=kL Fe fN
theorem ZH (q:Rat):Bo (aP q)=true:=by simp[Bo,aP,bN]
theorem Fk (qs:List Rat):fX (aM aP qs)=true:=zN Fe rG ZH
theorem Kn (o:Option (List Rat)):fX (Jd o)=true:=by
 unfold Jd
 split
 ·exact tM (Fk _) rfl
 ·exact tM (Fk []) rfl
theorem Ch {α β:Type} {f:α→Option β} {xs:List α} {ys:List β} {x:α} {y:β} (h:xs.mapM f=some ys) (hx:f x=some y):(xs++[x]).mapM f=some (ys++[y]):=by
 rw[List.mapM_append,h]
 simp[hx]
theorem mapM_none {α β:Type} {f:α→Option β} {x:α} (hx:f x=none):∀ {xs:List α},x∈xs→xs.mapM f=none
 | [],h=>by cases h
 |
  y::xs,h=>by
  rw[List.mapM_cons]
  cases hy:f y with
  | none=>rfl
  |
   some z =>
   rcases List.mem_cons.1 h with rfl | h
   ·rw[hx] at hy;cases hy
   ·show ((xs.mapM f).bind fun zs=>some (z::zs))=none
    rw[mapM_none hx h];rfl
theorem mapM_mem {α β:Type} {f:α→Option β} {P:β→Prop} (hP:∀x y,f x=some y→P y):∀ {xs:List α} {ys:List β},xs.mapM f=some ys→∀y∈ys,P y
 | [],ys,h,y,hy=>by simp at h;subst h;cases hy
 |
  x::xs,ys,h,y,hy=>by
  rw[List.mapM_cons] at h
  cases hx:f x with
  | none=>rw[hx] at h;cases h
  |
   some z =>
   rw[hx] at h
   cases hs:xs.mapM f with
   | none=>rw[hs] at h;cases h
   |
    some zs =>
    rw[hs] at h
    cases h
    rcases List.mem_cons.1 hy with rfl | hy
    ·exact hP _ _ hx
    ·exact mapM_mem hP hs _ hy
theorem gH {α:Type} {xs:List α} {i:Nat} {x:α} (h:xs[i]? = some x):xs.take (i+1)=xs.take i++[x]:=by rw[List.take_add_one,h];rfl
theorem CA {xs:List ByteArray} {qs:List Rat} (h:yC xs=some qs):(∀q∈qs,aZ q≤665)∧qs.length≤300∧qs.length=xs.length:=by
 unfold yC at h
 split at h
 ·rename_i hl
  have:=pY h
  exact⟨mapM_mem (fun _ _ h=>Xu h) h,by omega,this⟩
 ·cases h
set_option maxHeartbeats 1000000 in
theorem UA (xs:List ByteArray) (hn:xs.length≤1000000000) (hs:∀s∈xs,s.size≤1000000000):TC 65 [eG xs] (Jd (yC xs)):=by
 refine TC.walk ⟨true,false⟩ Tc rfl (Nat.le_of_ble_eq_true rfl) (by simp[aO,dG]) (Kn _) ?_
 unfold yC
 by_cases XF:(300:Int)<(xs.length:Int)
 ·rw[if_neg (by omega)]
  simp only[JD,En,XF,VX,Nat.reduceEqDiff,Nat.reduceAdd]
  exact C1
 rw[if_pos (by omega)]
 have e0:=fun H=>gY (H:=H) (lr:=false) (z:=[.bool false,.slice none 0 0,.slice none 0 0]) rfl
 simp only[JD,En,XF,e0,VX,Nat.reduceEqDiff,Nat.reduceAdd]
 refine IY (fun(s:Nat×List Rat) ρ H=>s.1≤xs.length∧(xs.take s.1).mapM pQ=some s.2∧H=[.row s.1 (s.2.map aP) 3 true]∧ρ 4 = .ref 0 s.1 0 s.1 s.1∧ρ 13=eG xs∧ρ 14=VI xs.length∧ρ 15=VI s.1) (fun s=>xs.length-s.1) (0,[]) ⟨Nat.zero_le _,rfl,rfl,rfl,rfl,rfl,rfl⟩ ?_
 rintro⟨i,out⟩ ρ H ⟨hi,EK,rfl,g4,g13,g14,g15⟩
 simp only at hi EK g4 g15
 have jT:out.length=i:=by rw[pY EK,List.length_take];omega
 by_cases cS:(i:Int)<(xs.length:Int)
 ·obtain⟨x,hx⟩:∃x,xs[i]? = some x:=⟨_,List.getElem?_eq_getElem (by omega)⟩
  have hxm:=List.mem_of_getElem? hx
  have e1:=fun H=>aK (f:=sV) (t := .op) (H:=H) (size:=1) (k := .i64) hx rfl
  have wi:IntKind.i64.wrap ((i:Int)+1)=((i+1:Nat):Int):=wrapN (i+1) (by omega) (by omega)
  have e2:=EN x.data.toList (by have:=hs x hxm;rw[Array.length_toList];show x.size≤_;omega)
  rw[←Rv] at e2
  cases hp:pQ x with
  |
   none =>
   rw[Lh hp] at e2
   rw[mapM_none hp hxm]
   simp only[yQ,g4,g13,g14,g15,cS,e1,e2,wQ,zR,Fa,aS,aT,aN,iB,Nat.reduceLeDiff,Nat.reduceLT,Nat.reduceSub,rN,dH,dY,kA,oS,sF,bne_iff_ne,ne_eq,not_false_eq_true,not_true_eq_false,VX,Nat.reduceEqDiff,Nat.reduceAdd]
   exact C1
  |
   some q =>
   rw[KW hp] at e2
   have eL:∀H,kD false [.bool false,.slice none 0 0,.slice none 0 0] 1 [(0,aP q)] H=some (.tree [aP q] (.cl 3),H):=fun H=>fU rfl rfl rfl
   have eS:∀H,cT 3 (.tree [aP q] (.cl 3)) H=some [aP q]:=fun H=>dL rfl rfl
   have eP:eE 0 3 56 (.ref 0 i 0 i i) [aP q] [.row i (out.map aP) 3 true,.row 0 [aP q] 3 true]=some (.ref 0 (i+1) 0 (i+1) (i+1),[.row (i+1) ((out++[q]).map aP) 3 true,.row 0 [aP q] 3 true]):=by
    rw[gG (f:=aP) (xs:=out) (by rw[bB]) jT.symm (Nat.le_refl _) (by decide) (by decide) (by omega),List.set_cons_zero]
   simp only[yQ,g4,g13,g14,g15,cS,e1,e2,eL,eS,eP,wi,aH,cM,cZ,aS,aT,aN,iB,Nat.reduceLeDiff,Nat.reduceLT,Nat.reduceSub,rN,dH,dY,kA,oS,sF,bne_iff_ne,ne_eq,not_false_eq_true,not_true_eq_false,VX,Nat.reduceEqDiff,Nat.reduceAdd]
   refine⟨(i+1,out++[q]),by simp only;omega,?_,by simp only;omega,by simp only[gH hx];exact Ch EK hp,rfl,?_⟩
   ·rw[yU (lZ _ (eW fN)),Fm]
   ·simp only[pO,g13,g14,wL (dG _),FM (Nat.lt_succ_self 0),VX,Nat.reduceEqDiff,Nat.reduceAdd,List.take_zero,jK,List.all_nil,List.length_nil,pO,I1,wL]
 ·have mI:i=xs.length:=by omega
  subst mI
  rw[List.take_length] at EK
  rw[EK]
  simp only[yQ,g4,g13,g14,g15,cS,VX,Nat.reduceEqDiff,Nat.reduceAdd]
  refine bR (d:=6) ?_ (aI (v:=VB true) rfl)
  have:=Nq (d:=5) (w:=true) (f:=aP) (e:=3) (b:=0) (g:=xs.length) (c:=xs.length) (xs:=out) (H:=[.row xs.length (out.map aP) 3 true]) fN (by rw[bB]) (by omega)
  rw[jT] at this
  exact this
end Go.PM
namespace Go.PM
open Go.Lib
theorem Tz {α:Type} {l:List α} (h:l.Nodup) {i j:Nat} {x:α} (hi:l[i]? = some x) (hj:l[j]? = some x):i=j:=by
 obtain⟨hi,nH⟩:=List.getElem?_eq_some_iff.1 hi
 obtain⟨hj,hj'⟩:=List.getElem?_eq_some_iff.1 hj
 have h:=List.pairwise_iff_getElem.1 h
 rcases Nat.lt_trichotomy i j with bH | heq | hgt
 ·exact absurd (nH.trans hj'.symm) (h i j hi hj bH)
 ·exact heq
 ·exact absurd (hj'.trans nH.symm) (h j i hj hi hgt)
section
variable {α:Type} {f:α→VV} {e lo hi:Nat} {H H':aA} {v:VV}
def dK (lo hi:Nat) (H H':aA):Prop:=∀b g x,lo≤b→b<hi→aJ H b g=some x→aJ H' b g=some x
theorem dK.pre (h:H <+: H'):dK lo hi H H':=fun _ _ _ _ _=>cH h
theorem dK.refl:dK lo hi H H:=fun _ _ _ _ _ h=>h
theorem dK.trans {H'':aA} (h:dK lo hi H H') (h':dK lo hi H' H''):dK lo hi H H'':=fun b g x h1 h2 h3=>h' b g x h1 h2 (h b g x h1 h2 h3)
theorem dK.sub {l h':Nat} (h:dK lo hi H H') (hl:lo≤l) (hh:h'≤hi):dK l h' H H':=fun b g x h1 h2=>h b g x (by omega) (by omega)
theorem dK.set {b:Nat} {x:cB} (hb:b<lo∨hi≤b):dK lo hi H (H.set b x):=fun _ _ _ h1 h2=>bX (by omega)
theorem dK.move {L:aA}:dK H.length hi (List.replicate H.length .dead++L) (H++L):=fun _ _ _ h1 _=>ZS h1
def VD (f:α→VV) (e:Nat) (bK:List α) (lo hi:Nat) (H:aA) (v:VV):Prop :=
 (v = .tree [] .nil∧bK=[])∨∃b g c,lo≤b∧b<hi∧v = .ref b g 0 bK.length c∧bK.length≤c∧aJ H b g=some (bK.map f,e,true)
theorem VD.cJ {bK:List α} (h:VD f e bK lo hi H v) (hk:dK lo hi H H'):VD f e bK lo hi H' v:=by
 rcases h with h | ⟨b,g,c,h1,h2,h3,h4,h5⟩
 ·exact .inl h
 ·exact .inr ⟨b,g,c,h1,h2,h3,h4,hk _ _ _ h1 h2 h5⟩
theorem VD.wide {bK:List α} {iJ nH:Nat} (h:VD f e bK lo hi H v) (hl:iJ≤lo) (hh:hi≤nH):VD f e bK iJ nH H v:=by
 rcases h with h | ⟨b,g,c,h1,h2,h3⟩
 ·exact .inl h
 ·exact .inr ⟨b,g,c,by omega,by omega,h3⟩
theorem X9 {d b g c:Nat} {xs:List α} {w:Bool} (hp:∀x,aQ (f x)=true) (h:aJ H b g=some (xs.map f,e,w)) (hc:xs.length≤c):fz (d+2) H (.ref b g 0 xs.length c)=some (aM f xs):=by
 have:aQ (.ref b g 0 xs.length c)=false:=rfl
 show PM.fz ((d+1)+1) H _=_
 unfold PM.fz
 simp only[this,h,Bool.false_eq_true,if_false]
 rw[if_pos ⟨by simp,hc⟩,List.drop_zero,List.take_of_length_le (by simp),mapM_pure (n:=d) (eW hp)]
 rfl
theorem VD.fz {d:Nat} {bK:List α} (h:VD f e bK lo hi H v) (hp:∀x,aQ (f x)=true):PM.fz (d+2) H v=some (aM f bK):=by
 rcases h with⟨rfl,rfl⟩ | ⟨b,g,c,h1,h2,rfl,h4,h5⟩
 ·exact zH
 ·exact X9 hp h5 h4
structure xB (α:Type) where
 b:Nat
 g:Nat
 c:Nat
 xs:List α
def oE (r:xB α):VV := .ref r.b r.g 0 r.xs.length r.c
structure Q3 (f:α→VV) (e lo hi b:Nat) (H:aA) (rs:List (xB α)):Prop where
 nd:(rs.map (·.b)).Nodup
 row:∀r∈rs,lo≤r.b∧r.b<hi∧r.b≠b∧r.xs.length≤r.c∧aJ H r.b r.g=some (r.xs.map f,e,true)
def RG (f:α→VV) (e:Nat) (bK:List (List α)) (lo hi:Nat) (H:aA) (v:VV):Prop :=
 (v = .tree [] .nil∧bK=[])∨∃b g c rs,lo≤b∧b<hi∧v = .ref b g 0 bK.length c∧bK.length≤c∧aJ H b g=some (rs.map oE,1,true)∧rs.map (·.xs)=bK∧Q3 f e lo hi b H rs
theorem RG.cJ {bK:List (List α)} (h:RG f e bK lo hi H v) (hk:dK lo hi H H'):RG f e bK lo hi H' v:=by
 rcases h with h | ⟨b,g,c,rs,h1,h2,h3,h4,h5,h6,h7⟩
 ·exact .inl h
 ·exact .inr ⟨b,g,c,rs,h1,h2,h3,h4,hk _ _ _ h1 h2 h5,h6,h7.nd,fun r hr=>by
   obtain⟨k1,k2,k3,k4,k5⟩:=h7.row r hr
   exact⟨k1,k2,k3,k4,hk _ _ _ k1 k2 k5⟩⟩
theorem RG.wide {bK:List (List α)} {iJ nH:Nat} (h:RG f e bK lo hi H v) (hl:iJ≤lo) (hh:hi≤nH):RG f e bK iJ nH H v:=by
 rcases h with h | ⟨b,g,c,rs,h1,h2,h3,h4,h5,h6,h7⟩
 ·exact .inl h
 ·exact .inr ⟨b,g,c,rs,by omega,by omega,h3,h4,h5,h6,h7.nd,fun r hr=>by
   obtain⟨k1,k2,k3,k4,k5⟩:=h7.row r hr
   exact⟨by omega,by omega,k3,k4,k5⟩⟩
theorem Y8 {d b g c lo hi:Nat} {rs:List (xB α)} {w:Bool} (hp:∀x,aQ (f x)=true) (h:aJ H b g=some (rs.map oE,1,w)) (hc:rs.length≤c) (hR:Q3 f e lo hi b H rs) :
  fz (d+3) H (.ref b g 0 rs.length c)=some (aM (aM f) (rs.map (·.xs))):=by
 have:aQ (.ref b g 0 rs.length c)=false:=rfl
 show PM.fz ((d+2)+1) H _=_
 unfold PM.fz
 simp only[this,h,Bool.false_eq_true,if_false]
 rw[if_pos ⟨by simp,hc⟩,List.drop_zero,List.take_of_length_le (by simp),mapM_map (f:=oE) (f':=fun r=>aM f r.xs) fun r hr=>X9 hp (hR.row r hr).2.2.2.2 (hR.row r hr).2.2.2.1]
 simp[aM,List.map_map]
theorem RG.fz {d:Nat} {bK:List (List α)} (h:RG f e bK lo hi H v) (hp:∀x,aQ (f x)=true):PM.fz (d+3) H v=some (aM (aM f) bK):=by
 rcases h with⟨rfl,rfl⟩ | ⟨b,g,c,rs,h1,h2,rfl,h4,h5,rfl,h7⟩
 ·exact zH
 ·rw[List.length_map] at h4 ⊢
  exact Y8 hp h5 h4 h7
theorem Yg {d:Nat} {us Hi:List VV} (h:us.mapM (PM.fz (d+1) H)=some Hi):PM.fz (d+2) H (.agg us)=some (.agg Hi):=by
 have e:PM.fz (d+2) H (.agg us)=if aQ (.agg us)=true then some (.agg us) else (us.mapM (PM.fz (d+1) H)).map .agg:=rfl
 rw[e]
 by_cases hq:aQ (.agg us)=true
 ·rw[if_pos hq]
  have:us.mapM (PM.fz (d+1) H)=some us:=mapM_pure hq
  rw[this] at h
  cases h
  rfl
 ·rw[if_neg hq,h]
  rfl
def Ym (P:Nat→Nat→aA→VV→Prop) (ok:Bool) (n:Nat) (r:VV) (L:aA):Prop :=
 ∃v,r = .dQ [v,.sc (.bool ok)]∧P n (n+L.length) (List.replicate n .dead++L) v
theorem NJ {F lo:Nat} {args jC:List VV} {P:Nat→Nat→aA→VV→Prop} {ok:Bool} {H:aA} {K:VV→aA→Prop} (h:FC F jC (Ym P ok)) (vO:Cf.contains F=true) (hf:args.mapM (PM.fz depth H)=some jC)
  (hP:∀ {lo hi H H' v},P lo hi H v→dK lo hi H H'→P lo hi H' v) (hk:∀v H',H <+: H'→P H.length H'.length H' v→K (.dQ [v,.sc (.bool ok)]) H'):cO F args lo H K:=by
 refine h.call vO hf ?_
 rintro r L ⟨v,rfl,hv⟩
 refine hk v _ (List.prefix_append _ _) ?_
 rw[List.length_append]
 exact hP hv dK.move
end
def HQ (T:VV) (lo hi:Nat) (H:aA) (v:VV):Prop:=∀H',dK lo hi H H'→fz depth H' v=some T
theorem HQ.cJ {T:VV}:∀ {lo hi H H' v},HQ T lo hi H v→dK lo hi H H'→HQ T lo hi H' v:=fun h hk _ h'=>h _ (hk.trans h')
theorem HQ.now {T v:VV} {lo hi:Nat} {H:aA} (h:HQ T lo hi H v):fz depth H v=some T:=h H dK.refl
def CG (bK:List (List ByteArray)) (lo hi:Nat) (H:aA) (v:VV):Prop:=∃c,v = .agg [c]∧RG sV 1 bK lo hi H c
theorem CG.cJ {bK:List (List ByteArray)}:∀ {lo hi H H' v},CG bK lo hi H v→dK lo hi H H'→CG bK lo hi H' v:=by
 rintro lo hi H H' v ⟨c,h1,h2⟩ hk
 exact⟨c,h1,h2.cJ hk⟩
theorem CG.fz {bK:List (List ByteArray)} {lo hi:Nat} {H:aA} {v:VV} (h:CG bK lo hi H v):PM.fz depth H v=some (chV bK):=by
 obtain⟨c,rfl,h⟩:=h
 refine Yg (d:=6) ?_
 rw[List.mapM_cons,h.fz (d:=4) fun _=>rfl]
 rfl
theorem CG.seen {bK:List (List ByteArray)} {lo hi:Nat} {H:aA} {v:VV} (h:CG bK lo hi H v):HQ (chV bK) lo hi H v:=fun _ hk=>(h.cJ hk).fz
def XS (s:MF) (lo hi:Nat) (H:aA) (v:VV):Prop:=∃a b c m1 m2,v = .agg [a,b,c]∧lo≤m1∧m1≤m2∧m2≤hi∧VD sV 1 s.b lo m1 H a∧RG sV 1 s.g m1 m2 H b∧VD sV 1 s.e m2 hi H c
theorem XS.cJ {s:MF}:∀ {lo hi H H' v},XS s lo hi H v→dK lo hi H H'→XS s lo hi H' v:=by
 rintro lo hi H H' v ⟨a,b,c,m1,m2,h1,k1,k2,k3,h2,h3,h4⟩ hk
 exact⟨a,b,c,m1,m2,h1,k1,k2,k3,h2.cJ (hk.sub (by omega) (by omega)),h3.cJ (hk.sub (by omega) (by omega)),h4.cJ (hk.sub (by omega) (by omega))⟩
theorem arH {s:MF} {l1 h1 l2 h2 l3 h3:Nat} {H:aA} {a b c:VV} (ha:VD sV 1 s.b l1 h1 H a) (hb:RG sV 1 s.g l2 h2 H b) (hc:VD sV 1 s.e l3 h3 H c):PM.fz depth H (.agg [a,b,c])=some (svV s):=by
 refine Yg (d:=6) ?_
 rw[List.mapM_cons,ha.fz (d:=5) fun _=>rfl]
 rw[List.mapM_cons,hb.fz (d:=4) fun _=>rfl]
 rw[List.mapM_cons,hc.fz (d:=5) fun _=>rfl]
 rfl
theorem XS.fz {s:MF} {lo hi:Nat} {H:aA} {v:VV} (h:XS s lo hi H v):PM.fz depth H v=some (svV s):=by
 obtain⟨a,b,c,m1,m2,rfl,k1,k2,k3,h2,h3,h4⟩:=h
 exact arH h2 h3 h4
theorem XS.seen {s:MF} {lo hi:Nat} {H:aA} {v:VV} (h:XS s lo hi H v):HQ (svV s) lo hi H v:=fun _ hk=>(h.cJ hk).fz
theorem VD.seen {bK:List ByteArray} {lo hi:Nat} {H:aA} {v:VV} (h:VD sV 1 bK lo hi H v):HQ (eG bK) lo hi H v:=fun _ hk=>(h.cJ hk).fz (d:=6) fun _=>rfl
def VC (k:Int):ByteArray:=⟨(109::(if k≤0 then [48] else decDigits k.toNat)).toArray⟩
theorem DK (k:Int) (hk:0≤k∧k≤1000000000):TC 101 [VI k] (.sc (.string (VC k))):=by
 refine TC.walk ⟨true,false⟩ Mk rfl (Nat.le_of_ble_eq_true rfl) rfl rfl ?_
 by_cases h0:k≤0
 ·have e:VC k=⟨#[109,48]⟩:=by unfold VC;rw[if_pos h0]
  rw[e]
  simp only[Bm,xA,h0,VX,Nat.reduceEqDiff,Nat.reduceAdd]
  exact aE rfl
 obtain⟨n,rfl⟩:∃n:Nat,k=n:=⟨k.toNat,by omega⟩
 have e1:∀(x:UInt8) (H:aA),kD false [.int .u8 0] 1 [(0,bV x)] H=some (.tree [bV x] (.cl 1),H):=fun x H=>fU rfl rfl rfl
 simp only[Bm,xA,h0,VX,Nat.reduceEqDiff,Nat.reduceAdd]
 refine aV (fun(s:Nat×List UInt8) ρ H=>s.1≤n∧H=[]∧ρ 0=VI s.1∧ρ 3=bE s.2∧decDigits n=mR s.1++s.2) (fun s=>s.1) (n,[]) ⟨Nat.le_refl _,rfl,rfl,rfl,by rw[List.append_nil,mR,if_neg (by omega)]⟩ ?_
 rintro⟨r,bs⟩ ρ H ⟨hr,rfl,g0,g3,hd⟩
 simp only at hr hd g0 g3
 have vB:bs.length≤11:=by
  have h1:=AE n 10 (by omega)
  rw[hd,List.length_append] at h1
  omega
 by_cases hz:(0:Int)<(r:Int)
 ·have em:=TW (r:Int)
  have eq:=aoY (r:Int) (by omega) (by omega)
  have m1:((r:Int)).tmod 10=((r % 10:Nat):Int):=by rw[Int.tmod_eq_emod_of_nonneg (by omega)];omega
  have m2:((r:Int)).tdiv 10=((r / 10:Nat):Int):=by rw[Int.tdiv_eq_ediv_of_nonneg (by omega)];omega
  rw[m1] at em
  rw[m2] at eq
  have w1:IntKind.i64.wrap (48+((r % 10:Nat):Int))=((48+r % 10:Nat):Int):=wrapN _ (by omega) (by omega)
  have w2:IntKind.u8.wrap ((48+r % 10:Nat):Int)=((d10 (r % 10)).toNat:Int):=by
   rw[Qp (Nat.mod_lt _ (by decide))]
   simp[IntKind.wrap,IntKind.bits,IntKind.signed]
   omega
  have bs2:=fun bI (h:fE bI (.tmp 12) = .tree [bV (d10 (r % 10))] (.cl 1))=>(GZ.tree (bs:=[d10 (r % 10)]) (k := .cl 1) (H:=[])).str (fl:=⟨true,false⟩) (lo:=0) h
  have hd':decDigits n=mR (r / 10)++d10 (r % 10)::bs:=by
   refine JI ?_
   rw[hd,mR,if_neg (by omega)]
  have ea:=sB [d10 (r % 10)] bs (by have:=vB;simp only[List.length_cons,List.length_nil];omega)
  simp only[vL,g0,g3,hz,em,eq,w1,w2,e1,Rs,VX,Nat.reduceEqDiff,Nat.reduceAdd]
  rw[bs2 _ rfl]
  simp only[g0,g3,em,eq,ea,VX,Nat.reduceEqDiff,Nat.reduceAdd]
  exact⟨(r / 10,d10 (r % 10)::bs),by simp only;omega,by simp only;omega,rfl,rfl,hd'⟩
 ·have DR:r=0:=by omega
  subst DR
  simp only[vL,g0,hz,VX,Nat.reduceEqDiff,Nat.reduceAdd]
  have hb:bs=decDigits n:=by rw[hd,mR,if_pos rfl,List.nil_append]
  have e:VC (n:Int)=⟨(109::bs).toArray⟩:=by
   unfold VC
   rw[if_neg h0,Int.toNat_natCast,hb]
  have ea:=sB [109] bs (by simp only[List.length_cons,List.length_nil];omega)
  have ea:dN .add (.string ⟨#[109]⟩) (.string ⟨bs.toArray⟩)=some (.string ⟨(109::bs).toArray⟩):=ea
  rw[e]
  simp only[g3,ea,VX,Nat.reduceEqDiff,Nat.reduceAdd]
  exact aE rfl
theorem alJ (k:Int):dN .neq (.string (VC k)) (.string (VC k))=some (.bool false):=by
 unfold VC
 rw[SI]
 simp
abbrev mD (k:Int) (n:Nat):List ByteArray:=(iota k n).map VC
theorem zM (k:Int) (n:Nat):(mD k n).length=n:=by rw[List.length_map,UG]
theorem Xf {k:Int} {n i:Nat} (h:i<n):(mD k n)[i]? = some (VC (k+i)):=by
 rw[List.getElem?_map]
 simp[iota,List.getElem?_range,h]
theorem As {lo b g n c:Nat} {H:aA} (xs:List ByteArray) (k:Int) (hr:aJ H b g=some (xs.map sV,1,true)) (hn:n≤xs.length) (dV:lo≤b) (hk:0≤k∧k≤100000000) (UP:n≤100000000) :
  iI 37 [.ref b g 0 n c,VI k] lo H fun r H'=>r=VI (k+n)∧H'=H.set b (.row g ((mD k n++xs.drop n).map sV) 1 true):=by
 refine iI.walk ⟨true,false⟩ Ho (Nat.le_of_ble_eq_true rfl) ?_
 have hb:b<H.length:=(List.getElem?_eq_some_iff.1 (cK.1 hr)).1
 have h00:H=H.set b (.row g ((mD k 0++xs.drop 0).map sV) 1 true):=by
  have h':=cK.1 hr
  obtain⟨bH,DV⟩:=List.getElem?_eq_some_iff.1 h'
  have:mD k 0++xs.drop 0=xs:=by simp[iota]
  rw[this,←DV,List.set_getElem_self]
 simp only[Bz,Ac,VX,Nat.reduceEqDiff,Nat.reduceAdd]
 refine aV (fun(i:Nat) ρ H1=>i≤n∧H1=H.set b (.row g ((mD k i++xs.drop i).map sV) 1 true)∧ρ 0 = .ref b g 0 n c∧ρ 1=VI (k+i)∧ρ 5=VI i) (fun i=>n-i) 0 ⟨Nat.zero_le _,h00,rfl,by simp only[VX,Nat.reduceEqDiff,Nat.reduceAdd];simp,rfl⟩ ?_
 rintro i ρ H1 ⟨hi,rfl,h0,h1,h5⟩
 have hR:aJ (H.set b (.row g ((mD k i++xs.drop i).map sV) 1 true)) b g=some ((mD k i++xs.drop i).map sV,1,true):=cK.2 (List.getElem?_set_self hb)
 have hlen:(mD k i++xs.drop i).length=xs.length:=by rw[List.length_append,zM,List.length_drop];omega
 have el:=eR (o:=0) (n:=n) (c:=c) hR
 by_cases cS:(i:Int)<(n:Int)
 ·have e1:=bC (o:=0) (n:=n) (c:=c) (i:=i) (k := .i64) hR (by omega)
  have e2:=eV (f:=sV) (e:=1) (x:=VC (k+i)) (j:=i) (lo:=lo) hR (by omega) dV rfl rfl
  have e3:=DK (k+i) (by omega)
  have hs:(mD k i++xs.drop i).set i (VC (k+i))=mD k (i+1)++xs.drop (i+1):=by
   obtain⟨x,hx⟩:∃x,xs[i]? = some x:=⟨_,List.getElem?_eq_getElem (by omega)⟩
   have hd:xs.drop i=x::xs.drop (i+1):=by
    have bH:=List.getElem?_eq_some_iff.1 hx
    rw[List.drop_eq_getElem_cons bH.1,bH.2]
   rw[List.set_append_right _ _ (by rw[zM];exact Nat.le_refl _),zM,Nat.sub_self,hd,List.set_cons_zero]
   have:mD k (i+1)=mD k i++[VC (k+i)]:=by
    show (iota k (i+1)).map VC=(iota k i).map VC++[VC (k+i)]
    unfold iota
    rw[List.range_succ,List.map_append,List.map_append]
    rfl
   rw[this,List.append_assoc]
   rfl
  rw[List.set_set,hs] at e2
  have w1:IntKind.i64.wrap (k+i+1)=k+((i+1:Nat):Int):=by rw[wrap64 (by omega) (by omega)];omega
  have wi:IntKind.i64.wrap ((i:Int)+1)=((i+1:Nat):Int):=wrapN (i+1) (by omega) (by omega)
  simp only[rD,h0,h1,h5,cS,el,e1,e2,e3,w1,wi,VX,Nat.reduceEqDiff,Nat.reduceAdd]
  exact⟨i+1,by omega,by omega,by (repeat' apply And.intro)<;>first | rfl | trivial⟩
 ·have mI:i=n:=by omega
  subst mI
  simp only[rD,h0,h1,h5,cS,el,VX,Nat.reduceEqDiff,Nat.reduceAdd]
theorem Hv (k:Int) (n:Nat) (hk:0≤k∧k≤100000000) (hn:n≤100000000):TC 150 [eG (mD k n),VI k] (VI (k+n)):=by
 refine TC.walk ⟨true,false⟩ Hm rfl (Nat.le_of_ble_eq_true rfl) (GX (dG _) rfl) rfl ?_
 simp only[BX,zS,VX,Nat.reduceEqDiff,Nat.reduceAdd]
 refine aV (fun(i:Nat) ρ H=>i≤n∧H=[]∧ρ 0=eG (mD k n)∧ρ 1=VI (k+i)∧ρ 5=VI i) (fun i=>n-i) 0 ⟨Nat.zero_le _,rfl,rfl,by simp only[VX,Nat.reduceEqDiff,Nat.reduceAdd];simp,rfl⟩ ?_
 rintro i ρ H ⟨hi,rfl,h0,h1,h5⟩
 have hlen:=zM k n
 by_cases cS:(i:Int)<(n:Int)
 ·have hx:=Xf (k:=k) (n:=n) (i:=i) (by omega)
  have e1:=aK (f:=sV) (t := .op) (H:=[]) (size:=1) (k := .i64) hx rfl
  have e3:=DK (k+i) (by omega)
  have w1:IntKind.i64.wrap (k+i+1)=k+((i+1:Nat):Int):=by rw[wrap64 (by omega) (by omega)];omega
  have wi:IntKind.i64.wrap ((i:Int)+1)=((i+1:Nat):Int):=wrapN (i+1) (by omega) (by omega)
  simp only[rC,h0,h1,h5,cS,hlen,e1,e3,w1,wi,alJ,VX,Nat.reduceEqDiff,Nat.reduceAdd]
  exact⟨i+1,by omega,by omega,by (repeat' apply And.intro)<;>first | rfl | trivial⟩
 ·have mI:i=n:=by omega
  subst mI
  simp only[rC,h0,h1,h5,cS,hlen,VX,Nat.reduceEqDiff,Nat.reduceAdd]
  exact aE rfl
theorem ZI {lo b:Nat} {xs:List ByteArray} {H:aA} {k:Int} {K:VV→aA→Prop} (h:aJ H b 0=some ((iA mF xs).map sV,1,true)) (dV:lo≤b) (hk:0≤k∧k≤100000000) (hn:xs.length≤100000000)
  (hK:∀x,K (VI (k+xs.length)) (H.set b x)):cO 37 [.ref b 0 0 xs.length (xs.length+room xs.length),VI k] lo H K:=by
 refine fS rfl ((As (iA mF xs) k h (by rw[KY];omega) dV hk hn).mono ?_)
 rintro r H' ⟨rfl,rfl⟩
 exact hK _
end Go.PM
namespace Go.PM
structure Lin where
 u:List ByteArray
 d:List ByteArray
 deriving Inhabited
end Go.PM
namespace Go.Proofs.YtjmflicajplclaaGreatDoor
open Go.ChangeShapes Go.WideShapes Go.ChangeAt Go.RowKit Go.PM
set_option maxRecDepth 100000 in
theorem Qi {T:Type} {Ar:TypeId×Value→T} {W:World} {v:Value} {d:DataW T} {ps:List MemPlace} {base:Nat} (hv:Value.okWide Tryz.prog W .any base 9 v) (h:DataW.Trod Ar Tryz.prog W 0 (fun _=>true) true 9 v d ps) :
 ∃s:ByteArray,v = .string s∧d = .lit (.string s.data.toList)∧ps=[]∧s.size≤maxLen:=Go.ChangeMaps.open_string Tryz.underlying9 hv h
end Go.Proofs.YtjmflicajplclaaGreatDoor
namespace Go.Proofs.YtjmflicajplclaaGreatDoor
open Go.ChangeShapes Go.WideShapes Go.ChangeAt Go.RowKit Go.PM
theorem ajC {T α:Type} {Ar:TypeId×Value→T} {f:α→VV} {P:Program} {W:World} {t e:TypeId} {V:View} {s:List α} {pv v:Value} {m:dR} {d:DataW T} {ps:List MemPlace} {base:Nat} (ht:P.underlying t=some (.slice e)) (hv:Value.okWide P W .any base t v)
  (h:DataW.Trod Ar P W 0 (fun _=>true) true t v d ps) (hR:RV m pv v) (hT:VR V (aM f s) pv):∃c,s.length≤c∧(c=0∨∃el sp,d = .slice el sp∧el.length+sp.length=c):=by
 obtain⟨a,n,c,rfl⟩:=okWide_slice ht hv
 obtain⟨fuel,hf⟩:=h
 have O7:(Value.slice a n c).cells.toList=[.slice a n c]:=rfl
 rw[O7] at hf
 have key:s.length≤c:=by
  generalize hx:aM f s=x at hT
  cases hT with
  |
   oP k hk =>
   injection hx with h1
   have h2:s=[]:=by simpa using h1
   rw[h2]
   exact Nat.zero_le _
  |
   tree es k b o c' r e' p hF hb ho Vz he hk hl =>
   injection hx with h1 h2
   have Cp:es.length=s.length:=by rw[←h1,List.length_map]
   cases hR with
   | slice _ _ _ _ l ra rc hh hn Sv hxx haa=>omega
  | _=>cases hx
 rcases DataW.trod_slice ht hf with⟨h1,_⟩ | ⟨a',len,cap,elems,rest,k,_,h1,hd,_,hl,hm,hlen,hE,hR',_⟩
 ·injection h1 with h1 _
  cases h1
  exact⟨0,key,.inl rfl⟩
 ·injection h1 with h1 _
  cases h1
  obtain⟨yX,_⟩:=hR' rfl
  exact⟨c,key,.inr ⟨_,_,congrArg Prod.fst hd,by simp[hlen,yX];omega⟩⟩
end Go.Proofs.YtjmflicajplclaaGreatDoor
namespace Go.PM
def Sg (f:Nat→Rat):Nat→Rat
 | 0=>0
 | n+1=>Sg f n+f n
theorem U1 {f g:Nat→Rat}:∀ {n:Nat},(∀i,i<n→f i=g i)→Sg f n=Sg g n
 | 0,_=>rfl
 | n+1,h=>by rw[Sg,Sg,U1 fun i hi=>h i (by omega),h n (by omega)]
theorem alI {f:Nat→Rat} {n:Nat} (h:∀i,i<n→f i=0):Sg f n=0:=by
 induction n with
 | zero=>rfl
 | succ n ih=>rw[Sg,ih fun i hi=>h i (by omega),h n (by omega)];grind
theorem aqB (f g:Nat→Rat) (n:Nat):Sg (fun i=>f i-g i) n=Sg f n-Sg g n:=by
 induction n with
 | zero=>simp only[Sg];grind
 | succ n ih=>simp only[Sg,ih];grind
theorem ahD {f:Nat→Rat} {n k:Nat} (hk:k<n) (h:∀i,i<n→i≠k→f i=0):Sg f n=f k:=by
 induction n with
 | zero=>omega
 |
  succ n ih =>
  rw[Sg]
  by_cases O6:k=n
  ·subst O6
   rw[alI fun i hi=>h i (by omega) (by omega)]
   grind
  ·rw[ih (by omega) fun i hi=>h i (by omega),h n (by omega) (by omega)]
   grind
def O4 (n:Nat) (A:Nat→Nat→Rat) (b x:Nat→Rat):Prop:=∀i,i<n→Sg (fun j=>A i j*x j) n=b i
def ayM (n:Nat) (A:Nat→Nat→Rat):Prop:=∀x,O4 n A (fun _=>0) x→∀j,j<n→x j=0
theorem ayM.uniq {n:Nat} {A:Nat→Nat→Rat} {b x y:Nat→Rat} (h:ayM n A) (hx:O4 n A b x) (hy:O4 n A b y):∀j,j<n→x j=y j:=by
 intro j hj
 have:=h (fun j=>x j-y j) (fun i hi=>by
  have e:Sg (fun j=>A i j*(x j-y j)) n=Sg (fun j=>A i j*x j) n-Sg (fun j=>A i j*y j) n:=by
   rw[←aqB]
   exact U1 fun j _=>by grind
  rw[e,hx i hi,hy i hi]
  grind) j hj
 grind
def elm (c:Nat→Rat) (k:Nat) (A:Nat→Nat→Rat):Nat→Nat→Rat:=fun i j=>A i j-c i*A k j
def Qc (n k:Nat) (A:Nat→Nat→Rat):Prop:=(∀i j,i<n→j<k→j<i→A i j=0)∧∀j,j<k→A j j≠0
theorem Qc.step {n k:Nat} {A:Nat→Nat→Rat} (hU:Qc n k A) (hkk:A k k≠0) (hk:k<n):Qc n (k+1) (elm (fun i=>if k<i then A i k / A k k else 0) k A):=by
 refine⟨fun i j hi hj FU => ?_,fun j hj => ?_⟩
 ·unfold elm
  by_cases hjk:j=k
  ·subst hjk
   simp only[]
   rw[if_pos FU]
   grind
  ·rw[hU.1 i j hi (by omega) FU,hU.1 k j hk (by omega) (by omega)]
   grind
 ·unfold elm
  by_cases hjk:j=k
  ·subst hjk
   simp only[]
   rw[if_neg (by omega)]
   grind
  ·simp only[]
   rw[if_neg (by omega)]
   have:=hU.2 j (by omega)
   grind
def VO (n k:Nat) (A:Nat→Nat→Rat):Prop:=(∀i j,i<n→j<k→i≠j→A i j=0)∧∀j,j<k→A j j≠0
theorem VO.upper {n k:Nat} {A:Nat→Nat→Rat} (h:VO n k A):Qc n k A:=⟨fun i j hi hj FU=>h.1 i j hi hj (by omega),h.2⟩
theorem VO.step {n k:Nat} {A:Nat→Nat→Rat} (hU:VO n k A) (hkk:A k k≠0) (hk:k<n):VO n (k+1) (elm (fun i=>if i=k then 0 else A i k / A k k) k A):=by
 refine⟨fun i j hi hj FU => ?_,fun j hj => ?_⟩
 ·unfold elm
  by_cases hjk:j=k
  ·subst hjk
   simp only[]
   rw[if_neg FU]
   grind
  ·rw[hU.1 i j hi (by omega) FU,hU.1 k j hk (by omega) (by omega)]
   grind
 ·unfold elm
  by_cases hjk:j=k
  ·subst hjk
   simp only[]
   rw[if_pos trivial]
   grind
  ·simp only[]
   rw[if_neg hjk,hU.1 k j hk (by omega) (by omega)]
   have:=hU.2 j (by omega)
   grind
theorem VO.aBU {n:Nat} {A:Nat→Nat→Rat} (hU:VO n n A) (b:Nat→Rat):O4 n A b fun i=>b i / A i i:=by
 intro i hi
 rw[ahD hi fun j hj FU=>by rw[hU.1 i j hi hj (Ne.symm FU)];grind]
 have:=hU.2 i hi
 grind
theorem Qc.back {n k:Nat} {A:Nat→Nat→Rat} {b x:Nat→Rat} (hU:Qc n n A) (hx:O4 n A b x) (hk:k<n):x k=(b k-(Sg (fun j=>A k j*x j) n-Sg (fun j=>A k j*x j) (k+1))) / A k k:=by
 have h1:=hx k hk
 have h2:Sg (fun j=>A k j*x j) (k+1)=A k k*x k:=by
  rw[ahD (k:=k) (by omega) fun j hj hjk=>by rw[hU.1 k j hk (by omega) (by omega)];grind]
 have:=hU.2 k hk
 rw[h1,h2]
 grind
end Go.PM
namespace Go.PM
section
variable {α:Type} {f:α→VV} {e:Nat}
structure Rd (f:α→VV) (e:Nat) (xs:List α) (H:aA) (v:VV):Prop where
 len:∀H',H <+: H'→pW v H'=some (VI xs.length)
 get:∀H',H <+: H'→∀(i:Nat) x,xs[i]? = some x→∃p,bL e v (VI i) H'=some p∧∀ag,cC ag e p H'=dM ag e (f x) 0
 cell:aB v=[v]∧bS v=true∧isAny v=false
theorem Rd.pre {xs:List α} {H H':aA} {v:VV} (h:Rd f e xs H v) (hh:H <+: H'):Rd f e xs H' v:=⟨fun H2 h2=>h.len H2 (hh.trans h2),fun H2 h2=>h.get H2 (hh.trans h2),h.cell⟩
theorem Rd.tree {xs:List α} {H:aA} {t:TK} (hs:∀x,(aB (f x)).length=e):Rd f e xs H (.tree (xs.map f) t) :=
 ⟨fun _ _=>eX,fun _ _ i x hx=>⟨_,aK hx (hs x),fun ag=>ME⟩,rfl,rfl,rfl⟩
theorem Rd.row {xs:List α} {H:aA} {b g n c:Nat} {w:Bool} (h:aJ H b g=some (xs.map f,e,w)) (hn:n=xs.length):Rd f e xs H (.ref b g 0 n c):=by
 subst hn
 refine⟨fun H' hh=>eR (cH hh h),fun H' hh i x hx => ?_,rfl,rfl,rfl⟩
 have hi:=(List.getElem?_eq_some_iff.1 hx).1
 have e1:=bC (o:=0) (n:=xs.length) (c:=c) (i:=i) (k := .i64) (cH hh h) hi
 rw[Nat.zero_add] at e1
 exact⟨_,e1,fun ag=>qU (f:=f) (cH hh h) hx⟩
structure MG (f:α→VV) (e lo hi b g:Nat) (H:aA) (rs:List (xB α)):Prop where
 out:aJ H b g=some (rs.map oE,1,true)
 blo:lo≤b
 bhi:b<hi
 rows:Q3 f e lo hi b H rs
variable {lo hi b g:Nat} {H H':aA} {rs:List (xB α)}
theorem MG.cJ (h:MG f e lo hi b g H rs) (hk:dK lo hi H H'):MG f e lo hi b g H' rs :=
 ⟨hk _ _ _ h.blo h.bhi h.out,h.blo,h.bhi,h.rows.nd,fun r hr=>by
  obtain⟨k1,k2,k3,k4,k5⟩:=h.rows.row r hr
  exact⟨k1,k2,k3,k4,hk _ _ _ k1 k2 k5⟩⟩
theorem MG.pre (h:MG f e lo hi b g H rs) (hh:H <+: H'):MG f e lo hi b g H' rs:=h.cJ (dK.pre hh)
theorem MG.len {n c:Nat} (h:MG f e lo hi b g H rs):pW (.ref b g 0 n c) H=some (VI n):=eR h.out
theorem MG.addr {i n c:Nat} (h:MG f e lo hi b g H rs) (hi:i<n):bL 1 (.ref b g 0 n c) (VI i) H=some (.ptr b g i 0):=by
 have:=bC (o:=0) (n:=n) (c:=c) (i:=i) (k := .i64) h.out hi
 rwa [Nat.zero_add] at this
theorem MG.cell {i:Nat} {r:xB α} (h:MG f e lo hi b g H rs) (hr:rs[i]? = some r):cC false 1 (.ptr b g i 0) H=some (.ref r.b r.g 0 r.xs.length r.c):=by
 rw[qU (f:=oE) h.out hr]
 rfl
theorem MG.row {i:Nat} {r:xB α} (h:MG f e lo hi b g H rs) (hr:rs[i]? = some r):aJ H r.b r.g=some (r.xs.map f,e,true):=(h.rows.row r (List.mem_of_getElem? hr)).2.2.2.2
theorem MG.at {i j n c:Nat} {r:xB α} (h:MG f e lo hi b g H rs) (hr:rs[i]? = some r) (hj:j<n):bL e (.ref r.b r.g 0 n c) (VI j) H=some (.ptr r.b r.g j 0):=by
 have:=bC (o:=0) (n:=n) (c:=c) (i:=j) (k := .i64) (h.row hr) hj
 rwa [Nat.zero_add] at this
theorem MG.get {i j:Nat} {ag:Bool} {r:xB α} {x:α} (h:MG f e lo hi b g H rs) (hr:rs[i]? = some r) (hx:r.xs[j]? = some x):cC ag e (.ptr r.b r.g j 0) H=dM ag e (f x) 0:=qU (f:=f) (h.row hr) hx
theorem MG.inj {i j:Nat} {r s:xB α} (h:MG f e lo hi b g H rs) (hr:rs[i]? = some r) (hs:rs[j]? = some s) (he:r.b=s.b):i=j:=by
 have h1:(rs.map (·.b))[i]? = some r.b:=by simp[hr]
 have h2:(rs.map (·.b))[j]? = some r.b:=by simp[hs,he]
 exact Tz h.rows.nd h1 h2
theorem NF {β γ:Type} {F:β→γ} {l:List β} {i:Nat} {x y:β} (hx:l[i]? = some x) (he:F y=F x):(l.set i y).map F=l.map F:=by
 apply List.ext_getElem?
 intro j
 rw[List.getElem?_map,List.getElem?_map,List.getElem?_set]
 split
 ·rename_i SL
  subst SL
  split
  ·rw[hx,Option.map_some,Option.map_some,he]
  ·rename_i hn
   rw[(List.getElem?_eq_none (by omega))] at hx
   cases hx
 ·rfl
theorem MG.set {i:Nat} {r:xB α} {ys:List α} (h:MG f e lo hi b g H rs) (hr:rs[i]? = some r) (hl:ys.length=r.xs.length):MG f e lo hi b g (H.set r.b (.row r.g (ys.map f) e true)) (rs.set i { r with xs:=ys }):=by
 have D1:=h.rows.row r (List.mem_of_getElem? hr)
 refine⟨?_,h.blo,h.bhi,?_,fun s hs => ?_⟩
 ·rw[NF hr (by simp[oE,hl])]
  exact bX D1.2.2.1 h.out
 ·rw[NF (F:=fun r:xB α=>r.b) (y:={ r with xs:=ys }) hr rfl]
  exact h.rows.nd
 ·obtain⟨j,hj⟩:=List.getElem?_of_mem hs
  rw[List.getElem?_set] at hj
  split at hj
  ·rename_i SL
   split at hj
   ·cases hj
    exact⟨D1.1,D1.2.1,D1.2.2.1,by rw[hl];exact D1.2.2.2.1,cE D1.2.2.2.2⟩
   ·cases hj
  ·rename_i SL
   have SZ:=h.rows.row s (List.mem_of_getElem? hj)
   exact⟨SZ.1,SZ.2.1,SZ.2.2.1,SZ.2.2.2.1,bX (fun he=>SL (h.inj hr hj he)) SZ.2.2.2.2⟩
theorem MG.put {i j iJ:Nat} {r:xB α} {y:α} (h:MG f e lo hi b g H rs) (hr:rs[i]? = some r) (hj:j<r.xs.length) (dV:iJ≤lo) (hv:(aB (f y)).length=e) (hs:(aB (f y)).all bS=true) :
  bQ iJ e (.ptr r.b r.g j 0) (f y) H=some (H.set r.b (.row r.g ((r.xs.set j y).map f) e true)) :=
 eV (f:=f) (h.row hr) hj (Nat.le_trans dV (h.rows.row r (List.mem_of_getElem? hr)).1) hv hs
theorem MG.lt {i:Nat} {r:xB α} (h:MG f e lo hi b g H rs) (hr:rs[i]? = some r):lo≤r.b∧r.b<hi∧r.b<H.length:=⟨(h.rows.row r (List.mem_of_getElem? hr)).1,(h.rows.row r (List.mem_of_getElem? hr)).2.1,hJ (h.row hr)⟩
theorem MG.bK {c:Nat} (h:MG f e lo hi b g H rs) (hc:rs.length≤c):RG f e (rs.map (·.xs)) lo hi H (.ref b g 0 rs.length c) := .inr ⟨b,g,c,rs,h.blo,h.bhi,by rw[List.length_map],by rw[List.length_map];exact hc,h.out,rfl,h.rows⟩
theorem MG.fz {d c:Nat} (h:MG f e lo hi b g H rs) (hc:rs.length≤c) (hp:∀x,aQ (f x)=true):PM.fz (d+3) H (.ref b g 0 rs.length c)=some (aM (aM f) (rs.map (·.xs))):=Y8 hp h.out hc h.rows
theorem MG.wide {iJ nH:Nat} (h:MG f e lo hi b g H rs) (hl:iJ≤lo) (hh:hi≤nH):MG f e iJ nH b g H rs:=⟨h.out,by have:=h.blo;omega,by have:=h.bhi;omega,h.rows.nd,fun r hr=>by
 obtain⟨k1,k2,k3,k4,k5⟩:=h.rows.row r hr
 exact⟨by omega,by omega,k3,k4,k5⟩⟩
end
theorem eO:type_of% (And.intro @gW<|And.intro @Cx<|And.intro @oU.eq_1<|And.intro @rU.eq_1<|And.intro @rU.eq_2<|And.intro @F6.eq_1<|And.intro @F6.eq_2<|And.intro @zV.eq_1<|And.intro @zV.eq_2<|And.intro @I8<|And.intro @C0<|And.intro @FA<|And.intro @Fj<|And.intro @List.take_zero.{0}<|And.intro @List.take_succ_cons.{0}<|And.intro @List.take_nil.{0}<|And.intro @List.drop_zero.{0}<|And.intro @List.drop_succ_cons.{0}<|And.intro @List.drop_nil.{0}<|And.intro @List.append_nil.{0} <| @Nat.le_refl):=And.intro @gW<|And.intro @Cx<|And.intro @oU.eq_1<|And.intro @rU.eq_1<|And.intro @rU.eq_2<|And.intro @F6.eq_1<|And.intro @F6.eq_2<|And.intro @zV.eq_1<|And.intro @zV.eq_2<|And.intro @I8<|And.intro @C0<|And.intro @FA<|And.intro @Fj<|And.intro @List.take_zero.{0}<|And.intro @List.take_succ_cons.{0}<|And.intro @List.take_nil.{0}<|And.intro @List.drop_zero.{0}<|And.intro @List.drop_succ_cons.{0}<|And.intro @List.drop_nil.{0}<|And.intro @List.append_nil.{0} <| @Nat.le_refl
def IZ (P:Nat→Nat→aA→VV→Prop) (H:aA) (r:VV) (H':aA):Prop:=H <+: H'∧P H.length H'.length H' r
theorem iM {F lo:Nat} {args:List VV} {P:Nat→Nat→aA→VV→Prop} {H:aA} {K:VV→aA→Prop} (vO:Cf.contains F=true) (h:iI F args lo H (IZ P H)) (hk:∀r L,P H.length (H++L).length (H++L) r→K r (H++L)):cO F args lo H K:=by
 refine fS vO (h.mono ?_)
 rintro r H' ⟨⟨L,rfl⟩,hP⟩
 exact hk r L hP
end Go.PM
namespace Go.PM
open Go.Lib
abbrev cell0:cB := .row 0 [.agg [VB false,.tree [] .nil,.tree [] .nil]] 3 true
def eH (qs:List Rat):Rat:=qs.foldl (· + ·) 0
theorem Cl {qs:List Rat} {i:Nat} {q:Rat} (h:qs[i]? = some q):eH (qs.take (i+1))=eH (qs.take i)+q:=by
 rw[gH h,eH,List.foldl_append];rfl
theorem QH {B:Nat}:∀ {qs:List Rat},(∀q∈qs,aZ q≤B)→∀a:Rat,aZ (qs.foldl (· + ·) a)≤qs.length*(B+1)+aZ a
 | [],_,a=>by simp
 |
  q::qs,h,a=>by
  have h1:=QH (fun x hx=>h x (List.mem_cons_of_mem _ hx)) (a+q)
  have h2:=J1 a q
  have h3:=h q List.mem_cons_self
  rw[List.foldl_cons,List.length_cons,Nat.succ_mul]
  omega
theorem zY {B:Nat} {qs:List Rat} (h:∀q∈qs,aZ q≤B) (i:Nat):aZ (eH (qs.take i))≤qs.length*(B+1)+1:=by
 have h1:=QH (qs:=qs.take i) (fun q hq=>h q (List.mem_of_mem_take hq)) 0
 have h2:(qs.take i).length*(B+1)≤qs.length*(B+1):=Nat.mul_le_mul_right _ (by rw[List.length_take];omega)
 rw[CR] at h1
 unfold eH
 omega
set_option maxHeartbeats 1000000 in
abbrev rz:VV := .agg [VB false,.tree [] .nil,.tree [] .nil]
theorem lY {H H1:aA} {b:Nat} {x:cB} (h:H <+: H1) (hb:H.length≤b):H <+: H1.set b x:=by
 obtain⟨L,rfl⟩:=h
 rw[List.set_append_right _ _ hb]
 exact List.prefix_append _ _
theorem kZ {H H1 L:aA} (h:H <+: H1):H <+: H1++L:=h.trans (List.prefix_append _ _)
theorem zP {lo:Nat} {H:aA} {q:Rat} (h:lo≤H.length):bQ lo 3 (.ptr H.length 0 0 0) (aP q) (H++[cell0])=some (H++[.row 0 [aP q] 3 true]):=by
 rw[bZ (g:=0) (e:=3) (j:=0) gI (by exact Nat.zero_lt_one) h rfl rfl,IP]
 rfl
theorem Ik {H K:aA} {q:Rat}:cC true 3 (.ptr H.length 0 0 0) (H ++ .row 0 [aP q] 3 true::K)=some (aP q):=by
 rw[bP,yJ,bB]
 exact cZ _
theorem GI {lo:Nat} {H:aA} {v:VV} (qs:List Rat) {B:Nat} (hv:Rd aP 3 qs H v) (dV:lo≤H.length) (hb:∀q∈qs,aZ q≤B) (hk:qs.length*(B+1)+1≤1099511627776) (hB:B≤1099511627776) (hn:qs.length≤1000000000) :
  iI 70 [v] lo H (IZ (fun _ _ _ r=>r=aP (eH qs)) H):=by
 refine iI.walk ⟨true,false⟩ XI (Nat.le_of_ble_eq_true rfl) ?_
 have e1:TC 64 [VI 0] (aP 0):=qP 0 (by decide) (by decide)
 have e2:=hv.len (H++[cell0,.row 0 [aP 0] 3 true]) (List.prefix_append _ _)
 have s0:bQ lo 3 (.ptr (H.length+1) 0 0 0) (aP 0) (H++[cell0,cell0])=some (H++[cell0,.row 0 [aP 0] 3 true]):=by
  have:=zP (lo:=lo) (H:=H++[cell0]) (q:=0) (by rw[List.length_append];omega)
  simpa only[List.length_append,List.length_cons,List.length_nil,Nat.zero_add,List.append_assoc,List.cons_append,List.nil_append] using this
 simp only[UY,Ng,e1,e2,s0,List.length_append,List.length_cons,List.length_nil,List.append_assoc,List.cons_append,List.nil_append,eO,VX,Nat.reduceEqDiff,Nat.reduceAdd,Nat.reduceLeDiff,Nat.reduceLT,Nat.reduceSub]
 refine aV (fun(i:Nat) ρ H1=>i≤qs.length∧H <+: H1∧aJ H1 H.length 0=some ([rz],3,true)∧aJ H1 (H.length+1) 0=some ([aP (eH (qs.take i))],3,true)∧ρ 2 = .ptr H.length 0 0 0∧ρ 3 = .ptr (H.length+1) 0 0 0∧ρ 7=v∧ρ 8=VI qs.length∧ρ 9=VI i) (fun i=>qs.length-i) 0 ⟨Nat.zero_le _,List.prefix_append _ _,yJ.trans bB,Rq.trans (nB.trans bB),rfl,rfl,rfl,rfl,rfl⟩ ?_
 rintro i ρ H1 ⟨hi,hp,DR,HC,g2,g3,g7,g8,g9⟩
 have CC:=hJ HC
 by_cases cS:(i:Int)<(qs.length:Int)
 ·obtain⟨q,hq⟩:∃q,qs[i]? = some q:=⟨_,List.getElem?_eq_getElem (by omega)⟩
  obtain⟨p,a1,a2⟩:=hv.get H1 hp i q hq
  have a2':=(a2 true).trans (cZ _)
  have wi:IntKind.i64.wrap ((i:Int)+1)=((i+1:Nat):Int):=wrapN (i+1) (by omega) (by omega)
  have h1:=zY hb i
  have h2:=hb q (List.mem_of_getElem? hq)
  have h3:(i+1)*(B+1)≤qs.length*(B+1):=Nat.mul_le_mul_right _ (by omega)
  have e3:=zI (eH (qs.take i)) q (by omega) (by omega)
  rw[←Cl hq] at e3
  have s1:=zP (lo:=lo) (H:=H1) (q:=q) (by omega)
  have s2:=Ik (H:=H1) (K:=[]) (q:=q)
  have s3:cC true 3 (.ptr (H.length+1) 0 0 0) (H1++[.row 0 [aP q] 3 true])=some (aP (eH (qs.take i))):=by
   rw[bP,cI HC]
   exact cZ _
  have s4:=bZ (lo:=lo) (v:=aP (eH (qs.take (i+1)))) (j:=0) (cI (L:=[.row 0 [aP q] 3 true]) HC) (by exact Nat.zero_lt_one) (by omega) rfl rfl
  rw[List.set_cons_zero] at s4
  simp only[EZ,g2,g3,g7,g8,g9,cS,a1,a2',e3,s1,s2,s3,s4,wi,cZ,eO,VX,Nat.reduceEqDiff,Nat.reduceAdd,Nat.reduceLeDiff,Nat.reduceLT,Nat.reduceSub]
  exact⟨i+1,by omega,by omega,lY (kZ hp) (by omega),bX (by omega) (cI DR),cE (cI HC),by (repeat' apply And.intro)<;>first | rfl | trivial | assumption⟩
 ·have mI:i=qs.length:=by omega
  subst mI
  rw[List.take_length] at HC
  have s3:cC true 3 (.ptr (H.length+1) 0 0 0) H1=some (aP (eH qs)):=by
   rw[bP,HC]
   exact cZ _
  have s4:=bZ (lo:=lo) (v:=aP (eH qs)) (j:=0) DR (by exact Nat.zero_lt_one) dV rfl rfl
  rw[List.set_cons_zero] at s4
  have s5:cC true 3 (.ptr H.length 0 0 0) (H1.set H.length (.row 0 [aP (eH qs)] 3 true))=some (aP (eH qs)):=by
   rw[bP,cE DR]
   exact cZ _
  simp only[EZ,g2,g3,g8,g9,cS,s3,s4,s5,eO,VX,Nat.reduceEqDiff,Nat.reduceAdd,Nat.reduceLeDiff,Nat.reduceLT,Nat.reduceSub]
  exact⟨lY hp (Nat.le_refl _),rfl⟩
theorem Rh {q:Rat}:kS q<0↔q<0:=by
 have e:q.num<0↔q<0:=by rw[←Int.not_le,Rat.num_nonneg];constructor<;>intro h<;>grind
 rw[←e]
 rcases Int.lt_trichotomy q.num 0 with h | h | h
 ·rw[pC h];omega
 ·rw[lC h];omega
 ·rw[pF h];omega
theorem P0 {q:Rat}:0<kS q↔0<q:=by
 have e:0<q.num↔0<q:=by
  constructor
  ·intro h
   have h1:0≤q:=Rat.num_nonneg.1 (by omega)
   have h2:q≠0:=fun h'=>by rw[h'] at h;exact absurd h (by decide)
   grind
  ·intro h
   have h1:0≤q.num:=Rat.num_nonneg.2 (by grind)
   have h2:q.num≠0:=fun h'=>by rw[Rat.num_eq_zero] at h';rw[h'] at h;exact absurd h (by decide)
   omega
 rw[←e]
 rcases Int.lt_trichotomy q.num 0 with h | h | h
 ·rw[pC h];omega
 ·rw[lC h];omega
 ·rw[pF h];omega
theorem Ow (q:Rat):TC 67 [aP q] (VB (decide (q<0))):=by
 refine TC.walk ⟨true,false⟩ N1 rfl (Nat.le_of_ble_eq_true rfl) (by simp[aO,fN]) rfl ?_
 have e1:=iE q
 by_cases h:kS q<0
 ·rw[decide_eq_true (Rh.1 h)]
  simp only[CI,Au,e1,h,aH,cM,cZ,aS,aT,aN,iB,Nat.reduceLeDiff,Nat.reduceLT,Nat.reduceSub,rN,dH,dY,kA,oS,sF,bne_iff_ne,ne_eq,not_false_eq_true,not_true_eq_false,VX,Nat.reduceEqDiff,Nat.reduceAdd]
  exact aE rfl
 ·rw[decide_eq_false (mt Rh.2 h)]
  simp only[CI,Au,e1,h,aH,cM,cZ,aS,aT,aN,iB,Nat.reduceLeDiff,Nat.reduceLT,Nat.reduceSub,rN,dH,dY,kA,oS,sF,bne_iff_ne,ne_eq,not_false_eq_true,not_true_eq_false,VX,Nat.reduceEqDiff,Nat.reduceAdd]
  exact aE rfl
theorem CF (xs:List Rat) (g:Nat) (p:Rat→Bool) (hg:∀x∈xs,TC g [aP x] (VB (p x))) (hn:xs.length≤1000000000) :
  ∃k:Int,(0≤k↔xs.any p=true)∧TC 141 [aM aP xs,.wG g []] (VI k):=by
 refine⟨match xs.findIdx? p with | some i=>i | none => -1,?_,?_⟩
 ·cases h:xs.findIdx? p with
  |
   none =>
   rw[List.findIdx?_eq_none_iff] at h
   simp only[List.any_eq_true]
   constructor
   ·intro h';omega
   ·rintro⟨x,hx,hp⟩;rw[h x hx] at hp;cases hp
  |
   some i =>
   simp only[List.any_eq_true]
   obtain⟨hi,hp,_⟩:=List.findIdx?_eq_some_iff_getElem.1 h
   exact⟨fun _=>⟨_,List.getElem_mem hi,hp⟩,fun _=>by omega⟩
 ·refine TC.walk ⟨true,false⟩ pK rfl (Nat.le_of_ble_eq_true rfl) (by simp[aO,tA];rfl) rfl ?_
  simp only[jF,iU,VX,Nat.reduceEqDiff,Nat.reduceAdd]
  refine aV (fun(i:Nat) ρ H=>i≤xs.length∧H=[]∧(∀j x,j<i→xs[j]? = some x→p x=false)∧ρ 0=aM aP xs∧ρ 1 = .wG g []∧ρ 7=VI xs.length∧ρ 8=VI i) (fun i=>xs.length-i) 0 ⟨Nat.zero_le _,rfl,fun j x h=>by omega,rfl,rfl,rfl,rfl⟩ ?_
  rintro i ρ H ⟨hi,rfl,kB,h0,h1,h7,h8⟩
  by_cases cS:(i:Int)<(xs.length:Int)
  ·obtain⟨x,hx⟩:∃x,xs[i]? = some x:=⟨_,List.getElem?_eq_getElem (by omega)⟩
   have e1:=aK (f:=aP) (t := .op) (H:=[]) (size:=3) (k := .i64) hx rfl
   have wi:IntKind.i64.wrap ((i:Int)+1)=((i+1:Nat):Int):=wrapN (i+1) (by omega) (by omega)
   have e2:=hg x (List.mem_of_getElem? hx)
   cases hp:p x with
   |
    false =>
    rw[hp] at e2
    simp only[cY,h0,h1,h7,h8,cS,e1,e2,wi,Cz,List.append_nil,aH,cM,cZ,aS,aT,aN,VX,Nat.reduceEqDiff,Nat.reduceAdd]
    refine⟨i+1,by omega,by omega,fun j y hj hy => ?_,by (repeat' apply And.intro)<;>first | rfl | trivial⟩
    rcases Nat.lt_or_ge j i with FU | FU
    ·exact kB j y FU hy
    ·have:j=i:=by omega
     subst this
     rw[hx] at hy
     injection hy with hy
     exact hy▸hp
   |
    true =>
    rw[hp] at e2
    simp only[cY,h0,h1,h7,h8,cS,e1,e2,wi,Cz,List.append_nil,aH,cM,cZ,aS,aT,aN,VX,Nat.reduceEqDiff,Nat.reduceAdd]
    have:xs.findIdx? p=some i:=by
     rw[List.findIdx?_eq_some_iff_getElem]
     obtain⟨bH,DV⟩:=List.getElem?_eq_some_iff.1 hx
     exact⟨bH,by rw[DV];exact hp,fun j hj=>by
      have:=kB j _ hj (List.getElem?_eq_getElem (by omega))
      simp[this]⟩
    rw[this]
    exact aE rfl
  ·simp only[cY,h0,h1,h7,h8,cS,VX,Nat.reduceEqDiff,Nat.reduceAdd]
   have:xs.findIdx? p=none:=by
    rw[List.findIdx?_eq_none_iff]
    intro x hx
    obtain⟨j,hj⟩:=List.getElem?_of_mem hx
    exact kB j x (by have:=(List.getElem?_eq_some_iff.1 hj).1;omega) hj
   rw[this]
   exact aE rfl
theorem AL (xs:List Rat) (g:Nat) (p:Rat→Bool) (hg:∀x∈xs,TC g [aP x] (VB (p x))) (hn:xs.length≤1000000000):TC 66 [aM aP xs,.wG g []] (VB (xs.any p)):=by
 refine TC.walk ⟨true,false⟩ nY rfl (Nat.le_of_ble_eq_true rfl) (by simp[aO,tA];rfl) rfl ?_
 obtain⟨k,hk,hc⟩:=CF xs g p hg hn
 have e:decide (0≤k)=xs.any p:=by
  cases h:xs.any p with
  | true=>rw[decide_eq_true (hk.2 h)]
  | false=>rw[decide_eq_false fun h'=>by rw[hk.1 h'] at h;cases h]
 simp only[iH,gR,hc,e,VX,Nat.reduceEqDiff,Nat.reduceAdd]
 exact aE rfl
def jN (qs:List Rat):Bool := !(qs.any fun q=>decide (q<0))&&decide (eH qs=1)
def gE (xs:List ByteArray):Option (List Rat):=match yC xs with
 | some qs=>if jN qs=true then some qs else none
 | none=>none
theorem Pz {xs:List ByteArray} {qs:List Rat} (h:gE xs=some qs):yC xs=some qs∧jN qs=true:=by
 unfold gE at h
 split at h
 ·rename_i ps hp
  split at h
  ·rename_i hw
   cases h
   exact⟨hp,hw⟩
  ·cases h
 ·cases h
theorem Nz {n:Nat} (h:n≤300):n*(665+1)+1≤1099511627776:=by omega
theorem EC {xs:List ByteArray} {qs:List Rat} (h:yC xs=some qs):gE xs=if jN qs=true then some qs else none:=by unfold gE;rw[h]
theorem Ly {xs:List ByteArray} (h:yC xs=none):gE xs=none:=by unfold gE;rw[h]
theorem vX:Jd none = .dQ [aM aP [],VB false]:=rfl
theorem Cu (qs:List Rat):Jd (some qs) = .dQ [aM aP qs,VB true]:=rfl
set_option maxHeartbeats 1000000 in
theorem Kp (xs:List ByteArray) (hn:xs.length≤1000000000) (hs:∀s∈xs,s.size≤1000000000):TC 98 [eG xs] (Jd (gE xs)):=by
 refine TC.walk ⟨true,false⟩ Jr rfl (Nat.le_of_ble_eq_true rfl) (by simp[aO,dG]) (Kn _) ?_
 have e1:=UA xs hn hs
 cases h:yC xs with
 |
  none =>
  rw[h,vX] at e1
  rw[Ly h,vX]
  simp only[qA,nC,e1,VX,Nat.reduceEqDiff,Nat.reduceAdd]
  exact C1
 |
  some qs =>
  rw[h,Cu] at e1
  rw[EC h]
  obtain⟨hb,hl,_⟩:=CA h
  have e2:=AL qs 67 (fun q=>decide (q<0)) (fun q _=>Ow q) (by omega)
  have hm:qs.length*666≤199800:=by omega
  have e3:=fun(K:aA)=>GI (lo:=0) (H:=K) (v:=aM aP qs) qs (B:=665) (Rd.tree Fe) (Nat.zero_le _) hb (Nz hl) (by decide) (by omega)
  have hsb:=zY hb qs.length
  rw[List.take_length] at hsb
  have e4:=KE (eH qs) (by omega)
  cases Mi:qs.any (fun q=>decide (q<0)) with
  |
   true =>
   rw[Mi] at e2
   have hw:¬jN qs=true:=by unfold jN;rw[Mi];simp
   rw[if_neg hw,vX]
   simp only[qA,nC,e1,e2,VX,Nat.reduceEqDiff,Nat.reduceAdd]
   exact C1
  |
   false =>
   rw[Mi] at e2
   by_cases abZ:eH qs=1
   ·rw[decide_eq_true abZ] at e4
    have hw:jN qs=true:=by unfold jN;rw[Mi,decide_eq_true abZ];rfl
    rw[if_pos hw,Cu]
    simp only[qA,nC,e1,e2,VX,Nat.reduceEqDiff,Nat.reduceAdd]
    refine iM rfl (e3 _) fun r L hr => ?_
    subst hr
    simp only[e4,VX,Nat.reduceEqDiff,Nat.reduceAdd]
    exact aE (mZ (tA _) rfl)
   ·rw[decide_eq_false abZ] at e4
    have hw:¬jN qs=true:=by unfold jN;rw[Mi,decide_eq_false abZ];simp
    rw[if_neg hw,vX]
    simp only[qA,nC,e1,e2,VX,Nat.reduceEqDiff,Nat.reduceAdd]
    refine iM rfl (e3 _) fun r L hr => ?_
    subst hr
    simp only[e4,VX,Nat.reduceEqDiff,Nat.reduceAdd]
    exact C1
end Go.PM
namespace Go.PM
open Go.Lib
end Go.PM
namespace Go.PM
def Bf:aD:=(LS [LO 10 (.bin .lss (LT 9) (LT 8))] (.seq (.cond (LT 10) .skip (.exit 0)) (.seq (.block 1 (LS [LM 11 9,LM 4 11] (.dE [LM 12 3,LM 13 4,LO 14 (.call 64 [(LI 0)]),LO 15 (.lit [(.bool false),(.slice none 0 0),(.slice none 0 0)] 1 [(0,(LT 14))]),LM 16 0,LO 17 (.call 162 [(LT 15),(LT 16)]),LO 18 (.iaddr 1 (LT 12) (LT 13)),LN (.store 1 (LT 18) (LT 17))]))) (.dE [LO 19 (.bin .add (LT 9) (LI 1)),LM 9 19]))))
def IC:aD:=(LS [LO 2 (.mv (.const (.slice none 0 0)))] (LS [LM 5 0,LO 6 (.make [(.slice none 0 0)] 24 (LT 5) (LT 5)),LM 3 6] (.seq (LS [LM 7 3,LO 8 (.len (LT 7)),LO 9 (.mv (LI 0))] (.block 0 (.loop Bf))) (LS [LM 20 3,LM 2 20] .ret))))
def OQ:aR:=⟨21,[(.tmp 2)],IC⟩
theorem Sx:fA 99=some OQ:=by kernel_rfl
def uW:aD:=(LS [LO 13 (.bin .lss (LT 12) (LT 11))] (.seq (.cond (LT 13) .skip (.exit 0)) (.seq (.block 1 (LS [LO 14 (.iaddr 1 (LT 10) (LT 12)),LO 15 (LL 14),LM 6 15] (LS [LM 17 6,LO 18 (.call 147 [(LT 17)]),LM 16 18,LO 19 (LX 16 0),LO 20 (LX 16 1),LM 7 19,LM 8 20] (.seq (LS [LM 21 8,LO 22 (.un .not (LT 21))] (.cond (LT 22) (LS [LO 23 (.build [(.slice none 0 0)] [(0,1)] []),LN (.store 1 (LT 2) (LT 23)),LO 3 (.mv LF)] .ret) .skip)) (.dE [LO 24 (LA 0 4),LO 25 (LL 24),LM 26 7,LO 27 (.lit [(.slice none 0 0)] 1 [(0,(LT 26))]),LO 28 (.app 1 24 (LT 25) (LT 27)),LO 29 (LA 0 4),LN (.store 1 (LT 29) (LT 28))]))))) (.dE [LO 30 (.bin .add (LT 12) (LI 1)),LM 12 30]))))
def B7:aD:=(LS [LO 2 (.new [(.slice none 0 0)]),LO 3 (.mv LF)] (LS [LO 9 (.build [(.slice none 0 0)] [(0,1)] []),LO 4 (.new [(.slice none 0 0)]),LN (.store 1 (LT 4) (LT 9))] (.seq (LS [LM 10 0,LO 11 (.len (LT 10)),LO 12 (.mv (LI 0))] (.block 0 (.loop uW))) (LS [LO 31 (.load true 1 (LT 4)),LN (.store 1 (LT 2) (LT 31)),LO 3 (.mv LG)] .ret))))
def E6:aR:=⟨32,[(.cell 2 true 1),(.tmp 3)],B7⟩
theorem Jq:fA 71=some E6:=by kernel_rfl
end Go.PM
namespace Go.PM
open Go.Lib
abbrev Pp (x:VV):VV := .agg [x]
theorem Y9 {x:VV}:dM false 1 (Pp x) 0=some x:=rfl
theorem QC (x:List Rat):(aB (aM aP x)).length=1:=rfl
theorem Tg (m:List (List Rat)):aQ (aM (aM aP) m)=true:=kL QC tA
theorem alY (m:List (List Rat)):fX (aM (aM aP) m)=true:=zN QC Fk fun _=>rfl
end Go.PM
namespace Go.PM
theorem R1 (n:Nat) (h:n<18446744073709551616):dN .and (.int .u64 (n:Int)) (.int .u64 4294967295)=some (.int .u64 ((n % 4294967296:Nat):Int)):=by
 simp only[dN,if_true]
 have h1:(BitVec.ofInt IntKind.u64.bits (n:Int) &&& BitVec.ofInt IntKind.u64.bits 4294967295).toNat=n % 4294967296:=by
  rw[BitVec.toNat_and]
  have e1:(BitVec.ofInt IntKind.u64.bits (n:Int)).toNat=n:=by
   rw[BitVec.toNat_ofInt]
   simp only[IntKind.bits]
   omega
  have e2:(BitVec.ofInt IntKind.u64.bits 4294967295).toNat=2^32-1:=by
   rw[BitVec.toNat_ofInt]
   simp only[IntKind.bits]
   omega
  rw[e1,e2,Nat.and_two_pow_sub_one_eq_mod]
 rw[h1,eU _ (by omega)]
end Go.PM
namespace Go.PM
def O9 (cs:List kQ) (i:Nat):Int:=((cs[i]?).map (·.t)).getD 0
def wkC (cs:List kQ) (i:Nat):Int:=((cs[i]?).map (·.w)).getD 0
def klC (cs:List kQ) (i:Nat):Int:=((cs[i]?).map (·.k)).getD 0
def Kl (st:List Int) (i:Nat):Int:=(st[i]?).getD 0
theorem XK {cs:List kQ} {i:Nat} {x:kQ} (h:cs[i]? = some x):O9 cs i=x.t:=by simp[O9,h]
theorem asI {cs:List kQ} {i:Nat} {x:kQ} (h:cs[i]? = some x):wkC cs i=x.w:=by simp[wkC,h]
theorem agH {st:List Int} {i:Nat} {x:Int} (h:st[i]? = some x):Kl st i=x:=by simp[Kl,h]
def inS (cs:List kQ) (st:List Int) (t:Int) (i:Nat):Bool:=decide (0≤Kl st i)&&decide (Kl st i≤t)&&decide (t<Kl st i+wkC cs i)
def bz (cs:List kQ) (st:List Int) (t:Int):Nat:=(List.range cs.length).countP (inS cs st t)
def isW (cs:List kQ) (st:List Int) (t:Int) (i:Nat):Bool:=decide (Kl st i<0)&&decide (O9 cs i≤t)
def wt (cs:List kQ) (st:List Int) (t:Int):List Nat:=(List.range cs.length).filter (isW cs st t)
def Mh (cP:Int) (cs:List kQ) (i k:Nat):Bool :=
 if cP=1 then true else if cP=2 then decide (wkC cs i<wkC cs k) else if cP=3 then decide (klC cs i<klC cs k) else false
def AP (cP:Int) (cs:List kQ) (b:Option Nat) (i:Nat):Option Nat:=match b with
 | none=>some i
 | some k=>if Mh cP cs i k then some i else some k
def nxt (cP:Int) (cs:List kQ) (st:List Int) (t:Int):Option Nat:=(wt cs st t).foldl (AP cP cs) none
def fill (cP uC:Int) (cs:List kQ) (t:Int):Nat→List Int→List Int
 | 0,st=>st
 |
  n+1,st=>if (bz cs st t:Int)<uC then (match nxt cP cs st t with
  | none=>st
  | some k=>fill cP uC cs t n (st.set k t)) else st
def full (cP uC:Int) (cs:List kQ) (st:List Int) (t:Int):Prop:=uC≤(bz cs st t:Int)∨nxt cP cs st t=none
def runT (cP uC:Int) (cs:List kQ):Int→Nat→List Int→List Int
 | _,0,st=>st
 | t,n+1,st=>runT cP uC cs (t+1) n (fill cP uC cs t cs.length st)
def stL (cP uC:Int) (cs:List kQ):List Int:=runT cP uC cs 0 100000 (List.replicate cs.length (-1))
section
variable {cP uC:Int} {cs:List kQ} {st:List Int} {t:Int}
theorem yT (h:full cP uC cs st t) (n:Nat):fill cP uC cs t n st=st:=by
 cases n with
 | zero=>rfl
 |
  succ n =>
  rw[fill]
  rcases h with h | h
  ·rw[if_neg (by omega)]
  ·split
   ·rw[h]
   ·rfl
theorem QI (m:Nat):∀(t:Int) (n:Nat),(∀u,t≤u→u<t+m→full cP uC cs st u)→m≤n→runT cP uC cs t n st=runT cP uC cs (t+m) (n-m) st:=by
 induction m with
 | zero=>intro t n _ _;simp
 |
  succ m ih =>
  intro t n h hm
  obtain⟨n,rfl⟩:∃k,n=k+1:=⟨n-1,by omega⟩
  rw[runT,yT (h t (Int.le_refl _) (by omega)),ih (t+1) n (fun u h1 h2=>h u (by omega) (by omega)) (by omega)]
  congr 1
  ·omega
  ·omega
theorem Zl (n:Nat):∀(t:Int),(∀u,t≤u→full cP uC cs st u)→runT cP uC cs t n st=st:=by
 intro t h
 rw[QI n t n (fun u h1 _=>h u h1) (Nat.le_refl _),Nat.sub_self]
 rfl
theorem YQ {a b:Int} (ha:0≤a) (HD:a≤b) (hb:b≤100000) (h:∀u,a≤u→u<b→full cP uC cs st u):runT cP uC cs a (100000-a).toNat st=runT cP uC cs b (100000-b).toNat st:=by
 rw[QI (b-a).toNat a _ (fun u h1 h2=>h u h1 (by omega)) (by omega)]
 congr 1
 ·omega
 ·omega
theorem ahL {a:Int} (ha:0≤a) (hb:a<100000):runT cP uC cs a (100000-a).toNat st=runT cP uC cs (a+1) (100000-(a+1)).toNat (fill cP uC cs a cs.length st):=by
 rw[show (100000-a).toNat=(100000-(a+1)).toNat+1 by omega,runT]
theorem QS {ws:List Nat} {k:Nat}:∃j,(ws.foldl (AP cP cs) (some k))=some j∧(j=k∨j∈ws):=by
 induction ws generalizing k with
 | nil=>exact⟨k,rfl,.inl rfl⟩
 |
  cons i ws ih =>
  rw[List.foldl_cons]
  have:∃q,AP cP cs (some k) i=some q∧(q=k∨q=i):=by
   unfold AP
   simp only
   split
   ·exact⟨i,rfl,.inr rfl⟩
   ·exact⟨k,rfl,.inl rfl⟩
  obtain⟨q,hq,hqq⟩:=this
  rw[hq]
  obtain⟨j,h1,h2⟩:=ih (k:=q)
  refine⟨j,h1,?_⟩
  rcases h2 with rfl | h2
  ·rcases hqq with rfl | rfl
   ·exact .inl rfl
   ·exact .inr List.mem_cons_self
  ·exact .inr (List.mem_cons_of_mem _ h2)
theorem zF:nxt cP cs st t=none↔wt cs st t=[]:=by
 unfold nxt
 cases h:wt cs st t with
 | nil=>exact⟨fun _=>rfl,fun _=>rfl⟩
 |
  cons i ws =>
  refine⟨fun h2 => ?_,fun h2=>(by cases h2)⟩
  rw[List.foldl_cons] at h2
  obtain⟨j,h3,_⟩:=QS (cP:=cP) (cs:=cs) (ws:=ws) (k:=i)
  rw[show AP cP cs none i=some i from rfl,h3] at h2
  cases h2
theorem RQ {k:Nat} (h:nxt cP cs st t=some k):k∈wt cs st t:=by
 unfold nxt at h
 cases hw:wt cs st t with
 | nil=>rw[hw] at h;cases h
 |
  cons i ws =>
  rw[hw,List.foldl_cons] at h
  obtain⟨j,h3,h4⟩:=QS (cP:=cP) (cs:=cs) (ws:=ws) (k:=i)
  rw[show AP cP cs none i=some i from rfl,h3] at h
  injection h with h
  subst h
  rcases h4 with rfl | h4
  ·exact List.mem_cons_self
  ·exact List.mem_cons_of_mem _ h4
theorem NK {k:Nat}:k∈wt cs st t↔k<cs.length∧Kl st k<0∧O9 cs k≤t:=by
 simp[wt,isW]
theorem afJ:(wt cs st t).Nodup:=List.Pairwise.filter _ List.nodup_range
theorem HI {k i:Nat} (hk:k<st.length):Kl (st.set k t) i=if i=k then t else Kl st i:=by
 unfold Kl
 rw[List.getElem?_set]
 by_cases h:i=k
 ·subst h
  simp[hk]
 ·rw[if_neg (fun h'=>h h'.symm),if_neg h]
theorem RU {p q:Nat→Bool} {k:Nat} (hp:p k=false) (h:∀i,i≠k→q i=p i):∀n,(List.range n).countP q=(List.range n).countP p+if k<n∧q k=true then 1 else 0:=by
 intro n
 induction n with
 | zero=>simp
 |
  succ n ih =>
  rw[List.range_succ,List.countP_append,List.countP_append,ih]
  by_cases hk:n=k
  ·subst hk
   simp only[List.countP_singleton,hp]
   cases hq:q n<;>simp
  ·rw[List.countP_singleton,List.countP_singleton,h n hk]
   have:(k<n+1∧q k=true)↔(k<n∧q k=true):=by
    constructor
    ·rintro⟨h1,h2⟩;exact⟨by omega,h2⟩
    ·rintro⟨h1,h2⟩;exact⟨by omega,h2⟩
   simp only[this]
   omega
theorem aqX {k:Nat} {u:Int} (hk:k<cs.length) (hl:st.length=cs.length) (hs:Kl st k<0) (h0:0≤t):bz cs (st.set k t) u=bz cs st u+if t≤u∧u<t+wkC cs k then 1 else 0:=by
 unfold bz
 rw[RU (p:=inS cs st u) (q:=inS cs (st.set k t) u) (k:=k)]
 ·congr 1
  have:(k<cs.length∧inS cs (st.set k t) u k=true)↔(t≤u∧u<t+wkC cs k):=by
   simp only[inS,HI (t:=t) (i:=k) (by omega:k<st.length),if_true,Bool.and_eq_true,decide_eq_true_eq]
   constructor
   ·rintro⟨_,⟨_,h1⟩,h2⟩;exact⟨h1,h2⟩
   ·rintro⟨h1,h2⟩;exact⟨hk,⟨h0,h1⟩,h2⟩
  simp only[this]
 ·simp only[inS]
  rw[decide_eq_false (by omega)]
  rfl
 ·intro i hi
  simp only[inS,HI (t:=t) (i:=i) (by omega:k<st.length),if_neg hi]
theorem arM {k:Nat} {u:Int} (hl:st.length=cs.length) (hk:k<cs.length) (h0:0≤t):wt cs (st.set k t) u=(wt cs st u).filter (· != k):=by
 unfold wt
 rw[List.filter_filter]
 refine List.filter_congr fun i hi => ?_
 simp only[isW,HI (t:=t) (i:=i) (by omega:k<st.length)]
 by_cases h:i=k
 ·subst h
  simp
  omega
 ·simp[h]
def Hr (st:List Int):Nat:=st.countP (fun s=>decide (s<0))
theorem Ci {k:Nat} (hk:k<st.length) (hs:Kl st k<0) (h0:0≤t):Hr (st.set k t)+1=Hr st:=by
 unfold Hr
 rw[List.countP_set hk]
 have hx:st[k]=Kl st k:=by
  rw[agH (x:=st[k]) (List.getElem?_eq_getElem hk)]
 have h1:decide (st[k]<0)=true:=by rw[hx];exact decide_eq_true hs
 have h2:decide (t<0)=false:=decide_eq_false (by omega)
 have h3:0<st.countP (fun s=>decide (s<0)):=by
  rw[List.countP_pos_iff]
  exact⟨st[k],List.getElem_mem hk,h1⟩
 simp only[h1,h2,if_true,Bool.false_eq_true,if_false]
 omega
theorem Z9 (hl:st.length=cs.length) (h0:0≤t):∀(n m:Nat),Hr st≤n→Hr st≤m→fill cP uC cs t n st=fill cP uC cs t m st:=by
 intro n
 induction n generalizing st with
 |
  zero =>
  intro m hn hm
  have hf:full cP uC cs st t:=by
   right
   rw[zF]
   cases hw:wt cs st t with
   | nil=>rfl
   |
    cons i ws =>
    have h1:i∈wt cs st t:=by rw[hw];exact List.mem_cons_self
    obtain⟨h2,h3,_⟩:=NK.1 h1
    have:=Ci (t:=t) (by omega:i<st.length) h3 h0
    omega
  rw[yT hf,yT hf]
 |
  succ n ih =>
  intro m hn hm
  cases m with
  |
   zero =>
   have hf:full cP uC cs st t:=by
    right
    rw[zF]
    cases hw:wt cs st t with
    | nil=>rfl
    |
     cons i ws =>
     have h1:i∈wt cs st t:=by rw[hw];exact List.mem_cons_self
     obtain⟨h2,h3,_⟩:=NK.1 h1
     have:=Ci (t:=t) (by omega:i<st.length) h3 h0
     omega
   rw[yT hf,yT hf]
  |
   succ m =>
   rw[fill,fill]
   split
   ·split
    ·rfl
    ·rename_i k hk
     obtain⟨h2,h3,_⟩:=NK.1 (RQ hk)
     have:=Ci (t:=t) (by omega:k<st.length) h3 h0
     exact ih (by simp[hl]) m (by omega) (by omega)
   ·rfl
theorem YI:Hr st≤st.length:=List.countP_le_length
theorem abY {k:Nat} (hl:st.length=cs.length) (h0:0≤t) (hb:(bz cs st t:Int)<uC) (hk:nxt cP cs st t=some k):fill cP uC cs t cs.length (st.set k t)=fill cP uC cs t cs.length st:=by
 obtain⟨h2,h3,_⟩:=NK.1 (RQ hk)
 have h4:=Ci (t:=t) (by omega:k<st.length) h3 h0
 have h5:=YI (st:=st)
 rw[Z9 (st:=st) hl h0 cs.length (cs.length+1) (by omega) (by omega)]
 conv=>rhs;rw[fill,if_pos hb,hk]
def evT (cs:List kQ) (st:List Int) (i:Nat):Int:=if 0≤Kl st i then Kl st i+wkC cs i else O9 cs i
def arX (cs:List kQ) (st:List Int) (t:Int) (b:Int) (i:Nat):Int:=if t<evT cs st i∧(b<0∨evT cs st i<b) then evT cs st i else b
def later (cs:List kQ) (st:List Int) (t:Int):Int:=(List.range cs.length).foldl (arX cs st t) (-1)
structure Way (cs:List kQ) (st:List Int) (t:Int):Prop where
 len:st.length=cs.length
 low:∀i,i<cs.length → -1≤Kl st i
 high:∀i,i<cs.length→Kl st i≤t
 bd:∀i,i<cs.length→Kl st i+1000*(Hr st:Int)≤10000+1000*(cs.length:Int)
 tm:0≤t∧t+1000*(Hr st:Int)≤11000+1000*(cs.length:Int)
theorem Way.set {k:Nat} (h:Way cs st t) (hk:k<cs.length) (hs:Kl st k<0):Way cs (st.set k t) t:=by
 have hl:=h.len
 have htm:=h.tm
 have h4:=Ci (t:=t) (by omega:k<st.length) hs htm.1
 refine⟨by simp[hl],fun i hi => ?_,fun i hi => ?_,fun i hi => ?_,htm.1,by omega⟩
 all_goals rw[HI (by omega:k<st.length)]
 ·have:=h.low i hi
  split<;>omega
 ·have:=h.high i hi
  split<;>omega
 ·have:=h.bd i hi
  split<;>omega
theorem Way.le (h:Way cs st t) (hc:nQ cs):t≤35000∧∀i,i<cs.length→Kl st i≤34000:=by
 have hlen:=hc.2
 have htm:=h.tm
 refine⟨by omega,fun i hi => ?_⟩
 have:=h.bd i hi
 omega
theorem nQ.bnd (hc:nQ cs) {i:Nat} (hi:i<cs.length):(0≤O9 cs i∧O9 cs i≤10000)∧(1≤wkC cs i∧wkC cs i≤1000):=by
 have hx:cs[i]? = some cs[i]:=List.getElem?_eq_getElem hi
 have:=hc.at hx
 rw[XK hx,asI hx]
 exact⟨this.1,this.2.1⟩
def Ol (cP:Int) (cs:List kQ) (ws:List Nat):Nat :=
 if cP=1 then ws.length-1 else if cP=2∨cP=3 then (List.range ws.length).foldl (fun b k=>if Mh cP cs (ws.getD k 0) (ws.getD b 0) then k else b) 0 else 0
theorem WO {ws:List Nat} {k:Nat} (h:∀i j,Mh cP cs i j=false):ws.foldl (AP cP cs) (some k)=some k:=by
 induction ws with
 | nil=>rfl
 |
  cons i ws ih =>
  rw[List.foldl_cons]
  have:AP cP cs (some k) i=some k:=by
   unfold AP
   simp only[h]
   rfl
  rw[this,ih]
theorem aeO {ws:List Nat} (fT:ws≠[]) (hr:0≤cP∧cP≤3):Ol cP cs ws<ws.length∧ws[Ol cP cs ws]? = ws.foldl (AP cP cs) none:=by
 have hlen:0<ws.length:=List.length_pos_iff.2 fT
 unfold Ol
 by_cases h1:cP=1
 ·rw[if_pos h1]
  rcases List.eq_nil_or_concat ws with rfl | ⟨xs,y,rfl⟩
  ·exact absurd rfl fT
  ·rw[List.concat_eq_append,List.foldl_append]
   refine⟨by simp,?_⟩
   simp only[List.length_append,List.length_cons,List.length_nil,Nat.zero_add,Nat.add_sub_cancel,List.foldl_cons,List.foldl_nil]
   rw[List.getElem?_append_right (Nat.le_refl _),Nat.sub_self]
   unfold AP
   split
   ·rfl
   ·simp only[Mh,if_pos h1,if_true]
    rfl
 ·rw[if_neg h1]
  by_cases h2:cP=2∨cP=3
  ·rw[if_pos h2]
   have aCF:∀i,Mh cP cs i i=false:=fun i=>by
    unfold Mh
    rw[if_neg h1]
    split
    ·exact decide_eq_false (by omega)
    ·split
     ·exact decide_eq_false (by omega)
     ·rfl
   have key:∀n,n<ws.length→(List.range (n+1)).foldl (fun b k=>if Mh cP cs (ws.getD k 0) (ws.getD b 0) then k else b) 0<ws.length ∧
     ws[(List.range (n+1)).foldl (fun b k=>if Mh cP cs (ws.getD k 0) (ws.getD b 0) then k else b) 0]? = (ws.take (n+1)).foldl (AP cP cs) none:=by
    intro n
    induction n with
    |
     zero =>
     intro _
     have:(List.range (0+1)).foldl (fun b k=>if Mh cP cs (ws.getD k 0) (ws.getD b 0) then k else b) 0=0:=by
      simp[List.range_succ,aCF]
     rw[this]
     refine⟨hlen,?_⟩
     cases ws with
     | nil=>exact absurd rfl fT
     | cons i ws=>rfl
    |
     succ n ih =>
     intro hn
     obtain⟨g1,g2⟩:=ih (by omega)
     rw[List.range_succ,List.foldl_append,List.foldl_cons,List.foldl_nil]
     generalize (List.range (n+1)).foldl (fun b k=>if Mh cP cs (ws.getD k 0) (ws.getD b 0) then k else b) 0=b at *
     obtain⟨x,hx⟩:∃x,ws[n+1]? = some x:=⟨_,List.getElem?_eq_getElem hn⟩
     obtain⟨y,hy⟩:∃y,ws[b]? = some y:=⟨_,List.getElem?_eq_getElem g1⟩
     rw[List.take_add_one,hx,List.foldl_append,←g2,hy]
     simp only[Option.toList_some,List.foldl_cons,List.foldl_nil,List.getD_eq_getElem?_getD,hx,hy,Option.getD_some,AP]
     split
     ·exact⟨hn,hx⟩
     ·exact⟨g1,hy⟩
   have:=key (ws.length-1) (by omega)
   rw[show ws.length-1+1=ws.length by omega,List.take_of_length_le (Nat.le_refl _)] at this
   exact this
  ·rw[if_neg h2]
   refine⟨hlen,?_⟩
   have hb:∀i j,Mh cP cs i j=false:=fun i j=>by
    unfold Mh
    rw[if_neg h1,if_neg (by omega),if_neg (by omega)]
   cases ws with
   | nil=>exact absurd rfl fT
   |
    cons i ws =>
    rw[List.foldl_cons,show AP cP cs none i=some i from rfl,WO hb]
    rfl
end
end Go.PM
namespace Go.PM
def WQ (st:List Int) (i:Nat):Bool:=decide (Kl st i<0)
def gtB (u e:Int):Bool:=decide (u<e)
section
variable {cP uC:Int} {cs:List kQ} {st:List Int} {t:Int}
theorem nQ.sorted (hc:nQ cs):∀ {i j:Nat},i≤j→j<cs.length→O9 cs i≤O9 cs j:=by
 intro i j SL hj
 induction j with
 |
  zero =>
  have:i=0:=by omega
  subst this
  exact Int.le_refl _
 |
  succ j ih =>
  rcases Nat.lt_or_ge i (j+1) with h | h
  ·have h1:=ih (by omega) (by omega)
   have hx:cs[j+1]? = some cs[j+1]:=List.getElem?_eq_getElem hj
   have hy:cs[j]? = some cs[j]:=List.getElem?_eq_getElem (by omega)
   have h2:=(hc.1 (j+1) _ hx).2 _ (by omega) (by rw[Nat.add_sub_cancel];exact hy)
   rw[XK hx]
   rw[XK hy] at h1
   omega
  ·have:i=j+1:=by omega
   subst this
   exact Int.le_refl _
theorem Ih {fR:Nat} (awL:fR≤cs.length) (past:∀i,i<fR→O9 cs i≤t) (fut:∀i,fR≤i→i<cs.length→t<O9 cs i):wt cs st t=(List.range fR).filter (WQ st):=by
 unfold wt
 rw[show cs.length=fR+(cs.length-fR) by omega,List.range_add,List.filter_append]
 have h1:(List.range fR).filter (isW cs st t)=(List.range fR).filter (WQ st):=by
  refine List.filter_congr fun i hi => ?_
  rw[List.mem_range] at hi
  simp[isW,WQ,past i hi]
 have h2:((List.range (cs.length-fR)).map fun x=>fR+x).filter (isW cs st t)=[]:=by
  rw[List.filter_eq_nil_iff]
  intro i hi
  obtain⟨j,hj,rfl⟩:=List.mem_map.1 hi
  rw[List.mem_range] at hj
  have:=fut (fR+j) (by omega) (by omega)
  simp only[isW,Bool.and_eq_true,decide_eq_true_eq]
  omega
 rw[h1,h2,List.append_nil]
structure RS (cP uC:Int) (cs:List kQ) (st:List Int) (t:Int) (fR:Nat) (ws:List Nat) (ends:List Int):Prop where
 len:st.length=cs.length
 low:∀i,i<cs.length → -1≤Kl st i
 high:∀i,i<cs.length→Kl st i≤t
 bd:∀i,i<cs.length→Kl st i+1000*(Hr st:Int)≤10000+1000*(cs.length:Int)
 tm : -1≤t
 Qb:fR≤cs.length
 past:∀i,i<fR→O9 cs i≤t
 fut:∀i,fR≤i→i<cs.length→t<O9 cs i∧Kl st i<0
 wsq:ws=wt cs st t
 cnt:∀u,t≤u→ends.countP (gtB u)=bz cs st u
 ef:∀e∈ends,t<e
 eb:∀e∈ends,e+1000*(Hr st:Int)≤11000+1000*(cs.length:Int)
 fl:full cP uC cs st t
 room:ws.length+ends.length≤fR
 es:(ends.length:Int)≤uC
 run:runT cP uC cs (t+1) (100000-(t+1)).toNat st=stL cP uC cs
theorem IB {n i:Nat} (h:i<n):Kl (List.replicate n (-1)) i = -1:=agH (by rw[List.getElem?_replicate,if_pos h])
theorem RS.start (hc:nQ cs) (hs:1≤uC):RS cP uC cs (List.replicate cs.length (-1)) (-1) 0 [] []:=by
 have hw:wt cs (List.replicate cs.length (-1)) (-1)=[]:=by
  rw[Ih (Nat.zero_le _) (fun i hi=>by omega) fun i _ hi=>by have:=hc.bnd hi;omega]
  rfl
 have hu:Hr (List.replicate cs.length (-1))=cs.length:=by simp[Hr,List.countP_replicate]
 refine⟨by simp,fun i hi=>by rw[IB hi];decide,fun i hi=>by rw[IB hi];decide,fun i hi=>by rw[IB hi,hu];omega,by decide,Nat.zero_le _,fun i hi=>by omega,fun i _ hi=>⟨by have:=hc.bnd hi;omega,by rw[IB hi];decide⟩,hw.symm,fun u _ => ?_,fun e he=>(by cases he),fun e he=>(by cases he),.inr (zF.2 hw),Nat.le_refl _,by simp;omega,rfl⟩
 unfold bz
 rw[(List.countP_eq_zero (p:=inS cs (List.replicate cs.length (-1)) u)).2]
 ·rfl
 ·intro i hi
  rw[List.mem_range] at hi
  simp only[inS,IB hi,Bool.and_eq_true,decide_eq_true_eq]
  omega
def SV (w:Bool) (b e:Int):Int:=if b<0∨(w=true∧e<b) then e else b
theorem atS {es:List Int} {b:Int} (h:0≤b):es.foldl (SV false) b=b:=by
 induction es with
 | nil=>rfl
 |
  cons e es ih =>
  rw[List.foldl_cons]
  have:SV false b e=b:=by
   unfold SV
   rw[if_neg (by simp;omega)]
  rw[this,ih]
theorem aoW:∀ {es:List Int} {b:Int},(∀e∈es,0≤e)→(es.foldl (SV true) b=b∨es.foldl (SV true) b∈es)∧(∀e∈es,es.foldl (SV true) b≤e)∧(0≤b→es.foldl (SV true) b≤b)∧(es≠[]→0≤es.foldl (SV true) b)
 | [],b,_=>⟨.inl rfl,fun e he=>(by cases he),fun _=>Int.le_refl _,fun h=>absurd rfl h⟩
 |
  e::es,b,h=>by
  rw[List.foldl_cons]
  have h1:=h e List.mem_cons_self
  have h2:∀e'∈es,0≤e':=fun e' he=>h e' (List.mem_cons_of_mem _ he)
  have hm:(SV true b e=b∨SV true b e=e)∧SV true b e≤e∧(0≤b→SV true b e≤b)∧0≤SV true b e:=by
   unfold SV
   by_cases hc:b<0∨(true=true∧e<b)
   ·rw[if_pos hc]
    refine⟨.inr rfl,Int.le_refl _,fun hb => ?_,h1⟩
    rcases hc with hc | hc<;>omega
   ·rw[if_neg hc]
    simp at hc
    exact⟨.inl rfl,hc.2,fun _=>Int.le_refl _,hc.1⟩
  obtain⟨m1,m2,m3,m4⟩:=hm
  obtain⟨g1,g2,g3,g4⟩:=aoW (es:=es) (b:=SV true b e) h2
  have g3:=g3 m4
  refine⟨?_,?_,fun hb=>by have:=m3 hb;omega,fun _ => ?_⟩
  ·rcases g1 with g1 | g1
   ·rw[g1]
    rcases m1 with m1 | m1
    ·exact .inl m1
    ·rw[m1];exact .inr List.mem_cons_self
   ·exact .inr (List.mem_cons_of_mem _ g1)
  ·intro e' he
   rcases List.mem_cons.1 he with rfl | he
   ·omega
   ·exact g2 e' he
  ·rcases g1 with g1 | g1
   ·rw[g1];exact m4
   ·exact h2 _ g1
def SO (cs:List kQ) (fR:Nat):Int:=if fR<cs.length then O9 cs fR else -1
def Of (cs:List kQ) (fR:Nat) (ws:List Nat) (ends:List Int):Int:=ends.foldl (SV (decide (0<ws.length))) (SO cs fR)
theorem RS.ahJ {fR:Nat} {ws:List Nat} {ends:List Int} (h:RS cP uC cs st t fR ws ends):ends.length=bz cs st t:=by
 rw[←h.cnt t (Int.le_refl _),List.countP_eq_length.2]
 intro e he
 exact decide_eq_true (h.ef e he)
theorem RS.time {fR:Nat} {ws:List Nat} {ends:List Int} (h:RS cP uC cs st t fR ws ends) (hc:nQ cs) (hs:1≤uC) (hg:fR<cs.length∨0<ws.length) :
  (t<Of cs fR ws ends∧Of cs fR ws ends+1000*(Hr st:Int)≤11000+1000*(cs.length:Int))∧(∀i,fR≤i→i<cs.length→Of cs fR ws ends≤O9 cs i) ∧
   (fR<cs.length∧O9 cs fR=Of cs fR ws ends∨0<ws.length∧Of cs fR ws ends∈ends)∧runT cP uC cs (Of cs fR ws ends) (100000-Of cs fR ws ends).toNat st=stL cP uC cs:=by
 have htm:=h.tm
 have SY:=YI (st:=st)
 have hlen:=h.len
 have he0:∀e∈ends,0≤e:=fun e he=>by have:=h.ef e he;omega
 have aA0:=hc.2
 by_cases hw:0<ws.length
 ·have hbz:uC≤(bz cs st t:Int):=by
   rcases h.fl with hf | hf
   ·exact hf
   ·rw[zF,←h.wsq] at hf
    rw[hf] at hw
    simp at hw
  have fT:ends≠[]:=by
   intro he
   have:=h.ahJ
   rw[he] at this
   simp at this
   omega
  obtain⟨g1,g2,g3,g4⟩:=aoW (es:=ends) (b:=SO cs fR) he0
  have ZY:Of cs fR ws ends=ends.foldl (SV true) (SO cs fR):=by unfold Of;rw[decide_eq_true hw]
  rw[ZY]
  generalize ends.foldl (SV true) (SO cs fR)=w at *
  have g4:=g4 fT
  have N3:(fR<cs.length∧O9 cs fR=w)∨w∈ends:=by
   rcases g1 with g1 | g1
   ·unfold SO at g1
    split at g1
    ·rename_i oR
     exact .inl ⟨oR,g1.symm⟩
    ·omega
   ·exact .inr g1
  have htw:t<w∧w+1000*(Hr st:Int)≤11000+1000*(cs.length:Int):=by
   rcases N3 with⟨h1,h2⟩ | h1
   ·have:=h.fut fR (Nat.le_refl _) h1
    have:=hc.bnd h1
    omega
   ·exact⟨h.ef _ h1,h.eb _ h1⟩
  refine⟨htw,fun i h1 h2 => ?_,N3.imp id fun h1=>⟨hw,h1⟩,?_⟩
  ·have h3:=hc.sorted h1 h2
   have h4:=hc.bnd (i:=fR) (by omega)
   have h5:SO cs fR=O9 cs fR:=by unfold SO;rw[if_pos (by omega)]
   have:=g3 (by rw[h5];omega)
   omega
  ·rw[←h.run]
   refine(YQ (by omega) (by omega) (by omega) fun u h1 h2 => .inl ?_).symm
   rw[←h.cnt u (by omega),(List.countP_eq_length (p:=gtB u)).2 fun e he=>decide_eq_true (by have:=g2 e he;omega),h.ahJ]
   exact hbz
 ·have oR:fR<cs.length:=by omega
  have h5:SO cs fR=O9 cs fR:=by unfold SO;rw[if_pos oR]
  have h4:=hc.bnd oR
  have hf:=(h.fut fR (Nat.le_refl _) oR).1
  have ZY:Of cs fR ws ends=O9 cs fR:=by unfold Of;rw[decide_eq_false hw,atS (by rw[h5];omega),h5]
  rw[ZY]
  refine⟨⟨hf,by omega⟩,fun i h1 h2=>hc.sorted h1 h2,.inl ⟨oR,rfl⟩,?_⟩
  rw[←h.run]
  refine(YQ (by omega) (by omega) (by omega) fun u h1 h2 => .inr ?_).symm
  rw[zF,Ih h.Qb (fun i hi=>by have:=h.past i hi;omega) fun i h3 h4=>by have:=hc.sorted h3 h4;omega]
  have e1:=Ih (st:=st) h.Qb h.past fun i h3 h4=>(h.fut i h3 h4).1
  rw[←e1,←h.wsq]
  exact List.eq_nil_of_length_eq_zero (by omega)
theorem RS.done {fR:Nat} {ws:List Nat} {ends:List Int} (h:RS cP uC cs st t fR ws ends) (awL:¬fR<cs.length) (hw:¬0<ws.length):st=stL cP uC cs:=by
 rw[←h.run]
 refine(Zl _ _ fun u hu => .inr ?_).symm
 have oR:=h.Qb
 have e1:=Ih (st:=st) h.Qb h.past fun i h3 h4=>(h.fut i h3 h4).1
 rw[zF,Ih h.Qb (fun i hi=>by have:=h.past i hi;omega) fun i h3 h4=>by omega,←e1,←h.wsq]
 exact List.eq_nil_of_length_eq_zero (by omega)
structure Ph4 (cP uC:Int) (cs:List kQ) (st0:List Int) (now:Int) (fR tot:Nat) (st:List Int) (ws:List Nat) (ends:List Int):Prop where
 Z5:Way cs st now
 wsq:ws=wt cs st now
 cnt:∀u,now≤u→ends.countP (gtB u)=bz cs st u
 ef:∀e∈ends,now<e
 eb:∀e∈ends,e+1000*(Hr st:Int)≤11000+1000*(cs.length:Int)
 fl:fill cP uC cs now cs.length st=fill cP uC cs now cs.length st0
 past:∀i,i<fR→O9 cs i≤now
 fut:∀i,fR≤i→i<cs.length→now<O9 cs i∧Kl st i<0
 tot:ws.length+ends.length=tot
 es:(ends.length:Int)≤uC
theorem Dq:∀ {l:List Nat} {i k:Nat},l.Nodup→l[i]? = some k→l.eraseIdx i=l.filter (· != k)
 | [],_,_,_,h=>by cases h
 |
  x::l,0,k,hn,h=>by
  injection h with h
  subst h
  rw[List.nodup_cons] at hn
  rw[List.eraseIdx_cons_zero,List.filter_cons_of_neg (by simp),List.filter_eq_self.2]
  intro y hy
  have:y≠x:=fun he=>hn.1 (he▸hy)
  simpa using this
 |
  x::l,i+1,k,hn,h=>by
  rw[List.nodup_cons] at hn
  rw[List.getElem?_cons_succ] at h
  have hx:x≠k:=fun he=>hn.1 (he▸List.mem_of_getElem? h)
  rw[List.eraseIdx_cons_succ,List.filter_cons_of_pos (by simpa using hx),Dq hn.2 h]
theorem Ph4.step {now:Int} {st0:List Int} {fR tot:Nat} {ws:List Nat} {ends:List Int} (h:Ph4 cP uC cs st0 now fR tot st ws ends) (hc:nQ cs) (hr:0≤cP∧cP≤3) (hb:(ends.length:Int)<uC) (fT:0<ws.length) :
  ∃k,ws[Ol cP cs ws]? = some k∧k<cs.length∧Ol cP cs ws<ws.length∧(0≤now∧now≤35000)∧Ph4 cP uC cs st0 now fR tot (st.set k now) (ws.eraseIdx (Ol cP cs ws)) (ends++[now+wkC cs k]):=by
 have abT:ws≠[]:=fun he=>by rw[he] at fT;simp at fT
 obtain⟨g1,g2⟩:=aeO (cs:=cs) abT hr
 obtain⟨k,hk⟩:∃k,ws[Ol cP cs ws]? = some k:=⟨_,List.getElem?_eq_getElem g1⟩
 have hnx:nxt cP cs st now=some k:=by
  unfold nxt
  rw[←h.wsq,←g2,hk]
 obtain⟨m1,m2,m3⟩:=NK.1 (RQ hnx)
 have htm:=h.Z5.tm
 have hle:=(h.Z5.le hc).1
 have hbz:(bz cs st now:Int)=ends.length:=by
  rw[←h.cnt now (Int.le_refl _),(List.countP_eq_length (p:=gtB now)).2 fun e he=>decide_eq_true (h.ef e he)]
 have Rp:k<st.length:=by rw[h.Z5.len];exact m1
 have hus:=Ci (t:=now) Rp m2 htm.1
 have hwk:=(hc.bnd m1).2
 refine⟨k,hk,m1,g1,⟨htm.1,hle⟩,h.Z5.set m1 m2,?_,?_,?_,?_,?_,h.past,?_,?_,?_⟩
 ·rw[arM h.Z5.len m1 htm.1,←h.wsq]
  exact Dq (by rw[h.wsq];exact afJ) hk
 ·intro u hu
  rw[List.countP_append,h.cnt u hu,aqX m1 h.Z5.len m2 htm.1,List.countP_singleton]
  congr 1
  simp only[gtB,decide_eq_true_eq]
  by_cases hq:u<now+wkC cs k
  ·rw[if_pos hq,if_pos ⟨hu,hq⟩]
  ·rw[if_neg hq,if_neg fun h'=>hq h'.2]
 ·intro e he
  rcases List.mem_append.1 he with he | he
  ·exact h.ef e he
  ·rw[List.mem_singleton] at he
   omega
 ·intro e he
  rcases List.mem_append.1 he with he | he
  ·have:=h.eb e he
   omega
  ·rw[List.mem_singleton] at he
   omega
 ·rw[abY h.Z5.len htm.1 (by rw[hbz];exact hb) hnx,h.fl]
 ·intro i h1 h2
  have h3:=h.fut i h1 h2
  refine⟨h3.1,?_⟩
  rw[HI Rp,if_neg (fun he=>by subst he;omega)]
  exact h3.2
 ·rw[List.length_eraseIdx_of_lt g1,List.length_append,List.length_cons,List.length_nil]
  have:=h.tot
  omega
 ·rw[List.length_append,List.length_cons,List.length_nil]
  omega
theorem Ph4.done {now:Int} {st0:List Int} {fR tot:Nat} {ws:List Nat} {ends:List Int} (h:Ph4 cP uC cs st0 now fR tot st ws ends) (hc:nQ cs) (oR:fR≤cs.length) (ht:tot≤fR) (hf:uC≤(ends.length:Int)∨ws=[])
  (hr:runT cP uC cs now (100000-now).toNat st0=stL cP uC cs):RS cP uC cs st now fR ws ends:=by
 have htm:=h.Z5.tm
 have hle:=(h.Z5.le hc).1
 have hbz:(bz cs st now:Int)=ends.length:=by
  rw[←h.cnt now (Int.le_refl _),(List.countP_eq_length (p:=gtB now)).2 fun e he=>decide_eq_true (h.ef e he)]
 have aoE:full cP uC cs st now:=by
  rcases hf with hf | hf
  ·exact .inl (by rw[hbz];exact hf)
  ·exact .inr (zF.2 (by rw[←h.wsq];exact hf))
 refine⟨h.Z5.len,h.Z5.low,h.Z5.high,h.Z5.bd,by omega,oR,h.past,h.fut,h.wsq,h.cnt,h.ef,h.eb,aoE,by rw[h.tot];exact ht,h.es,?_⟩
 have h1:=yT aoE cs.length
 rw[h.fl] at h1
 rw[ahL htm.1 (by omega),h1] at hr
 exact hr
end
end Go.PM
namespace Go.PM
theorem FR (n:Nat) (h:n<4294967296):TC 207 [VK .u64 1,VK .u64 (n:Int)] (.dQ [VK .u64 0,VK .u64 (n:Int)]):=by
 refine TC.walk ⟨true,false⟩ IS rfl (Nat.le_of_ble_eq_true rfl) rfl rfl ?_
 have a1:dN .and (.int .u64 1) (.int .u64 4294967295)=some (.int .u64 1):=R1 1 (by decide)
 have a2:dN .and (.int .u64 (n:Int)) (.int .u64 4294967295)=some (.int .u64 (n:Int)):=by rw[R1 n (by omega),Nat.mod_eq_of_lt h]
 have a0:dN .and (.int .u64 0) (.int .u64 4294967295)=some (.int .u64 0):=R1 0 (by decide)
 have s1:dN .shr (.int .u64 1) (.int .u64 32)=some (.int .u64 0):=pB 1 .u64
 have s0:dN .shr (.int .u64 0) (.int .u64 32)=some (.int .u64 0):=pB 0 .u64
 have s2:dN .shr (.int .u64 (n:Int)) (.int .u64 32)=some (.int .u64 0):=by rw[pB n .u64,Nat.div_eq_of_lt h];rfl
 have w0:IntKind.u64.wrap 0=0:=eU 0 (by decide)
 have wn:IntKind.u64.wrap (n:Int)=n:=eU n (by omega)
 simp only[DI,Bb,a0,a1,a2,s0,s1,s2,w0,wn,Int.one_mul,Int.zero_mul,Int.mul_zero,Int.add_zero,VX,Nat.reduceEqDiff,Nat.reduceAdd]
 exact aE rfl
theorem HL (n:Nat) (h:n<4294967296):TC 187 [VK .u64 1,VK .u64 (n:Int)] (.dQ [VK .u64 0,VK .u64 (n:Int)]):=by
 refine TC.walk ⟨true,false⟩ LW rfl (Nat.le_of_ble_eq_true rfl) rfl rfl ?_
 simp only[Ga,Dy,FR n h,VX,Nat.reduceEqDiff,Nat.reduceAdd]
 exact aE rfl
end Go.PM
namespace Go.PM
section
variable {α:Type} {f:α→VV} {H:aA} {b g e lo:Nat} {X Y:List α}
theorem Ub {o:Nat}:dC (X.map f) o (Y.map f)=(X.take o++Y++X.drop (o+Y.length)).map f:=by
 simp[dC]
theorem P4 {o d cc:Nat} {y:VV} (h:aJ H b g=some (X.map f,e,true)) (hy:cT e y H=some (Y.map f)) (dV:lo≤b) (ho:o+(Y.take d).length≤X.length) :
  Lt lo e (.ref b g o d cc) y H=some (VI (Y.take d).length,H.set b (.row g ((X.take o++Y.take d++X.drop (o+(Y.take d).length)).map f) e true)):=by
 simp only[Lt,hy,h]
 rw[←List.map_take,Ub,if_pos ⟨trivial,dV,by simpa using ho⟩,List.length_map]
end
end Go.PM
namespace Go.PM
end Go.PM
namespace Go.PM
open Go.Lib
def K1 {α:Type} (f:α→VV) (e:Nat) (bK:List α) (lo hi:Nat) (H:aA) (v:VV):Prop :=
 ∃b g c,lo≤b∧b<hi∧v = .ref b g 0 bK.length c∧bK.length≤c∧aJ H b g=some (bK.map f,e,true)
def TabIs {α:Type} (f:α→VV) (e:Nat) (m:List (List α)) (lo hi:Nat) (H:aA) (v:VV):Prop :=
 ∃b g c rs,v = .ref b g 0 m.length c∧m.length≤c∧MG f e lo hi b g H rs∧rs.map (·.xs)=m
theorem Ok {α:Type} {f:α→VV} {lo b k e bytes:Nat} {H:aA} {xs:List α} {x:α} (h:aJ H b k=some (xs.map f,e,true)) (hk:k=xs.length) (dV:lo≤b) (he:1≤e) (hb:1≤bytes) (Co:(k+1)*bytes≤140737488355328) :
 eE lo e bytes (.ref b k 0 k k) [f x] H=some (.ref b (k+1) 0 (k+1) (k+1),H.set b (.row (k+1) ((xs++[x]).map f) e true)):=gG h hk dV he hb Co
theorem K1.rd {α:Type} {f:α→VV} {e lo hi:Nat} {bK:List α} {H:aA} {v:VV} (h:K1 f e bK lo hi H v):Rd f e bK H v:=by
 obtain⟨b,g,c,h1,h2,rfl,h3,h4⟩:=h
 exact Rd.row h4 rfl
theorem F0 {lo:Nat} {H:aA} (q:Rat) (N:Nat) (hN:N≤1000000) (dV:lo≤H.length) :
  iI 162 [.tree [aP q] (.cl 3),VI N] lo H fun r H'=>r = .ref H.length 0 0 N N∧H'=H++[.row 0 ((List.replicate N q).map aP) 3 true]:=by
 refine iI.walk ⟨true,false⟩ qW (Nat.le_of_ble_eq_true rfl) ?_
 have eM:=HL N (by omega)
 have c1:IntKind.u64.wrap ((1:Nat):Int)=1:=eU 1 (by decide)
 have c2:IntKind.u64.wrap (N:Int)=(N:Int):=eU N (by omega)
 have c3:IntKind.i64.wrap (N:Int)=(N:Int):=wrap64 (by omega) (by omega)
 have g1:¬(N:Int)<0:=by omega
 have g2:¬(0:Int)<0:=by decide
 have g3:¬(9223372036854775807:Int)<(N:Int):=by omega
 have em:=fun H=>tE (H:=H) (f:=id) (x:=rz) (z:=[.bool false,.slice none 0 0,.slice none 0 0]) (bytes:=56) (n:=N) rfl (by omega) (by omega)
 have s1:cT 3 (.tree [aP q] (.cl 3)) (H++[.row 0 ((List.replicate N rz).map id) 3 true])=some ([aP q].map id):=dL (v:=aP q) rfl rfl
 have r1:aJ (H++[.row 0 ((List.replicate N rz).map id) 3 true]) H.length 0=some ((List.replicate N rz).map id,3,true):=by rw[yJ,bB]
 have s2:=P4 (f:=id) (Y:=[aP q]) (lo:=lo) (o:=0) (d:=N) (cc:=N) (y := .tree [aP q] (.cl 3)) r1 s1 dV (by simp;omega)
 rw[W2] at s2
 simp only[kV,jX,eM,c1,c2,c3,g1,g2,g3,em,s2,eO,VX,Nat.reduceEqDiff,Nat.reduceAdd,Nat.reduceLeDiff,Nat.reduceLT,Nat.reduceSub]
 refine aV (fun(i:Nat) ρ H1=>i≤N∧(i=0→N=0)∧H1=H++[.row 0 ((List.replicate i (aP q)++List.replicate (N-i) rz).map id) 3 true]∧ρ 7 = .ref H.length 0 0 N N∧ρ 8=VI i) (fun i=>N-i) (min 1 N) ?_ ?_
 refine⟨by omega,by omega,?_,rfl,?_⟩
 ·congr 2
  cases N with
  | zero=>rfl
  |
   succ N =>
   have:min 1 (N+1)=1:=by omega
   rw[this]
   simp[List.replicate_succ]
 ·cases N with
  | zero=>rfl
  |
   succ N =>
   have:min 1 (N+1)=1:=by omega
   simp only[this,eO,VX,Nat.reduceEqDiff,Nat.reduceAdd,Nat.reduceLeDiff,Nat.reduceLT,Nat.reduceSub]
   try simp
 rintro i ρ H1 ⟨hi,h0,rfl,h7,h8⟩
 have hr:aJ (H++[.row 0 ((List.replicate i (aP q)++List.replicate (N-i) rz).map id) 3 true]) H.length 0=some ((List.replicate i (aP q)++List.replicate (N-i) rz).map id,3,true):=by rw[yJ,bB]
 have el:=eR (o:=0) (n:=N) (c:=N) hr
 by_cases cS:(i:Int)<(N:Int)
 ·have hXl:(List.replicate i (aP q)++List.replicate (N-i) rz).length=N:=by simp;omega
  have wZ:∀X:List VV,X=List.replicate i (aP q)++List.replicate (N-i) rz→(((X.map id).drop 0).take i).all (fun x=>(aB x).all bS)=true:=by
   rintro X rfl
   rw[List.map_id,List.drop_zero,List.take_append_of_le_length (by simp),List.take_of_length_le (by simp),List.all_eq_true]
   intro x hx
   rw[List.eq_of_mem_replicate hx]
   rfl
  have q1:=PD (o:=0) (n:=N) (c:=N) (l:=i) (k1 := .i64) hr hi (Nat.le_refl _)
  have q2:=wO (o:=0) (n:=N) (c:=N) (h:=i) (k2 := .i64) hr hi
  have hY:((List.replicate i (aP q)++List.replicate (N-i) rz).drop 0).take i=List.replicate i (aP q):=by
   rw[List.drop_zero,List.take_append_of_le_length (by simp),List.take_of_length_le (by simp)]
  have q3:cT 3 (.ref H.length 0 0 i N) (H++[.row 0 ((List.replicate i (aP q)++List.replicate (N-i) rz).map id) 3 true])=some ((List.replicate i (aP q)).map id):=by
   have hs:=wZ _ rfl
   simp only[cT,hr]
   rw[if_pos ⟨trivial,by rw[List.length_map,hXl];omega,hs⟩,List.map_id,List.map_id,hY]
  have hYd:(List.replicate i (aP q)).take (N-i)=List.replicate (min (N-i) i) (aP q):=List.take_replicate
  have q4:=P4 (f:=id) (lo:=lo) (o:=i) (d:=N-i) (cc:=N-i) hr q3 dV (by rw[hYd,hXl];simp;omega)
  rw[W2,hYd,List.length_replicate,List.take_append_of_le_length (by simp),List.take_of_length_le (by simp)] at q4
  have hX':List.replicate i (aP q)++List.replicate (min (N-i) i) (aP q)++(List.replicate i (aP q)++List.replicate (N-i) rz).drop (i+min (N-i) i)=List.replicate (i+min (N-i) i) (aP q)++List.replicate (N-(i+min (N-i) i)) rz:=by
   rw[List.replicate_append_replicate,List.drop_append,List.drop_of_length_le (by simp),List.nil_append,List.length_replicate,List.drop_replicate]
   congr 2
   omega
  rw[hX'] at q4
  have wi:IntKind.i64.wrap ((i:Int)+((min (N-i) i:Nat):Int))=((i+min (N-i) i:Nat):Int):=wrapN _ (by omega) (by omega)
  simp only[fF,h7,h8,el,cS,q1,q2,q3,q4,wi,eO,VX,Nat.reduceEqDiff,Nat.reduceAdd,Nat.reduceLeDiff,Nat.reduceLT,Nat.reduceSub]
  exact⟨i+min (N-i) i,by omega,by omega,by omega,by (repeat' apply And.intro)<;>first | rfl | trivial | assumption⟩
 ·have mI:i=N:=by omega
  subst mI
  simp only[fF,h7,h8,el,cS,eO,VX,Nat.reduceEqDiff,Nat.reduceAdd,Nat.reduceLeDiff,Nat.reduceLT,Nat.reduceSub]
  rw[Nat.sub_self,List.replicate_zero,List.append_nil,List.map_id,List.map_replicate]
theorem Wj (a n:Nat):((List.range n).map fun k=>a+k).Nodup:=List.pairwise_map.2 (List.nodup_range.imp fun h=>by omega)
theorem Sh {lo:Nat} {H:aA} (N:Nat) (hN:N≤1000) (dV:lo≤H.length) :
  iI 99 [VI N] lo H (IZ (TabIs aP 3 (List.replicate N (List.replicate N (0:Rat)))) H):=by
 refine iI.walk ⟨true,false⟩ Sx (Nat.le_of_ble_eq_true rfl) ?_
 have em:=fun H=>tE (H:=H) (f:=id) (x := .tree [] .nil) (z:=[.slice none 0 0]) (bytes:=24) (n:=N) rfl (by omega) (by omega)
 have el0:=eR (H:=H++[.row 0 ((List.replicate N (VV.tree [] .nil)).map id) 1 true]) (b:=H.length) (g:=0) (o:=0) (n:=N) (c:=N) gI
 simp only[OQ,IC,em,el0,List.length_cons,List.length_nil,Nat.zero_add,eO,VX,Nat.reduceEqDiff,Nat.reduceAdd,Nat.reduceLeDiff,Nat.reduceLT,Nat.reduceSub]
 refine aV (fun(i:Nat) ρ H1=>i≤N∧H1=H ++ .row 0 (((List.range i).map fun k=>VV.ref (H.length+1+k) 0 0 N N)++List.replicate (N-i) (VV.tree [] TK.nil)) 1 true::List.replicate i (.row 0 ((List.replicate N (0:Rat)).map aP) 3 true)∧ρ 0=VI N∧ρ 3 = .ref H.length 0 0 N N∧ρ 8=VI N∧ρ 9=VI i) (fun i=>N-i) 0 ⟨Nat.zero_le _,by simp,rfl,rfl,rfl,rfl⟩ ?_
 rintro i ρ H1 ⟨hi,rfl,g0,g3,g8,g9⟩
 have e1:TC 64 [VI 0] (aP 0):=qP 0 (by decide) (by decide)
 have eL:∀H,kD false [.bool false,.slice none 0 0,.slice none 0 0] 1 [(0,aP 0)] H=some (.tree [aP 0] (.cl 3),H):=fun H=>fU rfl rfl rfl
 by_cases cS:(i:Int)<(N:Int)
 ·have wi:IntKind.i64.wrap ((i:Int)+1)=((i+1:Nat):Int):=wrapN (i+1) (by omega) (by omega)
  simp only[Bf,g0,g3,g8,g9,cS,e1,eL,eO,VX,Nat.reduceEqDiff,Nat.reduceAdd,Nat.reduceLeDiff,Nat.reduceLT,Nat.reduceSub]
  refine fS rfl ((F0 0 N (by omega) (by rw[List.length_append];omega)).mono ?_)
  rintro r H' ⟨rfl,rfl⟩
  have hl:(H++cB.row 0 (((List.range i).map fun k=>VV.ref (H.length+1+k) 0 0 N N)++List.replicate (N-i) (VV.tree [] TK.nil)) 1 true::List.replicate i (.row 0 ((List.replicate N (0:Rat)).map aP) 3 true)).length=H.length+1+i:=by simp;omega
  rw[hl,List.append_assoc,List.cons_append]
  have hr:aJ (H++cB.row 0 (((List.range i).map fun k=>VV.ref (H.length+1+k) 0 0 N N)++List.replicate (N-i) (VV.tree [] TK.nil)) 1 true::(List.replicate i (.row 0 ((List.replicate N (0:Rat)).map aP) 3 true)++[.row 0 ((List.replicate N (0:Rat)).map aP) 3 true])) H.length 0=some ((((List.range i).map fun k=>VV.ref (H.length+1+k) 0 0 N N)++List.replicate (N-i) (VV.tree [] TK.nil)),1,true):=by rw[yJ,bB]
  have a1:=bC (o:=0) (n:=N) (c:=N) (i:=i) (k := .i64) hr (by omega)
  have a2:=bZ (lo:=lo) (v := .ref (H.length+1+i) 0 0 N N) (j:=i) hr (by simp;omega) dV rfl rfl
  rw[W2,List.set_cons_zero] at a2
  have hs:(((List.range i).map fun k=>VV.ref (H.length+1+k) 0 0 N N)++List.replicate (N-i) (VV.tree [] TK.nil)).set i (.ref (H.length+1+i) 0 0 N N)=((List.range (i+1)).map fun k=>VV.ref (H.length+1+k) 0 0 N N)++List.replicate (N-(i+1)) (VV.tree [] TK.nil):=by
   obtain⟨m,hm⟩:∃m,N-i=m+1:=⟨N-i-1,by omega⟩
   have hm':N-(i+1)=m:=by omega
   rw[List.set_append_right _ _ (by simp),hm,hm',List.length_map,List.length_range,Nat.sub_self,List.replicate_succ,List.set_cons_zero,List.range_succ,List.map_append,List.append_assoc]
   rfl
  rw[hs] at a2
  rw[Nat.zero_add] at a1
  simp only[a1,a2,wi,g9,eO,VX,Nat.reduceEqDiff,Nat.reduceAdd,Nat.reduceLeDiff,Nat.reduceLT,Nat.reduceSub]
  exact⟨i+1,by omega,by omega,by rw[List.replicate_succ'],by (repeat' apply And.intro)<;>first | rfl | trivial | assumption⟩
 ·have mI:i=N:=by omega
  subst mI
  simp only[Bf,g3,g8,g9,cS,eO,VX,Nat.reduceEqDiff,Nat.reduceAdd,Nat.reduceLeDiff,Nat.reduceLT,Nat.reduceSub]
  refine⟨List.prefix_append _ _,H.length,0,i,(List.range i).map fun k=>⟨H.length+1+k,0,i,List.replicate i 0⟩,by rw[List.length_replicate],by rw[List.length_replicate];exact Nat.le_refl _,⟨?_,Nat.le_refl _,by simp,?_,?_⟩,?_⟩
  ·rw[yJ,bB,Nat.sub_self,List.replicate_zero,List.append_nil,List.map_map]
   simp[oE,Function.comp_def]
  ·rw[List.map_map]
   exact Wj (H.length+1) i
  ·intro r hr
   obtain⟨k,hk,rfl⟩:=List.mem_map.1 hr
   rw[List.mem_range] at hk
   refine⟨by simp only;omega,by simp;omega,by simp only;omega,by simp,?_⟩
   have:H.length+1+k=H.length+(k+1):=by omega
   simp only[this]
   rw[Rq,nB,cK,List.getElem?_replicate,if_pos hk]
  ·rw[List.map_map]
   apply List.ext_getElem?
   intro k
   rw[List.getElem?_map,List.getElem?_replicate]
   by_cases hk:k<i
   ·simp[hk,List.getElem?_range]
   ·simp[hk]
theorem Pt {lo:Nat} {H:aA} {v:VV} (qs:List Rat) (d:Rat) (hd:d≠0) (hv:Rd aP 3 qs H v) (dV:lo≤H.length) (hn:qs.length≤1000000) (hb:∀q∈qs,aZ q≤1099511627776) (hdk:aZ d≤1099511627776) :
  iI 149 [v,aP d] lo H (IZ (K1 aP 3 (qs.map (· / d))) H):=by
 refine iI.walk ⟨true,false⟩ Pk (Nat.le_of_ble_eq_true rfl) ?_
 have e0:∀K,kD false [.bool false,.slice none 0 0,.slice none 0 0] 0 [] K=some (.ref K.length 0 0 0 0,K++[.row 0 [] 3 true]):=fun K=>gY rfl
 have e1:=hv.len _ (List.prefix_append H [.row 0 [] 3 true])
 simp only[Lu,Gh,e0,e1,aH,cM,cZ,aS,aT,aN,eO,VX,Nat.reduceEqDiff,Nat.reduceAdd,Nat.reduceLeDiff,Nat.reduceLT,Nat.reduceSub]
 refine aV (fun(i:Nat) ρ H1=>i≤qs.length∧H <+: H1∧aJ H1 H.length i=some (((qs.take i).map (· / d)).map aP,3,true)∧ρ 3 = .dA (aP d) 0∧ρ 5 = .ref H.length i 0 i i∧ρ 9=v∧ρ 10=VI qs.length∧ρ 11=VI i) (fun i=>qs.length-i) 0 ⟨Nat.zero_le _,List.prefix_append _ _,by rw[yJ,bB];rfl,rfl,rfl,rfl,rfl,rfl⟩ ?_
 rintro i ρ H1 ⟨hi,hp,lF,g3,g5,g9,g10,g11⟩
 have CC:=hJ lF
 by_cases cS:(i:Int)<(qs.length:Int)
 ·obtain⟨q,hq⟩:∃q,qs[i]? = some q:=⟨_,List.getElem?_eq_getElem (by omega)⟩
  obtain⟨p,a1,a2⟩:=hv.get H1 hp i q hq
  have a2':=(a2 true).trans (cZ _)
  have wi:IntKind.i64.wrap ((i:Int)+1)=((i+1:Nat):Int):=wrapN (i+1) (by omega) (by omega)
  have e3:=Mm q d hd (hb q (List.mem_of_getElem? hq)) hdk
  have eL:∀H,kD false [.bool false,.slice none 0 0,.slice none 0 0] 1 [(0,aP (q / d))] H=some (.tree [aP (q / d)] (.cl 3),H):=fun H=>fU rfl rfl rfl
  have eS:∀H,cT 3 (.tree [aP (q / d)] (.cl 3)) H=some [aP (q / d)]:=fun H=>dL rfl rfl
  have eP:eE lo 3 56 (.ref H.length i 0 i i) [aP (q / d)] (H1++[cB.row 0 [aP q] 3 true])=some (.ref H.length (i+1) 0 (i+1) (i+1),(H1++[cB.row 0 [aP q] 3 true]).set H.length (.row (i+1) (((qs.take (i+1)).map (· / d)).map aP) 3 true)):=by
   rw[gG (f:=aP) (xs:=(qs.take i).map (· / d)) (cI lF) (by simp;omega) dV (by decide) (by decide) (by omega),gH hq]
   simp only[List.map_append]
   rfl
  have s1:=zP (lo:=lo) (H:=H1) (q:=q) (by omega)
  have s2:=Ik (H:=H1) (K:=[]) (q:=q)
  simp only[zL,g3,g5,g9,g10,g11,cS,a1,a2',e3,eL,eS,eP,s1,s2,wi,cZ,eO,VX,Nat.reduceEqDiff,Nat.reduceAdd,Nat.reduceLeDiff,Nat.reduceLT,Nat.reduceSub]
  exact⟨i+1,by omega,by omega,lY (kZ hp) (Nat.le_refl _),cE (cI lF),by (repeat' apply And.intro)<;>first | rfl | trivial | assumption⟩
 ·have mI:i=qs.length:=by omega
  subst mI
  rw[List.take_length] at lF
  simp only[zL,g5,g10,g11,cS,eO,VX,Nat.reduceEqDiff,Nat.reduceAdd,Nat.reduceLeDiff,Nat.reduceLT,Nat.reduceSub]
  exact⟨hp,H.length,qs.length,qs.length,Nat.le_refl _,CC,by rw[List.length_map],by rw[List.length_map];exact Nat.le_refl _,lF⟩
end Go.PM
namespace Go.PM
structure awC (s:MF):Prop where
 b4:s.b.length≤400000000
 e4:s.e.length≤400000000
 g4:s.g.length≤400000000∧∀x∈s.g,x.length≤400000000
 bs:∀x∈s.b,x.size≤1000000000
 es:∀x∈s.e,x.size≤1000000000
 gs:∀x∈s.g,∀y∈x,y.size≤1000000000
theorem awC.g9 {s:MF} (h:awC s):s.g.length≤1000000000∧∀x∈s.g,x.length≤1000000000:=⟨by have:=h.g4.1;omega,fun x hx=>by have:=h.g4.2 x hx;omega⟩
end Go.PM
namespace Go.PM
def sM {β:Type} (k:Int):List (List β)→List (List ByteArray)
 | []=>[]
 | x::xs=>mD k x.length::sM (k+x.length) xs
def dD {β:Type} (xs:List (List β)):Nat:=(xs.map List.length).sum
section
variable {β:Type}
theorem NG (xs:List (List β)) (k:Int):(sM k xs).length=xs.length:=by
 induction xs generalizing k with
 | nil=>rfl
 | cons x xs ih=>simp[sM,ih]
theorem Lo {xs:List (List β)} {i:Nat} {x:List β} (h:xs[i]? = some x):dD (xs.take (i+1))=dD (xs.take i)+x.length:=by
 rw[List.take_add_one,h]
 simp[dD]
theorem G1 {xs:List (List β)} {i:Nat} {x:List β} {k:Int} (h:xs[i]? = some x):(sM k xs)[i]? = some (mD (k+dD (xs.take i)) x.length):=by
 induction xs generalizing i k with
 | nil=>cases h
 |
  cons y ys ih =>
  cases i with
  | zero=>injection h with h;subst h;simp[sM,dD]
  |
   succ i =>
   simp only[sM,List.getElem?_cons_succ] at h ⊢
   rw[ih h]
   simp only[List.take_succ_cons,dD,List.map_cons,List.sum_cons,Int.natCast_add]
   rw[Int.add_assoc]
theorem Re {xs:List (List β)} (i:Nat):dD (xs.take i)≤dD xs:=by
 induction xs generalizing i with
 | nil=>simp[dD]
 |
  cons x xs ih =>
  cases i with
  | zero=>simp[dD]
  |
   succ i =>
   have:=ih i
   simp only[List.take_succ_cons,dD,List.map_cons,List.sum_cons] at this ⊢
   omega
end
theorem FO (k:Int) (xs:List (List ByteArray)) (hk:0≤k∧k≤10000000) (hn:xs.length≤10000000) (ht:dD xs≤10000000):TC 74 [uR (sM k xs),VI k] (VI (k+dD xs)):=by
 refine TC.walk ⟨true,false⟩ FP rfl (Nat.le_of_ble_eq_true rfl) (GX (CX _) rfl) rfl ?_
 simp only[AY,yA,VX,Nat.reduceEqDiff,Nat.reduceAdd]
 refine aV (fun(i:Nat) ρ H=>i≤xs.length∧H=[]∧ρ 0=uR (sM k xs)∧ρ 1=VI (k+dD (xs.take i))∧ρ 5=VI i) (fun i=>xs.length-i) 0 ⟨Nat.zero_le _,rfl,rfl,by simp only[VX,Nat.reduceEqDiff,Nat.reduceAdd];simp[dD],rfl⟩ ?_
 rintro i ρ H ⟨hi,rfl,h0,h1,h5⟩
 have hlen:=NG xs k
 by_cases cS:(i:Int)<(xs.length:Int)
 ·obtain⟨x,hx⟩:∃x,xs[i]? = some x:=⟨_,List.getElem?_eq_getElem (by omega)⟩
  have e1:=aK (f:=eG) (t := .op) (H:=[]) (size:=1) (k := .i64) (G1 (k:=k) hx) rfl
  have l1:=Lo hx
  have l2:=Re (xs:=xs) (i+1)
  have e3:=Hv (k+dD (xs.take i)) x.length (by omega) (by omega)
  have lM:¬(k+(dD (xs.take i):Int)+(x.length:Int))<0:=by omega
  have wi:IntKind.i64.wrap ((i:Int)+1)=((i+1:Nat):Int):=wrapN (i+1) (by omega) (by omega)
  simp only[pU,h0,h1,h5,cS,e1,e3,wi,hlen,lM,eq_self,VX,Nat.reduceEqDiff,Nat.reduceAdd]
  refine⟨i+1,by omega,by omega,?_⟩
  rw[l1,Int.natCast_add,←Int.add_assoc]
  (repeat' apply And.intro)<;>first | rfl | trivial
 ·have mI:i=xs.length:=by omega
  subst mI
  simp only[pU,h0,h1,h5,cS,hlen,VX,Nat.reduceEqDiff,Nat.reduceAdd]
  rw[List.take_of_length_le (Nat.le_refl _)]
  exact aE rfl
theorem FQ {lo b g c:Nat} {H:aA} (rs:List (xB ByteArray)) (k:Int) (hr:aJ H b g=some (rs.map oE,1,true)) (hR:Q3 sV 1 lo H.length b H rs) (dV:lo≤b) (hk:0≤k∧k≤10000000) (hn:rs.length≤10000000) (ht:dD (rs.map (·.xs))≤10000000) :
  iI 21 [.ref b g 0 rs.length c,VI k] lo H fun r H'=>r=VI (k+dD (rs.map (·.xs)))∧H'.length=H.length∧(∀b' g' x,(∀r∈rs,r.b≠b')→aJ H b' g'=some x→aJ H' b' g'=some x) ∧
   ∀i r,rs[i]? = some r→aJ H' r.b r.g=some ((mD (k+dD ((rs.map (·.xs)).take i)) r.xs.length).map sV,1,true):=by
 refine iI.walk ⟨true,false⟩ xZ (Nat.le_of_ble_eq_true rfl) ?_
 simp only[tX,qX,VX,Nat.reduceEqDiff,Nat.reduceAdd]
 refine aV (fun(i:Nat) ρ H1=>i≤rs.length∧H1.length=H.length∧(∀b' g' x,(∀r∈rs,r.b≠b')→aJ H b' g'=some x→aJ H1 b' g'=some x) ∧
   (∀j r,rs[j]? = some r→aJ H1 r.b r.g=some ((if j<i then mD (k+dD ((rs.map (·.xs)).take j)) r.xs.length else r.xs).map sV,1,true))∧ρ 0 = .ref b g 0 rs.length c∧ρ 1=VI (k+dD ((rs.map (·.xs)).take i))∧ρ 5=VI i) (fun i=>rs.length-i) 0
  ⟨Nat.zero_le _,rfl,fun _ _ _ _ h=>h,fun j r h=>by rw[if_neg (by omega)];exact(hR.row r (List.mem_of_getElem? h)).2.2.2.2,rfl,by simp only[VX,Nat.reduceEqDiff,Nat.reduceAdd];simp[dD],rfl⟩ ?_
 rintro i ρ H1 ⟨hi,hH1,hold,agL,h0,h1,h5⟩
 have hR1:=hold b g _ (fun r hr=>(hR.row r hr).2.2.1) hr
 have el:=eR (o:=0) (n:=rs.length) (c:=c) hR1
 by_cases cS:(i:Int)<(rs.length:Int)
 ·obtain⟨r,WN⟩:∃r,rs[i]? = some r:=⟨_,List.getElem?_eq_getElem (by omega)⟩
  have D1:=hR.row r (List.mem_of_getElem? WN)
  have hxi:(rs.map (·.xs))[i]? = some r.xs:=by simp[WN]
  have l1:=Lo hxi
  have l2:=Re (xs:=rs.map (·.xs)) (i+1)
  have e1:=bC (o:=0) (n:=rs.length) (c:=c) (i:=i) (k := .i64) hR1 (by omega)
  have e2:cC false 1 (.ptr b g i 0) H1=some (oE r):=by rw[qU (f:=oE) hR1 WN];rfl
  have wi:IntKind.i64.wrap ((i:Int)+1)=((i+1:Nat):Int):=wrapN (i+1) (by omega) (by omega)
  simp only[lS,h0,h1,h5,cS,el,e1,e2,Nat.zero_add,VX,Nat.reduceEqDiff,Nat.reduceAdd]
  have lF:=agL i r WN
  rw[if_neg (by omega)] at lF
  refine fS rfl ((As r.xs _ lF (Nat.le_refl _) D1.1 (by omega) (by omega)).mono ?_)
  rintro v H2 ⟨rfl,rfl⟩
  simp only[h5,wi,VX,Nat.reduceEqDiff,Nat.reduceAdd]
  refine⟨i+1,by omega,by omega,by simpa using hH1,fun b' g' x vD h=>bX (vD r (List.mem_of_getElem? WN)) (hold b' g' x vD h),fun j r' hj => ?_,h0,?_,rfl⟩
  ·by_cases FU:j=i
   ·subst FU
    rw[WN] at hj
    injection hj with hj
    subst hj
    rw[if_pos (by omega),cE lF,List.drop_length,List.append_nil]
   ·have fT:r.b≠r'.b:=fun he=>FU (by
     have h1:(rs.map (·.b))[i]? = some r.b:=by simp[WN]
     have h2:(rs.map (·.b))[j]? = some r.b:=by simp[hj,he]
     exact Tz hR.nd h2 h1)
    rw[bX fT (agL j r' hj)]
    by_cases bH:j<i
    ·rw[if_pos bH,if_pos (by omega)]
    ·rw[if_neg bH,if_neg (by omega)]
  ·rw[l1,Int.natCast_add,←Int.add_assoc]
 ·have mI:i=rs.length:=by omega
  subst mI
  simp only[lS,h0,h1,h5,cS,el,VX,Nat.reduceEqDiff,Nat.reduceAdd]
  rw[List.take_of_length_le (by simp)]
  refine⟨rfl,hH1,hold,fun j r hj => ?_⟩
  have:=agL j r hj
  rw[if_pos (List.getElem?_eq_some_iff.1 hj).1] at this
  exact this
theorem DT {lo:Nat} {H:aA} (k:Int):iI 21 [.tree [] .nil,VI k] lo H fun r H'=>r=VI k∧H'=H:=by
 refine iI.walk ⟨true,false⟩ xZ (Nat.le_of_ble_eq_true rfl) ?_
 simp only[tX,qX,VX,Nat.reduceEqDiff,Nat.reduceAdd]
 refine aV (fun(_:Unit) ρ H1=>H1=H∧ρ 0 = .tree [] .nil∧ρ 1=VI k∧ρ 5=VI 0) (fun _=>0) () ⟨rfl,rfl,rfl,rfl⟩ ?_
 rintro _ ρ H1 ⟨rfl,h0,h1,h5⟩
 simp only[lS,h0,h1,h5,List.length_nil,Int.natCast_zero,Int.lt_irrefl,Int.reduceLT,VX,Nat.reduceEqDiff,Nat.reduceAdd]
theorem anE {lo hi iJ:Nat} {bK:List (List ByteArray)} {H:aA} {v:VV} {k:Int} {K:VV→aA→Prop} (hv:RG sV 1 bK lo hi H v) (dV:iJ≤lo) (hk:0≤k∧k≤10000000) (hn:bK.length≤10000000) (ht:dD bK≤10000000)
  (hK:∀H',H'.length=H.length→RG sV 1 (sM k bK) lo hi H' v→(∀b g x,b<lo∨hi≤b→aJ H b g=some x→aJ H' b g=some x)→K (VI (k+dD bK)) H') :
  cO 21 [v,VI k] iJ H K:=by
 rcases hv with⟨rfl,rfl⟩ | ⟨b,g,c,rs,h1,h2,rfl,h4,h5,rfl,h7⟩
 ·refine fS rfl ((DT k).mono ?_)
  rintro r H' ⟨rfl,rfl⟩
  have:=hK H' rfl (.inl ⟨rfl,rfl⟩) fun _ _ _ _ h=>h
  simpa[dD] using this
 ·have h7':Q3 sV 1 iJ H.length b H rs:=⟨h7.nd,fun r hr=>⟨Nat.le_trans dV (h7.row r hr).1,hJ (h7.row r hr).2.2.2.2,(h7.row r hr).2.2⟩⟩
  rw[List.length_map] at h4 hn ⊢
  refine fS rfl ((FQ (lo:=iJ) (c:=c) rs k h5 h7' (Nat.le_trans dV h1) hk hn ht).mono ?_)
  rintro r H' ⟨rfl,hl,hold,tS⟩
  refine hK _ hl ?_ fun b' g' x vD h=>hold b' g' x (fun r hr=>by have:=h7.row r hr;omega) h
  have WN:∀i,i<rs.length→∃r,rs[i]? = some r:=fun i hi=>⟨_,List.getElem?_eq_getElem hi⟩
  have hml:(sM k (rs.map (·.xs))).length=rs.length:=by rw[NG,List.length_map]
  let X2:List (xB ByteArray):=rs.zipWith (fun r x=>{ r with xs:=x }) (sM k (rs.map (·.xs)))
  have tF:∀(i:Nat) (r:xB ByteArray),rs[i]? = some r→X2[i]? = some { r with xs:=mD (k+dD ((rs.map (·.xs)).take i)) r.xs.length }:=fun i r hr=>by
   have hm:=G1 (k:=k) (xs:=rs.map (·.xs)) (i:=i) (x:=r.xs) (by simp[hr])
   show (List.zipWith _ _ _)[i]? = _
   rw[List.getElem?_zipWith,hr,hm]
  have Cp:X2.length=rs.length:=by simp[X2,hml]
  have hex:∀ {γ:Type} (F G:xB ByteArray→γ),(∀(i:Nat) (r:xB ByteArray),rs[i]? = some r→F { r with xs:=mD (k+dD ((rs.map (·.xs)).take i)) r.xs.length }=G r)→X2.map F=rs.map G:=fun F G hFG=>by
   apply List.ext_getElem?
   intro i
   rcases Nat.lt_or_ge i rs.length with h | h
   ·obtain⟨r,hr⟩:=WN i h
    rw[List.getElem?_map,List.getElem?_map,tF i r hr,hr]
    simp only[Option.map_some,hFG i r hr]
   ·rw[List.getElem?_eq_none (by rw[List.length_map,Cp];exact h),List.getElem?_eq_none (by rw[List.length_map];exact h)]
  have aA4:X2.map (·.b)=rs.map (·.b):=hex _ _ fun _ _ _=>rfl
  have VP:X2.map oE=rs.map oE:=hex _ _ fun i r _=>by simp[oE,UG]
  have aCn:X2.map (·.xs)=sM k (rs.map (·.xs)):=by
   apply List.ext_getElem?
   intro i
   rcases Nat.lt_or_ge i rs.length with h | h
   ·obtain⟨r,hr⟩:=WN i h
    rw[List.getElem?_map,tF i r hr,G1 (x:=r.xs) (by simp[hr])]
    rfl
   ·rw[List.getElem?_eq_none (by rw[List.length_map,Cp];exact h),List.getElem?_eq_none (by rw[hml];exact h)]
  refine .inr ⟨b,g,c,X2,h1,h2,by rw[hml,List.length_map],by rw[hml];exact h4,?_,aCn,by rw[aA4];exact h7.nd,fun r' Gs => ?_⟩
  ·rw[VP]
   exact hold _ _ _ (fun r hr=>(h7.row r hr).2.2.1) h5
  ·obtain⟨i,hi⟩:=List.getElem?_of_mem Gs
   obtain⟨r,hr⟩:=WN i (by rw[←Cp];exact(List.getElem?_eq_some_iff.1 hi).1)
   rw[tF i r hr] at hi
   injection hi with hi
   subst hi
   have hm:=h7.row r (List.mem_of_getElem? hr)
   exact⟨hm.1,hm.2.1,hm.2.2.1,by rw[zM];exact hm.2.2.2.1,tS i r hr⟩
theorem Ov (xs ys:List (List ByteArray)) (hn:xs.length≤1000000000) (SG:∀x∈xs,x.length≤1000000000):TC 19 [chV xs,chV ys] (VB (decide (xs=ys))):=by
 refine TC.walk ⟨true,false⟩ On rfl (Nat.le_of_ble_eq_true rfl) (GX (B6 _) (B6 _)) rfl ?_
 have e1:=I9 xs ys hn SG
 by_cases h:xs=ys
 ·rw[decide_eq_true h] at e1 ⊢
  simp only[C5,zZ,e1,SD,VX,Nat.reduceEqDiff,Nat.reduceAdd]
  exact aE rfl
 ·rw[decide_eq_false h] at e1 ⊢
  simp only[C5,zZ,e1,SD,VX,Nat.reduceEqDiff,Nat.reduceAdd]
  exact aE rfl
theorem JN (k:Int) (xs:List (List ByteArray)) (hk:0≤k∧k≤10000000) (hn:xs.length≤10000000) (ht:dD xs≤10000000):TC 23 [chV (sM k xs),VI k] (VI (k+dD xs)):=by
 refine TC.walk ⟨true,false⟩ Kg rfl (Nat.le_of_ble_eq_true rfl) (GX (B6 _) rfl) rfl ?_
 have e1:=FO k xs hk hn ht
 have h:¬(k+(dD xs:Int))<0:=by omega
 simp only[E8,BH,e1,SD,h,VX,Nat.reduceEqDiff,Nat.reduceAdd]
 exact aE rfl
theorem alU {lo hi iJ:Nat} {bK:List (List ByteArray)} {H:aA} {v:VV} {k:Int} {K:VV→aA→Prop} (hv:CG bK lo hi H v) (dV:iJ≤lo) (hk:0≤k∧k≤10000000) (hn:bK.length≤10000000) (ht:dD bK≤10000000)
  (hK:∀H',H'.length=H.length→CG (sM k bK) lo hi H' v→(∀b g x,b<lo∨hi≤b→aJ H b g=some x→aJ H' b g=some x)→K (VI (k+dD bK)) H') :
  cO 22 [v,VI k] iJ H K:=by
 obtain⟨c,rfl,hv⟩:=hv
 refine fS rfl (iI.walk ⟨true,false⟩ Kt (Nat.le_of_ble_eq_true rfl) ?_)
 simp only[EU,B2,R7,List.getElem?_cons_zero,VX,Nat.reduceEqDiff,Nat.reduceAdd]
 have Qt:aB c=[c]∧bS c=true:=by
  rcases hv with⟨rfl,rfl⟩ | ⟨b,g,c,rs,h1,h2,rfl,h3⟩<;>exact⟨rfl,rfl⟩
 simp only[Qt.2,List.all_cons,List.all_nil,G9,R7,List.getElem?_cons_zero,VX,Nat.reduceEqDiff,Nat.reduceAdd]
 refine anE hv dV hk hn ht fun H' h1 h2 h3 => ?_
 simp only[VX,Nat.reduceEqDiff,Nat.reduceAdd]
 exact hK H' h1 ⟨c,rfl,h2⟩ h3
def svN (s:MF):Nat:=s.b.length+dD s.g+s.e.length
theorem VD.cell {α:Type} {f:α→VV} {e lo hi:Nat} {H:aA} {v:VV} {bK:List α} (h:VD f e bK lo hi H v):bS v=true:=by
 rcases h with⟨rfl,rfl⟩ | ⟨b,g,c,h1,h2,rfl,h3⟩<;>rfl
theorem RG.cell {α:Type} {f:α→VV} {e lo hi:Nat} {H:aA} {v:VV} {bK:List (List α)} (h:RG f e bK lo hi H v):bS v=true:=by
 rcases h with⟨rfl,rfl⟩ | ⟨b,g,c,rs,h1,h2,rfl,h3⟩<;>rfl
end Go.PM