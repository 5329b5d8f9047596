/- Texts of a claim, in one: part 11. -/
import Derived.KernelRfl
import Derived.Test.YtodamlihdkalfaaGreatDoorKWj
set_option linter.unusedSimpArgs false
set_option linter.unusedVariables false
namespace Go.PM
open Go.Lib
theorem Qx {α:Type} {f:α→VV} {d e b g c:Nat} {xs:List α} {H:aA} {w:Bool} (hp:∀x,aP (f x)=true) (h:aK H b g=some (xs.map f,e,w)) (hc:xs.length≤c):fz (d+2) H (.ref b g 0 xs.length c)=some (aC f xs):=by
 have:aP (.ref b g 0 xs.length c)=false:=rfl
 unfold PM.fz
 simp only[this,h,Bool.false_eq_true,if_false]
 rw[if_pos ⟨by simp,hc⟩,List.drop_zero,List.take_of_length_le (by simp),mapM_pure (dZ hp)]
 rfl
theorem zN {d:Nat} {H:aA}:fz (d+1) H (.tree [] .nil)=some (.tree [] .op):=by
 unfold PM.fz
 have:aP (.tree [] .nil)=false:=by simp[aP]
 simp[this]
theorem EL {H:aA}:fz depth H (.eG [.tree [] .nil,VB false])=some (.eG [.tree [] .op,VB false]):=bE (d:=6) zN (aH (v:=VB false) rfl)
theorem uQ {u v:VV} (hu:gK u=true) (hv:gK v=true):gK (.eG [u,v])=true:=by simp only[gK,pB,hu,hv,Bool.and_self]
theorem T2 {u v:VV} (hu:aP u=true) (hv:aP v=true):aP (.eG [u,v])=true:=by simp only[aP,aN,hu,hv,Bool.and_self]
theorem Bk {u:VV} (hu:aP u=true):aN [u]=true:=by simp only[aN,hu,Bool.and_self]
theorem R4 {u v:VV} (hu:aP u=true) (hv:aP v=true):aN [u,v]=true:=by simp only[aN,hu,hv,Bool.and_self]
def pQ (s:ByteArray):Option Rat:=xB s.data.toList
theorem Yj (s:ByteArray):sV s=cN s.data.toList:=rfl
def qG (xs:List ByteArray):Option (List Rat):=if xs.length≤300 then xs.mapM pQ else none
def My (o:Option (List Rat)):VV:=match o with
 | some qs => .eG [aC aO qs,VB true]
 | none => .eG [aC aO [],VB false]
theorem Gq (q:Rat):(aB (aO q)).length=3:=rfl
theorem gE (qs:List Rat):aP (aC aO qs)=true:=lJ Gq pI
theorem Vi (q:Rat):Ah (aO q)=true:=by simp[Ah,aO,bH]
theorem C9 (qs:List Rat):gK (aC aO qs)=true:=uN Gq CZ Vi
theorem Lh (o:Option (List Rat)):gK (My o)=true:=by
 unfold My
 split
 ·exact uQ (C9 _) rfl
 ·exact uQ (C9 []) rfl
theorem Li {α β:Type} {f:α→Option β} {xs:List α} {ys:List β} {x:α} {y:β} (h:xs.mapM f=some ys) (hx:f x=some y):(xs++[x]).mapM f=some (ys++[y]):=by
 rw[List.mapM_append,h]
 simp[hx]
theorem mapM_none {α β:Type} {f:α→Option β} {x:α} (hx:f x=none):∀ {xs:List α},x∈xs→xs.mapM f=none
 | [],h=>by cases h
 |
  y::xs,h=>by
  rw[List.mapM_cons]
  cases hy:f y with
  | none=>rfl
  |
   some z =>
   rcases List.mem_cons.1 h with rfl | h
   ·rw[hx] at hy;cases hy
   ·show ((xs.mapM f).bind fun zs=>some (z::zs))=none
    rw[mapM_none hx h];rfl
theorem mapM_mem {α β:Type} {f:α→Option β} {P:β→Prop} (hP:∀x y,f x=some y→P y):∀ {xs:List α} {ys:List β},xs.mapM f=some ys→∀y∈ys,P y
 | [],ys,h,y,hy=>by simp at h;subst h;cases hy
 |
  x::xs,ys,h,y,hy=>by
  rw[List.mapM_cons] at h
  cases hx:f x with
  | none=>rw[hx] at h;cases h
  |
   some z =>
   rw[hx] at h
   cases hs:xs.mapM f with
   | none=>rw[hs] at h;cases h
   |
    some zs =>
    rw[hs] at h
    cases h
    rcases List.mem_cons.1 hy with rfl | hy
    ·exact hP _ _ hx
    ·exact mapM_mem hP hs _ hy
theorem AE {α:Type} {xs:List α} {i:Nat} {x:α} (h:xs[i]? = some x):xs.take (i+1)=xs.take i++[x]:=by rw[List.take_add_one,h];rfl
theorem oT {xs:List ByteArray} {qs:List Rat} (h:qG xs=some qs):(∀q∈qs,iR q≤665)∧qs.length≤300∧qs.length=xs.length:=by
 unfold qG at h
 split at h
 ·rename_i hl
  have:=xO h
  exact⟨mapM_mem (fun _ _ h=>Rj h) h,by omega,this⟩
 ·cases h
set_option maxHeartbeats 1000000 in
theorem Ct (xs:List ByteArray) (hn:xs.length≤1000000000) (hs:∀s∈xs,s.size≤1000000000):TC 145 [fG xs] (My (qG xs)):=by
 refine TC.walk ⟨true,false⟩ PA rfl (Nat.le_of_ble_eq_true rfl) (by simp[aN,iY]) (Lh _) ?_
 unfold qG
 by_cases RQ:(300:Int)<(xs.length:Int)
 ·rw[if_neg (by omega)]
  simp only[Gi,Cv,RQ,VX,Nat.reduceEqDiff,Nat.reduceAdd]
  exact EL
 rw[if_pos (by omega)]
 have e0:=fun H=>vC (H:=H) (lr:=false) (z:=[.bool false,.slice none 0 0,.slice none 0 0]) rfl
 simp only[Gi,Cv,RQ,e0,VX,Nat.reduceEqDiff,Nat.reduceAdd]
 refine KA (fun(s:Nat×List Rat) ρ H=>s.1≤xs.length∧(xs.take s.1).mapM pQ=some s.2∧H=[.row s.1 (s.2.map aO) 3 true]∧ρ 4 = .ref 0 s.1 0 s.1 s.1∧ρ 13=fG xs∧ρ 14=VI xs.length∧ρ 15=VI s.1) (fun s=>xs.length-s.1) (0,[]) ⟨Nat.zero_le _,rfl,rfl,rfl,rfl,rfl,rfl⟩ ?_
 rintro⟨i,out⟩ ρ H ⟨hi,yW,rfl,g4,g13,g14,g15⟩
 simp only at hi yW g4 g15
 have fU:out.length=i:=by rw[xO yW,List.length_take];omega
 by_cases cB:(i:Int)<(xs.length:Int)
 ·obtain⟨x,hx⟩:∃x,xs[i]? = some x:=⟨_,List.getElem?_eq_getElem (by omega)⟩
  have Wi:=List.mem_of_getElem? hx
  have e1:=fun H=>aG (f:=sV) (t := .op) (H:=H) (size:=1) (k := .i64) hx rfl
  have wi:IntKind.i64.wrap ((i:Int)+1)=((i+1:Nat):Int):=wrapN (i+1) (by omega) (by omega)
  have e2:=JI x.data.toList (by have:=hs x Wi;rw[Array.length_toList];show x.size≤_;omega)
  rw[←Yj] at e2
  cases hp:pQ x with
  |
   none =>
   rw[PW hp] at e2
   rw[mapM_none hp Wi]
   simp only[wB,g4,g13,g14,g15,cB,e1,e2,HQ,Jj,Pe,bB,aZ,aQ,iH,Nat.reduceLeDiff,Nat.reduceLT,Nat.reduceSub,kC,bL,bW,eE,jC,lW,bne_iff_ne,ne_eq,not_false_eq_true,not_true_eq_false,VX,Nat.reduceEqDiff,Nat.reduceAdd]
   exact EL
  |
   some q =>
   rw[OU hp] at e2
   have eL:∀H,tY false [.bool false,.slice none 0 0,.slice none 0 0] 1 [(0,aO q)] H=some (.tree [aO q] (.cl 3),H):=fun H=>uM rfl rfl rfl
   have eS:∀H,fF 3 (.tree [aO q] (.cl 3)) H=some [aO q]:=fun H=>oI rfl rfl
   have eP:eJ 0 3 56 (.ref 0 i 0 i i) [aO q] [.row i (out.map aO) 3 true,.row 0 [aO q] 3 true]=some (.ref 0 (i+1) 0 (i+1) (i+1),[.row (i+1) ((out++[q]).map aO) 3 true,.row 0 [aO q] 3 true]):=by
    rw[oG (f:=aO) (xs:=out) (by rw[aR]) fU.symm (Nat.le_refl _) (by decide) (by decide) (by omega),List.set_cons_zero]
   simp only[wB,g4,g13,g14,g15,cB,e1,e2,eL,eS,eP,wi,aI,dL,dQ,bB,aZ,aQ,iH,Nat.reduceLeDiff,Nat.reduceLT,Nat.reduceSub,kC,bL,bW,eE,jC,lW,bne_iff_ne,ne_eq,not_false_eq_true,not_true_eq_false,VX,Nat.reduceEqDiff,Nat.reduceAdd]
   refine⟨(i+1,out++[q]),by simp only;omega,?_,by simp only;omega,by simp only[AE hx];exact Li yW hp,rfl,?_⟩
   ·rw[Ao (mA _ (dZ pI)),G8]
   ·simp only[gT,g13,g14,wS (iY _),wL (Nat.lt_succ_self 0),VX,Nat.reduceEqDiff,Nat.reduceAdd,List.take_zero,lQ,List.all_nil,List.length_nil,gT,KG,wS]
 ·have pD:i=xs.length:=by omega
  subst pD
  rw[List.take_length] at yW
  rw[yW]
  simp only[wB,g4,g13,g14,g15,cB,VX,Nat.reduceEqDiff,Nat.reduceAdd]
  refine bE (d:=6) ?_ (aH (v:=VB true) rfl)
  have:=Qx (d:=5) (w:=true) (f:=aO) (e:=3) (b:=0) (g:=xs.length) (c:=xs.length) (xs:=out) (H:=[.row xs.length (out.map aO) 3 true]) pI (by rw[aR]) (by omega)
  rw[fU] at this
  exact this
end Go.PM
namespace Go.PM
open Go.Lib
theorem WY {α:Type} {l:List α} (h:l.Nodup) {i j:Nat} {x:α} (hi:l[i]? = some x) (hj:l[j]? = some x):i=j:=by
 obtain⟨hi,BP⟩:=List.getElem?_eq_some_iff.1 hi
 obtain⟨hj,hj'⟩:=List.getElem?_eq_some_iff.1 hj
 have h:=List.pairwise_iff_getElem.1 h
 rcases Nat.lt_trichotomy i j with aX | heq | hgt
 ·exact absurd (BP.trans hj'.symm) (h i j hi hj aX)
 ·exact heq
 ·exact absurd (hj'.trans BP.symm) (h j i hj hi hgt)
section
variable {α:Type} {f:α→VV} {e lo hi:Nat} {H H':aA} {v:VV}
def lA (lo hi:Nat) (H H':aA):Prop:=∀b g x,lo≤b→b<hi→aK H b g=some x→aK H' b g=some x
theorem lA.pre (h:H <+: H'):lA lo hi H H':=fun _ _ _ _ _=>cT h
theorem lA.refl:lA lo hi H H:=fun _ _ _ _ _ h=>h
theorem lA.trans {Zx:aA} (h:lA lo hi H H') (h':lA lo hi H' Zx):lA lo hi H Zx:=fun b g x h1 h2 h3=>h' b g x h1 h2 (h b g x h1 h2 h3)
theorem lA.sub {l h':Nat} (h:lA lo hi H H') (hl:lo≤l) (hh:h'≤hi):lA l h' H H':=fun b g x h1 h2=>h b g x (by omega) (by omega)
theorem lA.set {b:Nat} {x:eR} (hb:b<lo∨hi≤b):lA lo hi H (H.set b x):=fun _ _ _ h1 h2=>cI (by omega)
theorem lA.move {L:aA}:lA H.length hi (List.replicate H.length .dead++L) (H++L):=fun _ _ _ h1 _=>Gv h1
def Vn (f:α→VV) (e:Nat) (bJ:List α) (lo hi:Nat) (H:aA) (v:VV):Prop :=
 (v = .tree [] .nil∧bJ=[])∨∃b g c,lo≤b∧b<hi∧v = .ref b g 0 bJ.length c∧bJ.length≤c∧aK H b g=some (bJ.map f,e,true)
theorem Vn.cZ {bJ:List α} (h:Vn f e bJ lo hi H v) (hk:lA lo hi H H'):Vn f e bJ lo hi H' v:=by
 rcases h with h | ⟨b,g,c,h1,h2,h3,h4,h5⟩
 ·exact .inl h
 ·exact .inr ⟨b,g,c,h1,h2,h3,h4,hk _ _ _ h1 h2 h5⟩
theorem Dw {d b g c:Nat} {xs:List α} {w:Bool} (hp:∀x,aP (f x)=true) (h:aK H b g=some (xs.map f,e,w)) (hc:xs.length≤c):fz (d+2) H (.ref b g 0 xs.length c)=some (aC f xs):=by
 have:aP (.ref b g 0 xs.length c)=false:=rfl
 show PM.fz ((d+1)+1) H _=_
 unfold PM.fz
 simp only[this,h,Bool.false_eq_true,if_false]
 rw[if_pos ⟨by simp,hc⟩,List.drop_zero,List.take_of_length_le (by simp),mapM_pure (n:=d) (dZ hp)]
 rfl
theorem Vn.fz {d:Nat} {bJ:List α} (h:Vn f e bJ lo hi H v) (hp:∀x,aP (f x)=true):PM.fz (d+2) H v=some (aC f bJ):=by
 rcases h with⟨rfl,rfl⟩ | ⟨b,g,c,h1,h2,rfl,h4,h5⟩
 ·exact Jc
 ·exact Dw hp h5 h4
structure FX (α:Type) where
 b:Nat
 g:Nat
 c:Nat
 xs:List α
def KM (r:FX α):VV := .ref r.b r.g 0 r.xs.length r.c
structure TB (f:α→VV) (e lo hi b:Nat) (H:aA) (rs:List (FX α)):Prop where
 nd:(rs.map (·.b)).Nodup
 row:∀r∈rs,lo≤r.b∧r.b<hi∧r.b≠b∧r.xs.length≤r.c∧aK H r.b r.g=some (r.xs.map f,e,true)
def RG (f:α→VV) (e:Nat) (bJ:List (List α)) (lo hi:Nat) (H:aA) (v:VV):Prop :=
 (v = .tree [] .nil∧bJ=[])∨∃b g c rs,lo≤b∧b<hi∧v = .ref b g 0 bJ.length c∧bJ.length≤c∧aK H b g=some (rs.map KM,1,true)∧rs.map (·.xs)=bJ∧TB f e lo hi b H rs
theorem RG.cZ {bJ:List (List α)} (h:RG f e bJ lo hi H v) (hk:lA lo hi H H'):RG f e bJ lo hi H' v:=by
 rcases h with h | ⟨b,g,c,rs,h1,h2,h3,h4,h5,h6,h7⟩
 ·exact .inl h
 ·exact .inr ⟨b,g,c,rs,h1,h2,h3,h4,hk _ _ _ h1 h2 h5,h6,h7.nd,fun r hr=>by
   obtain⟨k1,k2,k3,k4,k5⟩:=h7.row r hr
   exact⟨k1,k2,k3,k4,hk _ _ _ k1 k2 k5⟩⟩
theorem SO {d b g c lo hi:Nat} {rs:List (FX α)} {w:Bool} (hp:∀x,aP (f x)=true) (h:aK H b g=some (rs.map KM,1,w)) (hc:rs.length≤c) (hR:TB f e lo hi b H rs) :
  fz (d+3) H (.ref b g 0 rs.length c)=some (aC (aC f) (rs.map (·.xs))):=by
 have:aP (.ref b g 0 rs.length c)=false:=rfl
 show PM.fz ((d+2)+1) H _=_
 unfold PM.fz
 simp only[this,h,Bool.false_eq_true,if_false]
 rw[if_pos ⟨by simp,hc⟩,List.drop_zero,List.take_of_length_le (by simp),mapM_map (f:=KM) (f':=fun r=>aC f r.xs) fun r hr=>Dw hp (hR.row r hr).2.2.2.2 (hR.row r hr).2.2.2.1]
 simp[aC,List.map_map]
theorem RG.fz {d:Nat} {bJ:List (List α)} (h:RG f e bJ lo hi H v) (hp:∀x,aP (f x)=true):PM.fz (d+3) H v=some (aC (aC f) bJ):=by
 rcases h with⟨rfl,rfl⟩ | ⟨b,g,c,rs,h1,h2,rfl,h4,h5,rfl,h7⟩
 ·exact Jc
 ·rw[List.length_map] at h4 ⊢
  exact SO hp h5 h4 h7
theorem Db {d:Nat} {us EB:List VV} (h:us.mapM (PM.fz (d+1) H)=some EB):PM.fz (d+2) H (.agg us)=some (.agg EB):=by
 have e:PM.fz (d+2) H (.agg us)=if aP (.agg us)=true then some (.agg us) else (us.mapM (PM.fz (d+1) H)).map .agg:=rfl
 rw[e]
 by_cases hq:aP (.agg us)=true
 ·rw[if_pos hq]
  have:us.mapM (PM.fz (d+1) H)=some us:=mapM_pure hq
  rw[this] at h
  cases h
  rfl
 ·rw[if_neg hq,h]
  rfl
end
def F2 (T:VV) (lo hi:Nat) (H:aA) (v:VV):Prop:=∀H',lA lo hi H H'→fz depth H' v=some T
theorem F2.cZ {T:VV}:∀ {lo hi H H' v},F2 T lo hi H v→lA lo hi H H'→F2 T lo hi H' v:=fun h hk _ h'=>h _ (hk.trans h')
theorem F2.now {T v:VV} {lo hi:Nat} {H:aA} (h:F2 T lo hi H v):fz depth H v=some T:=h H lA.refl
def CG (bJ:List (List ByteArray)) (lo hi:Nat) (H:aA) (v:VV):Prop:=∃c,v = .agg [c]∧RG sV 1 bJ lo hi H c
theorem CG.cZ {bJ:List (List ByteArray)}:∀ {lo hi H H' v},CG bJ lo hi H v→lA lo hi H H'→CG bJ lo hi H' v:=by
 rintro lo hi H H' v ⟨c,h1,h2⟩ hk
 exact⟨c,h1,h2.cZ hk⟩
theorem CG.fz {bJ:List (List ByteArray)} {lo hi:Nat} {H:aA} {v:VV} (h:CG bJ lo hi H v):PM.fz depth H v=some (chV bJ):=by
 obtain⟨c,rfl,h⟩:=h
 refine Db (d:=6) ?_
 rw[List.mapM_cons,h.fz (d:=4) fun _=>rfl]
 rfl
theorem CG.seen {bJ:List (List ByteArray)} {lo hi:Nat} {H:aA} {v:VV} (h:CG bJ lo hi H v):F2 (chV bJ) lo hi H v:=fun _ hk=>(h.cZ hk).fz
def SvG (s:Ag) (lo hi:Nat) (H:aA) (v:VV):Prop:=∃a b c m1 m2,v = .agg [a,b,c]∧lo≤m1∧m1≤m2∧m2≤hi∧Vn sV 1 s.b lo m1 H a∧RG sV 1 s.g m1 m2 H b∧Vn sV 1 s.e m2 hi H c
theorem SvG.cZ {s:Ag}:∀ {lo hi H H' v},SvG s lo hi H v→lA lo hi H H'→SvG s lo hi H' v:=by
 rintro lo hi H H' v ⟨a,b,c,m1,m2,h1,k1,k2,k3,h2,h3,h4⟩ hk
 exact⟨a,b,c,m1,m2,h1,k1,k2,k3,h2.cZ (hk.sub (by omega) (by omega)),h3.cZ (hk.sub (by omega) (by omega)),h4.cZ (hk.sub (by omega) (by omega))⟩
theorem aeS {s:Ag} {l1 h1 l2 h2 l3 h3:Nat} {H:aA} {a b c:VV} (ha:Vn sV 1 s.b l1 h1 H a) (hb:RG sV 1 s.g l2 h2 H b) (hc:Vn sV 1 s.e l3 h3 H c):PM.fz depth H (.agg [a,b,c])=some (sZ s):=by
 refine Db (d:=6) ?_
 rw[List.mapM_cons,ha.fz (d:=5) fun _=>rfl]
 rw[List.mapM_cons,hb.fz (d:=4) fun _=>rfl]
 rw[List.mapM_cons,hc.fz (d:=5) fun _=>rfl]
 rfl
theorem SvG.fz {s:Ag} {lo hi:Nat} {H:aA} {v:VV} (h:SvG s lo hi H v):PM.fz depth H v=some (sZ s):=by
 obtain⟨a,b,c,m1,m2,rfl,k1,k2,k3,h2,h3,h4⟩:=h
 exact aeS h2 h3 h4
theorem SvG.seen {s:Ag} {lo hi:Nat} {H:aA} {v:VV} (h:SvG s lo hi H v):F2 (sZ s) lo hi H v:=fun _ hk=>(h.cZ hk).fz
theorem Vn.seen {bJ:List ByteArray} {lo hi:Nat} {H:aA} {v:VV} (h:Vn sV 1 bJ lo hi H v):F2 (fG bJ) lo hi H v:=fun _ hk=>(h.cZ hk).fz (d:=6) fun _=>rfl
end Go.PM
namespace Go.PM
section
variable {α:Type} {f:α→VV} {e:Nat}
structure Rd (f:α→VV) (e:Nat) (xs:List α) (H:aA) (v:VV):Prop where
 len:∀H',H <+: H'→pX v H'=some (VI xs.length)
 get:∀H',H <+: H'→∀(i:Nat) x,xs[i]? = some x→∃p,bF e v (VI i) H'=some p∧∀ag,cU ag e p H'=dR ag e (f x) 0
 cell:aB v=[v]∧bU v=true∧isAny v=false
theorem Rd.pre {xs:List α} {H H':aA} {v:VV} (h:Rd f e xs H v) (hh:H <+: H'):Rd f e xs H' v:=⟨fun H2 h2=>h.len H2 (hh.trans h2),fun H2 h2=>h.get H2 (hh.trans h2),h.cell⟩
theorem Rd.tree {xs:List α} {H:aA} {t:TK} (hs:∀x,(aB (f x)).length=e):Rd f e xs H (.tree (xs.map f) t) :=
 ⟨fun _ _=>dM,fun _ _ i x hx=>⟨_,aG hx (hs x),fun ag=>IV⟩,rfl,rfl,rfl⟩
theorem Rd.row {xs:List α} {H:aA} {b g n c:Nat} {w:Bool} (h:aK H b g=some (xs.map f,e,w)) (hn:n=xs.length):Rd f e xs H (.ref b g 0 n c):=by
 subst hn
 refine⟨fun H' hh=>eV (cT hh h),fun H' hh i x hx => ?_,rfl,rfl,rfl⟩
 have hi:=(List.getElem?_eq_some_iff.1 hx).1
 have e1:=aV (o:=0) (n:=xs.length) (c:=c) (i:=i) (k := .i64) (cT hh h) hi
 rw[Nat.zero_add] at e1
 exact⟨_,e1,fun ag=>tG (f:=f) (cT hh h) hx⟩
structure MG (f:α→VV) (e lo hi b g:Nat) (H:aA) (rs:List (FX α)):Prop where
 out:aK H b g=some (rs.map KM,1,true)
 blo:lo≤b
 bhi:b<hi
 rows:TB f e lo hi b H rs
variable {lo hi b g:Nat} {H H':aA} {rs:List (FX α)}
theorem MG.cZ (h:MG f e lo hi b g H rs) (hk:lA lo hi H H'):MG f e lo hi b g H' rs :=
 ⟨hk _ _ _ h.blo h.bhi h.out,h.blo,h.bhi,h.rows.nd,fun r hr=>by
  obtain⟨k1,k2,k3,k4,k5⟩:=h.rows.row r hr
  exact⟨k1,k2,k3,k4,hk _ _ _ k1 k2 k5⟩⟩
theorem MG.pre (h:MG f e lo hi b g H rs) (hh:H <+: H'):MG f e lo hi b g H' rs:=h.cZ (lA.pre hh)
theorem MG.len {n c:Nat} (h:MG f e lo hi b g H rs):pX (.ref b g 0 n c) H=some (VI n):=eV h.out
theorem MG.cell {i:Nat} {r:FX α} (h:MG f e lo hi b g H rs) (hr:rs[i]? = some r):cU false 1 (.ptr b g i 0) H=some (.ref r.b r.g 0 r.xs.length r.c):=by
 rw[tG (f:=KM) h.out hr]
 rfl
theorem MG.row {i:Nat} {r:FX α} (h:MG f e lo hi b g H rs) (hr:rs[i]? = some r):aK H r.b r.g=some (r.xs.map f,e,true):=(h.rows.row r (List.mem_of_getElem? hr)).2.2.2.2
theorem MG.at {i j n c:Nat} {r:FX α} (h:MG f e lo hi b g H rs) (hr:rs[i]? = some r) (hj:j<n):bF e (.ref r.b r.g 0 n c) (VI j) H=some (.ptr r.b r.g j 0):=by
 have:=aV (o:=0) (n:=n) (c:=c) (i:=j) (k := .i64) (h.row hr) hj
 rwa [Nat.zero_add] at this
theorem MG.get {i j:Nat} {ag:Bool} {r:FX α} {x:α} (h:MG f e lo hi b g H rs) (hr:rs[i]? = some r) (hx:r.xs[j]? = some x):cU ag e (.ptr r.b r.g j 0) H=dR ag e (f x) 0:=tG (f:=f) (h.row hr) hx
theorem MG.inj {i j:Nat} {r s:FX α} (h:MG f e lo hi b g H rs) (hr:rs[i]? = some r) (hs:rs[j]? = some s) (he:r.b=s.b):i=j:=by
 have h1:(rs.map (·.b))[i]? = some r.b:=by simp[hr]
 have h2:(rs.map (·.b))[j]? = some r.b:=by simp[hs,he]
 exact WY h.rows.nd h1 h2
theorem Ks {β γ:Type} {F:β→γ} {l:List β} {i:Nat} {x y:β} (hx:l[i]? = some x) (he:F y=F x):(l.set i y).map F=l.map F:=by
 apply List.ext_getElem?
 intro j
 rw[List.getElem?_map,List.getElem?_map,List.getElem?_set]
 split
 ·rename_i Pk
  subst Pk
  split
  ·rw[hx,Option.map_some,Option.map_some,he]
  ·rename_i hn
   rw[(List.getElem?_eq_none (by omega))] at hx
   cases hx
 ·rfl
theorem MG.set {i:Nat} {r:FX α} {ys:List α} (h:MG f e lo hi b g H rs) (hr:rs[i]? = some r) (hl:ys.length=r.xs.length):MG f e lo hi b g (H.set r.b (.row r.g (ys.map f) e true)) (rs.set i { r with xs:=ys }):=by
 have hrm:=h.rows.row r (List.mem_of_getElem? hr)
 refine⟨?_,h.blo,h.bhi,?_,fun s hs => ?_⟩
 ·rw[Ks hr (by simp[KM,hl])]
  exact cI hrm.2.2.1 h.out
 ·rw[Ks (F:=fun r:FX α=>r.b) (y:={ r with xs:=ys }) hr rfl]
  exact h.rows.nd
 ·obtain⟨j,hj⟩:=List.getElem?_of_mem hs
  rw[List.getElem?_set] at hj
  split at hj
  ·rename_i Pk
   split at hj
   ·cases hj
    exact⟨hrm.1,hrm.2.1,hrm.2.2.1,by rw[hl];exact hrm.2.2.2.1,iK hrm.2.2.2.2⟩
   ·cases hj
  ·rename_i Pk
   have YZ:=h.rows.row s (List.mem_of_getElem? hj)
   exact⟨YZ.1,YZ.2.1,YZ.2.2.1,YZ.2.2.2.1,cI (fun he=>Pk (h.inj hr hj he)) YZ.2.2.2.2⟩
theorem MG.put {i j Bf:Nat} {r:FX α} {y:α} (h:MG f e lo hi b g H rs) (hr:rs[i]? = some r) (hj:j<r.xs.length) (iD:Bf≤lo) (hv:(aB (f y)).length=e) (hs:(aB (f y)).all bU=true) :
  cD Bf e (.ptr r.b r.g j 0) (f y) H=some (H.set r.b (.row r.g ((r.xs.set j y).map f) e true)) :=
 gU (f:=f) (h.row hr) hj (Nat.le_trans iD (h.rows.row r (List.mem_of_getElem? hr)).1) hv hs
theorem MG.lt {i:Nat} {r:FX α} (h:MG f e lo hi b g H rs) (hr:rs[i]? = some r):lo≤r.b∧r.b<hi∧r.b<H.length:=⟨(h.rows.row r (List.mem_of_getElem? hr)).1,(h.rows.row r (List.mem_of_getElem? hr)).2.1,E4 (h.row hr)⟩
theorem MG.bJ {c:Nat} (h:MG f e lo hi b g H rs) (hc:rs.length≤c):RG f e (rs.map (·.xs)) lo hi H (.ref b g 0 rs.length c) := .inr ⟨b,g,c,rs,h.blo,h.bhi,by rw[List.length_map],by rw[List.length_map];exact hc,h.out,rfl,h.rows⟩
theorem MG.fz {d c:Nat} (h:MG f e lo hi b g H rs) (hc:rs.length≤c) (hp:∀x,aP (f x)=true):PM.fz (d+3) H (.ref b g 0 rs.length c)=some (aC (aC f) (rs.map (·.xs))):=SO hp h.out hc h.rows
end
theorem oU:type_of% (And.intro @rE<|And.intro @oC<|And.intro @mQ.eq_1<|And.intro @pK.eq_1<|And.intro @pK.eq_2<|And.intro @Cd.eq_1<|And.intro @Cd.eq_2<|And.intro @xL.eq_1<|And.intro @xL.eq_2<|And.intro @E7<|And.intro @Bu<|And.intro @C1<|And.intro @Df<|And.intro @List.take_zero.{0}<|And.intro @List.take_succ_cons.{0}<|And.intro @List.take_nil.{0}<|And.intro @List.drop_zero.{0}<|And.intro @List.drop_succ_cons.{0}<|And.intro @List.drop_nil.{0}<|And.intro @List.append_nil.{0} <| @Nat.le_refl):=And.intro @rE<|And.intro @oC<|And.intro @mQ.eq_1<|And.intro @pK.eq_1<|And.intro @pK.eq_2<|And.intro @Cd.eq_1<|And.intro @Cd.eq_2<|And.intro @xL.eq_1<|And.intro @xL.eq_2<|And.intro @E7<|And.intro @Bu<|And.intro @C1<|And.intro @Df<|And.intro @List.take_zero.{0}<|And.intro @List.take_succ_cons.{0}<|And.intro @List.take_nil.{0}<|And.intro @List.drop_zero.{0}<|And.intro @List.drop_succ_cons.{0}<|And.intro @List.drop_nil.{0}<|And.intro @List.append_nil.{0} <| @Nat.le_refl
def Xn (P:Nat→Nat→aA→VV→Prop) (H:aA) (r:VV) (H':aA):Prop:=H <+: H'∧P H.length H'.length H' r
theorem EE {F lo:Nat} {args:List VV} {P:Nat→Nat→aA→VV→Prop} {H:aA} {K:VV→aA→Prop} (A7:Ez.contains F=true) (h:qD F args lo H (Xn P H)) (hk:∀r L,P H.length (H++L).length (H++L) r→K r (H++L)):cW F args lo H K:=by
 refine lT A7 (h.mono ?_)
 rintro r H' ⟨⟨L,rfl⟩,hP⟩
 exact hk r L hP
end Go.PM
namespace Go.PM
open Go.Lib
abbrev cell0:eR := .row 0 [.agg [VB false,.tree [] .nil,.tree [] .nil]] 3 true
def vB (qs:List Rat):Rat:=qs.foldl (· + ·) 0
theorem Lq {qs:List Rat} {i:Nat} {q:Rat} (h:qs[i]? = some q):vB (qs.take (i+1))=vB (qs.take i)+q:=by
 rw[AE h,vB,List.foldl_append];rfl
theorem Ll {B:Nat}:∀ {qs:List Rat},(∀q∈qs,iR q≤B)→∀a:Rat,iR (qs.foldl (· + ·) a)≤qs.length*(B+1)+iR a
 | [],_,a=>by simp
 |
  q::qs,h,a=>by
  have h1:=Ll (fun x hx=>h x (List.mem_cons_of_mem _ hx)) (a+q)
  have h2:=Ut a q
  have h3:=h q List.mem_cons_self
  rw[List.foldl_cons,List.length_cons,Nat.succ_mul]
  omega
theorem Bp {B:Nat} {qs:List Rat} (h:∀q∈qs,iR q≤B) (i:Nat):iR (vB (qs.take i))≤qs.length*(B+1)+1:=by
 have h1:=Ll (qs:=qs.take i) (fun q hq=>h q (List.mem_of_mem_take hq)) 0
 have h2:(qs.take i).length*(B+1)≤qs.length*(B+1):=Nat.mul_le_mul_right _ (by rw[List.length_take];omega)
 rw[Q8] at h1
 unfold vB
 omega
set_option maxHeartbeats 1000000 in
abbrev rz:VV := .agg [VB false,.tree [] .nil,.tree [] .nil]
theorem Fb {H H1:aA} {b:Nat} {x:eR} (h:H <+: H1) (hb:H.length≤b):H <+: H1.set b x:=by
 obtain⟨L,rfl⟩:=h
 rw[List.set_append_right _ _ hb]
 exact List.prefix_append _ _
theorem X1 {H H1 L:aA} (h:H <+: H1):H <+: H1++L:=h.trans (List.prefix_append _ _)
theorem Ob {lo:Nat} {H:aA} {q:Rat} (h:lo≤H.length):cD lo 3 (.ptr H.length 0 0 0) (aO q) (H++[cell0])=some (H++[.row 0 [aO q] 3 true]):=by
 rw[dI (g:=0) (e:=3) (j:=0) AA (by exact Nat.zero_lt_one) h rfl rfl,I1]
 rfl
theorem ZT {H K:aA} {q:Rat}:cU true 3 (.ptr H.length 0 0 0) (H ++ .row 0 [aO q] 3 true::K)=some (aO q):=by
 rw[fI,IF,aR]
 exact dQ _
theorem R0 {lo:Nat} {H:aA} {v:VV} (qs:List Rat) {B:Nat} (hv:Rd aO 3 qs H v) (iD:lo≤H.length) (hb:∀q∈qs,iR q≤B) (hk:qs.length*(B+1)+1≤1099511627776) (hB:B≤1099511627776) (hn:qs.length≤1000000000) :
  qD 148 [v] lo H (Xn (fun _ _ _ r=>r=aO (vB qs)) H):=by
 refine qD.walk ⟨true,false⟩ RS (Nat.le_of_ble_eq_true rfl) ?_
 have e1:TC 97 [VI 0] (aO 0):=Fe 0 (by decide) (by decide)
 have e2:=hv.len (H++[cell0,.row 0 [aO 0] 3 true]) (List.prefix_append _ _)
 have s0:cD lo 3 (.ptr (H.length+1) 0 0 0) (aO 0) (H++[cell0,cell0])=some (H++[cell0,.row 0 [aO 0] 3 true]):=by
  have:=Ob (lo:=lo) (H:=H++[cell0]) (q:=0) (by rw[List.length_append];omega)
  simpa only[List.length_append,List.length_cons,List.length_nil,Nat.zero_add,List.append_assoc,List.cons_append,List.nil_append] using this
 simp only[PR,Jm,e1,e2,s0,List.length_append,List.length_cons,List.length_nil,List.append_assoc,List.cons_append,List.nil_append,oU,VX,Nat.reduceEqDiff,Nat.reduceAdd,Nat.reduceLeDiff,Nat.reduceLT,Nat.reduceSub]
 refine aW (fun(i:Nat) ρ H1=>i≤qs.length∧H <+: H1∧aK H1 H.length 0=some ([rz],3,true)∧aK H1 (H.length+1) 0=some ([aO (vB (qs.take i))],3,true)∧ρ 2 = .ptr H.length 0 0 0∧ρ 3 = .ptr (H.length+1) 0 0 0∧ρ 7=v∧ρ 8=VI qs.length∧ρ 9=VI i) (fun i=>qs.length-i) 0 ⟨Nat.zero_le _,List.prefix_append _ _,IF.trans aR,ML.trans (dU.trans aR),rfl,rfl,rfl,rfl,rfl⟩ ?_
 rintro i ρ H1 ⟨hi,hp,KZ,Rs,g2,g3,g7,g8,g9⟩
 have Dd:=E4 Rs
 by_cases cB:(i:Int)<(qs.length:Int)
 ·obtain⟨q,hq⟩:∃q,qs[i]? = some q:=⟨_,List.getElem?_eq_getElem (by omega)⟩
  obtain⟨p,a1,a2⟩:=hv.get H1 hp i q hq
  have a2':=(a2 true).trans (dQ _)
  have wi:IntKind.i64.wrap ((i:Int)+1)=((i+1:Nat):Int):=wrapN (i+1) (by omega) (by omega)
  have h1:=Bp hb i
  have h2:=hb q (List.mem_of_getElem? hq)
  have h3:(i+1)*(B+1)≤qs.length*(B+1):=Nat.mul_le_mul_right _ (by omega)
  have e3:=KK (vB (qs.take i)) q (by omega) (by omega)
  rw[←Lq hq] at e3
  have s1:=Ob (lo:=lo) (H:=H1) (q:=q) (by omega)
  have s2:=ZT (H:=H1) (K:=[]) (q:=q)
  have s3:cU true 3 (.ptr (H.length+1) 0 0 0) (H1++[.row 0 [aO q] 3 true])=some (aO (vB (qs.take i))):=by
   rw[fI,wV Rs]
   exact dQ _
  have s4:=dI (lo:=lo) (v:=aO (vB (qs.take (i+1)))) (j:=0) (wV (L:=[.row 0 [aO q] 3 true]) Rs) (by exact Nat.zero_lt_one) (by omega) rfl rfl
  rw[List.set_cons_zero] at s4
  simp only[Ce,g2,g3,g7,g8,g9,cB,a1,a2',e3,s1,s2,s3,s4,wi,dQ,oU,VX,Nat.reduceEqDiff,Nat.reduceAdd,Nat.reduceLeDiff,Nat.reduceLT,Nat.reduceSub]
  exact⟨i+1,by omega,by omega,Fb (X1 hp) (by omega),cI (by omega) (wV KZ),iK (wV Rs),by (repeat' apply And.intro)<;>first | rfl | trivial | assumption⟩
 ·have pD:i=qs.length:=by omega
  subst pD
  rw[List.take_length] at Rs
  have s3:cU true 3 (.ptr (H.length+1) 0 0 0) H1=some (aO (vB qs)):=by
   rw[fI,Rs]
   exact dQ _
  have s4:=dI (lo:=lo) (v:=aO (vB qs)) (j:=0) KZ (by exact Nat.zero_lt_one) iD rfl rfl
  rw[List.set_cons_zero] at s4
  have s5:cU true 3 (.ptr H.length 0 0 0) (H1.set H.length (.row 0 [aO (vB qs)] 3 true))=some (aO (vB qs)):=by
   rw[fI,iK KZ]
   exact dQ _
  simp only[Ce,g2,g3,g8,g9,cB,s3,s4,s5,oU,VX,Nat.reduceEqDiff,Nat.reduceAdd,Nat.reduceLeDiff,Nat.reduceLT,Nat.reduceSub]
  exact⟨Fb hp (Nat.le_refl _),rfl⟩
theorem Mn {q:Rat}:jO q<0↔q<0:=by
 have e:q.num<0↔q<0:=by rw[←Int.not_le,Rat.num_nonneg];constructor<;>intro h<;>grind
 rw[←e]
 rcases Int.lt_trichotomy q.num 0 with h | h | h
 ·rw[mR h];omega
 ·rw[kP h];omega
 ·rw[mJ h];omega
theorem yD (q:Rat):TC 147 [aO q] (VB (decide (q<0))):=by
 refine TC.walk ⟨true,false⟩ Jd rfl (Nat.le_of_ble_eq_true rfl) (by simp[aN,pI]) rfl ?_
 have e1:=gN q
 by_cases h:jO q<0
 ·rw[decide_eq_true (Mn.1 h)]
  simp only[Br,xS,e1,h,aI,dL,dQ,bB,aZ,aQ,iH,Nat.reduceLeDiff,Nat.reduceLT,Nat.reduceSub,kC,bL,bW,eE,jC,lW,bne_iff_ne,ne_eq,not_false_eq_true,not_true_eq_false,VX,Nat.reduceEqDiff,Nat.reduceAdd]
  exact aJ rfl
 ·rw[decide_eq_false (mt Mn.2 h)]
  simp only[Br,xS,e1,h,aI,dL,dQ,bB,aZ,aQ,iH,Nat.reduceLeDiff,Nat.reduceLT,Nat.reduceSub,kC,bL,bW,eE,jC,lW,bne_iff_ne,ne_eq,not_false_eq_true,not_true_eq_false,VX,Nat.reduceEqDiff,Nat.reduceAdd]
  exact aJ rfl
theorem Bm (xs:List Rat) (g:Nat) (p:Rat→Bool) (hg:∀x∈xs,TC g [aO x] (VB (p x))) (hn:xs.length≤1000000000) :
  ∃k:Int,(0≤k↔xs.any p=true)∧TC 205 [aC aO xs,.uG g []] (VI k):=by
 refine⟨match xs.findIdx? p with | some i=>i | none => -1,?_,?_⟩
 ·cases h:xs.findIdx? p with
  |
   none =>
   rw[List.findIdx?_eq_none_iff] at h
   simp only[List.any_eq_true]
   constructor
   ·intro h';omega
   ·rintro⟨x,hx,hp⟩;rw[h x hx] at hp;cases hp
  |
   some i =>
   simp only[List.any_eq_true]
   obtain⟨hi,hp,_⟩:=List.findIdx?_eq_some_iff_getElem.1 h
   exact⟨fun _=>⟨_,List.getElem_mem hi,hp⟩,fun _=>by omega⟩
 ·refine TC.walk ⟨true,false⟩ nX rfl (Nat.le_of_ble_eq_true rfl) (by simp[aN,gE];rfl) rfl ?_
  simp only[iQ,iE,VX,Nat.reduceEqDiff,Nat.reduceAdd]
  refine aW (fun(i:Nat) ρ H=>i≤xs.length∧H=[]∧(∀j x,j<i→xs[j]? = some x→p x=false)∧ρ 0=aC aO xs∧ρ 1 = .uG g []∧ρ 7=VI xs.length∧ρ 8=VI i) (fun i=>xs.length-i) 0 ⟨Nat.zero_le _,rfl,fun j x h=>by omega,rfl,rfl,rfl,rfl⟩ ?_
  rintro i ρ H ⟨hi,rfl,kW,h0,h1,h7,h8⟩
  by_cases cB:(i:Int)<(xs.length:Int)
  ·obtain⟨x,hx⟩:∃x,xs[i]? = some x:=⟨_,List.getElem?_eq_getElem (by omega)⟩
   have e1:=aG (f:=aO) (t := .op) (H:=[]) (size:=3) (k := .i64) hx rfl
   have wi:IntKind.i64.wrap ((i:Int)+1)=((i+1:Nat):Int):=wrapN (i+1) (by omega) (by omega)
   have e2:=hg x (List.mem_of_getElem? hx)
   cases hp:p x with
   |
    false =>
    rw[hp] at e2
    simp only[cH,h0,h1,h7,h8,cB,e1,e2,wi,A9,List.append_nil,aI,dL,dQ,bB,aZ,aQ,VX,Nat.reduceEqDiff,Nat.reduceAdd]
    refine⟨i+1,by omega,by omega,fun j y hj hy => ?_,by (repeat' apply And.intro)<;>first | rfl | trivial⟩
    rcases Nat.lt_or_ge j i with J6 | J6
    ·exact kW j y J6 hy
    ·have:j=i:=by omega
     subst this
     rw[hx] at hy
     injection hy with hy
     exact hy▸hp
   |
    true =>
    rw[hp] at e2
    simp only[cH,h0,h1,h7,h8,cB,e1,e2,wi,A9,List.append_nil,aI,dL,dQ,bB,aZ,aQ,VX,Nat.reduceEqDiff,Nat.reduceAdd]
    have:xs.findIdx? p=some i:=by
     rw[List.findIdx?_eq_some_iff_getElem]
     obtain⟨aX,DA⟩:=List.getElem?_eq_some_iff.1 hx
     exact⟨aX,by rw[DA];exact hp,fun j hj=>by
      have:=kW j _ hj (List.getElem?_eq_getElem (by omega))
      simp[this]⟩
    rw[this]
    exact aJ rfl
  ·simp only[cH,h0,h1,h7,h8,cB,VX,Nat.reduceEqDiff,Nat.reduceAdd]
   have:xs.findIdx? p=none:=by
    rw[List.findIdx?_eq_none_iff]
    intro x hx
    obtain⟨j,hj⟩:=List.getElem?_of_mem hx
    exact kW j x (by have:=(List.getElem?_eq_some_iff.1 hj).1;omega) hj
   rw[this]
   exact aJ rfl
theorem kH (xs:List Rat) (g:Nat) (p:Rat→Bool) (hg:∀x∈xs,TC g [aO x] (VB (p x))) (hn:xs.length≤1000000000):TC 146 [aC aO xs,.uG g []] (VB (xs.any p)):=by
 refine TC.walk ⟨true,false⟩ mO rfl (Nat.le_of_ble_eq_true rfl) (by simp[aN,gE];rfl) rfl ?_
 obtain⟨k,hk,hc⟩:=Bm xs g p hg hn
 have e:decide (0≤k)=xs.any p:=by
  cases h:xs.any p with
  | true=>rw[decide_eq_true (hk.2 h)]
  | false=>rw[decide_eq_false fun h'=>by rw[hk.1 h'] at h;cases h]
 simp only[gS,gH,hc,e,VX,Nat.reduceEqDiff,Nat.reduceAdd]
 exact aJ rfl
def lP (qs:List Rat):Bool := !(qs.any fun q=>decide (q<0))&&decide (vB qs=1)
def mX (xs:List ByteArray):Option (List Rat):=match qG xs with
 | some qs=>if lP qs=true then some qs else none
 | none=>none
theorem Ki {n:Nat} (h:n≤300):n*(665+1)+1≤1099511627776:=by omega
theorem CU {xs:List ByteArray} {qs:List Rat} (h:qG xs=some qs):mX xs=if lP qs=true then some qs else none:=by unfold mX;rw[h]
theorem Hy {xs:List ByteArray} (h:qG xs=none):mX xs=none:=by unfold mX;rw[h]
theorem oQ:My none = .eG [aC aO [],VB false]:=rfl
theorem tQ (qs:List Rat):My (some qs) = .eG [aC aO qs,VB true]:=rfl
set_option maxHeartbeats 1000000 in
theorem Hf (xs:List ByteArray) (hn:xs.length≤1000000000) (hs:∀s∈xs,s.size≤1000000000):TC 114 [fG xs] (My (mX xs)):=by
 refine TC.walk ⟨true,false⟩ GK rfl (Nat.le_of_ble_eq_true rfl) (by simp[aN,iY]) (Lh _) ?_
 have e1:=Ct xs hn hs
 cases h:qG xs with
 |
  none =>
  rw[h,oQ] at e1
  rw[Hy h,oQ]
  simp only[oL,lM,e1,VX,Nat.reduceEqDiff,Nat.reduceAdd]
  exact EL
 |
  some qs =>
  rw[h,tQ] at e1
  rw[CU h]
  obtain⟨hb,hl,_⟩:=oT h
  have e2:=kH qs 147 (fun q=>decide (q<0)) (fun q _=>yD q) (by omega)
  have hm:qs.length*666≤199800:=by omega
  have e3:=fun(K:aA)=>R0 (lo:=0) (H:=K) (v:=aC aO qs) qs (B:=665) (Rd.tree Gq) (Nat.zero_le _) hb (Ki hl) (by decide) (by omega)
  have Y0:=Bp hb qs.length
  rw[List.take_length] at Y0
  have e4:=GX (vB qs) (by omega)
  cases vH:qs.any (fun q=>decide (q<0)) with
  |
   true =>
   rw[vH] at e2
   have hw:¬lP qs=true:=by unfold lP;rw[vH];simp
   rw[if_neg hw,oQ]
   simp only[oL,lM,e1,e2,VX,Nat.reduceEqDiff,Nat.reduceAdd]
   exact EL
  |
   false =>
   rw[vH] at e2
   by_cases Vr:vB qs=1
   ·rw[decide_eq_true Vr] at e4
    have hw:lP qs=true:=by unfold lP;rw[vH,decide_eq_true Vr];rfl
    rw[if_pos hw,tQ]
    simp only[oL,lM,e1,e2,VX,Nat.reduceEqDiff,Nat.reduceAdd]
    refine EE rfl (e3 _) fun r L hr => ?_
    subst hr
    simp only[e4,VX,Nat.reduceEqDiff,Nat.reduceAdd]
    exact aJ (T2 (gE _) rfl)
   ·rw[decide_eq_false Vr] at e4
    have hw:¬lP qs=true:=by unfold lP;rw[vH,decide_eq_false Vr];simp
    rw[if_neg hw,oQ]
    simp only[oL,lM,e1,e2,VX,Nat.reduceEqDiff,Nat.reduceAdd]
    refine EE rfl (e3 _) fun r L hr => ?_
    subst hr
    simp only[e4,VX,Nat.reduceEqDiff,Nat.reduceAdd]
    exact EL
end Go.PM
namespace Go.PM
open Go.Lib
end Go.PM
namespace Go.PM
end Go.PM
namespace Go.PM
open Go.Lib
theorem L7 (x:List Rat):(aB (aC aO x)).length=1:=rfl
theorem JN (m:List (List Rat)):aP (aC (aC aO) m)=true:=lJ L7 gE
theorem Z7 (m:List (List Rat)):gK (aC (aC aO) m)=true:=uN L7 C9 fun _=>rfl
end Go.PM
namespace Go.PM
end Go.PM
namespace Go.PM
def Ii (cs:List fL) (i:Nat):Int:=((cs[i]?).map (·.t)).getD 0
def Uj (cs:List fL) (i:Nat):Int:=((cs[i]?).map (·.w)).getD 0
def klC (cs:List fL) (i:Nat):Int:=((cs[i]?).map (·.k)).getD 0
def FV (st:List Int) (i:Nat):Int:=(st[i]?).getD 0
theorem Sr {cs:List fL} {i:Nat} {x:fL} (h:cs[i]? = some x):Ii cs i=x.t:=by simp[Ii,h]
theorem adW {cs:List fL} {i:Nat} {x:fL} (h:cs[i]? = some x):Uj cs i=x.w:=by simp[Uj,h]
theorem YL {st:List Int} {i:Nat} {x:Int} (h:st[i]? = some x):FV st i=x:=by simp[FV,h]
def inS (cs:List fL) (st:List Int) (t:Int) (i:Nat):Bool:=decide (0≤FV st i)&&decide (FV st i≤t)&&decide (t<FV st i+Uj cs i)
def bz (cs:List fL) (st:List Int) (t:Int):Nat:=(List.range cs.length).countP (inS cs st t)
def isW (cs:List fL) (st:List Int) (t:Int) (i:Nat):Bool:=decide (FV st i<0)&&decide (Ii cs i≤t)
def wt (cs:List fL) (st:List Int) (t:Int):List Nat:=(List.range cs.length).filter (isW cs st t)
def Iq (bK:Int) (cs:List fL) (i k:Nat):Bool :=
 if bK=1 then true else if bK=2 then decide (Uj cs i<Uj cs k) else if bK=3 then decide (klC cs i<klC cs k) else false
def zC (bK:Int) (cs:List fL) (b:Option Nat) (i:Nat):Option Nat:=match b with
 | none=>some i
 | some k=>if Iq bK cs i k then some i else some k
def ZR (bK:Int) (cs:List fL) (st:List Int) (t:Int):Option Nat:=(wt cs st t).foldl (zC bK cs) none
def fill (bK lK:Int) (cs:List fL) (t:Int):Nat→List Int→List Int
 | 0,st=>st
 |
  n+1,st=>if (bz cs st t:Int)<lK then (match ZR bK cs st t with
  | none=>st
  | some k=>fill bK lK cs t n (st.set k t)) else st
def full (bK lK:Int) (cs:List fL) (st:List Int) (t:Int):Prop:=lK≤(bz cs st t:Int)∨ZR bK cs st t=none
def runT (bK lK:Int) (cs:List fL):Int→Nat→List Int→List Int
 | _,0,st=>st
 | t,n+1,st=>runT bK lK cs (t+1) n (fill bK lK cs t cs.length st)
def stL (bK lK:Int) (cs:List fL):List Int:=runT bK lK cs 0 100000 (List.replicate cs.length (-1))
section
variable {bK lK:Int} {cs:List fL} {st:List Int} {t:Int}
theorem wI (h:full bK lK cs st t) (n:Nat):fill bK lK cs t n st=st:=by
 cases n with
 | zero=>rfl
 |
  succ n =>
  rw[fill]
  rcases h with h | h
  ·rw[if_neg (by omega)]
  ·split
   ·rw[h]
   ·rfl
theorem Lu (m:Nat):∀(t:Int) (n:Nat),(∀u,t≤u→u<t+m→full bK lK cs st u)→m≤n→runT bK lK cs t n st=runT bK lK cs (t+m) (n-m) st:=by
 induction m with
 | zero=>intro t n _ _;simp
 |
  succ m ih =>
  intro t n h hm
  obtain⟨n,rfl⟩:∃k,n=k+1:=⟨n-1,by omega⟩
  rw[runT,wI (h t (Int.le_refl _) (by omega)),ih (t+1) n (fun u h1 h2=>h u (by omega) (by omega)) (by omega)]
  congr 1
  ·omega
  ·omega
theorem Vq (n:Nat):∀(t:Int),(∀u,t≤u→full bK lK cs st u)→runT bK lK cs t n st=st:=by
 intro t h
 rw[Lu n t n (fun u h1 _=>h u h1) (Nat.le_refl _),Nat.sub_self]
 rfl
theorem TZ {a b:Int} (ha:0≤a) (Hi:a≤b) (hb:b≤100000) (h:∀u,a≤u→u<b→full bK lK cs st u):runT bK lK cs a (100000-a).toNat st=runT bK lK cs b (100000-b).toNat st:=by
 rw[Lu (b-a).toNat a _ (fun u h1 h2=>h u h1 (by omega)) (by omega)]
 congr 1
 ·omega
 ·omega
theorem Yc {a:Int} (ha:0≤a) (hb:a<100000):runT bK lK cs a (100000-a).toNat st=runT bK lK cs (a+1) (100000-(a+1)).toNat (fill bK lK cs a cs.length st):=by
 rw[show (100000-a).toNat=(100000-(a+1)).toNat+1 by omega,runT]
theorem Mo {ws:List Nat} {k:Nat}:∃j,(ws.foldl (zC bK cs) (some k))=some j∧(j=k∨j∈ws):=by
 induction ws generalizing k with
 | nil=>exact⟨k,rfl,.inl rfl⟩
 |
  cons i ws ih =>
  rw[List.foldl_cons]
  have:∃q,zC bK cs (some k) i=some q∧(q=k∨q=i):=by
   unfold zC
   simp only
   split
   ·exact⟨i,rfl,.inr rfl⟩
   ·exact⟨k,rfl,.inl rfl⟩
  obtain⟨q,hq,hqq⟩:=this
  rw[hq]
  obtain⟨j,h1,h2⟩:=ih (k:=q)
  refine⟨j,h1,?_⟩
  rcases h2 with rfl | h2
  ·rcases hqq with rfl | rfl
   ·exact .inl rfl
   ·exact .inr List.mem_cons_self
  ·exact .inr (List.mem_cons_of_mem _ h2)
theorem xD:ZR bK cs st t=none↔wt cs st t=[]:=by
 unfold ZR
 cases h:wt cs st t with
 | nil=>exact⟨fun _=>rfl,fun _=>rfl⟩
 |
  cons i ws =>
  refine⟨fun h2 => ?_,fun h2=>(by cases h2)⟩
  rw[List.foldl_cons] at h2
  obtain⟨j,h3,_⟩:=Mo (bK:=bK) (cs:=cs) (ws:=ws) (k:=i)
  rw[show zC bK cs none i=some i from rfl,h3] at h2
  cases h2
theorem Ns {k:Nat} (h:ZR bK cs st t=some k):k∈wt cs st t:=by
 unfold ZR at h
 cases hw:wt cs st t with
 | nil=>rw[hw] at h;cases h
 |
  cons i ws =>
  rw[hw,List.foldl_cons] at h
  obtain⟨j,h3,h4⟩:=Mo (bK:=bK) (cs:=cs) (ws:=ws) (k:=i)
  rw[show zC bK cs none i=some i from rfl,h3] at h
  injection h with h
  subst h
  rcases h4 with rfl | h4
  ·exact List.mem_cons_self
  ·exact List.mem_cons_of_mem _ h4
theorem G0 {k:Nat}:k∈wt cs st t↔k<cs.length∧FV st k<0∧Ii cs k≤t:=by
 simp[wt,isW]
theorem WK:(wt cs st t).Nodup:=List.Pairwise.filter _ List.nodup_range
theorem FW {k i:Nat} (hk:k<st.length):FV (st.set k t) i=if i=k then t else FV st i:=by
 unfold FV
 rw[List.getElem?_set]
 by_cases h:i=k
 ·subst h
  simp[hk]
 ·rw[if_neg (fun h'=>h h'.symm),if_neg h]
theorem Nf {p q:Nat→Bool} {k:Nat} (hp:p k=false) (h:∀i,i≠k→q i=p i):∀n,(List.range n).countP q=(List.range n).countP p+if k<n∧q k=true then 1 else 0:=by
 intro n
 induction n with
 | zero=>simp
 |
  succ n ih =>
  rw[List.range_succ,List.countP_append,List.countP_append,ih]
  by_cases hk:n=k
  ·subst hk
   simp only[List.countP_singleton,hp]
   cases hq:q n<;>simp
  ·rw[List.countP_singleton,List.countP_singleton,h n hk]
   have:(k<n+1∧q k=true)↔(k<n∧q k=true):=by
    constructor
    ·rintro⟨h1,h2⟩;exact⟨by omega,h2⟩
    ·rintro⟨h1,h2⟩;exact⟨by omega,h2⟩
   simp only[this]
   omega
theorem afN {k:Nat} {u:Int} (hk:k<cs.length) (hl:st.length=cs.length) (hs:FV st k<0) (h0:0≤t):bz cs (st.set k t) u=bz cs st u+if t≤u∧u<t+Uj cs k then 1 else 0:=by
 unfold bz
 rw[Nf (p:=inS cs st u) (q:=inS cs (st.set k t) u) (k:=k)]
 ·congr 1
  have:(k<cs.length∧inS cs (st.set k t) u k=true)↔(t≤u∧u<t+Uj cs k):=by
   simp only[inS,FW (t:=t) (i:=k) (by omega:k<st.length),if_true,Bool.and_eq_true,decide_eq_true_eq]
   constructor
   ·rintro⟨_,⟨_,h1⟩,h2⟩;exact⟨h1,h2⟩
   ·rintro⟨h1,h2⟩;exact⟨hk,⟨h0,h1⟩,h2⟩
  simp only[this]
 ·simp only[inS]
  rw[decide_eq_false (by omega)]
  rfl
 ·intro i hi
  simp only[inS,FW (t:=t) (i:=i) (by omega:k<st.length),if_neg hi]
theorem adI {k:Nat} {u:Int} (hl:st.length=cs.length) (hk:k<cs.length) (h0:0≤t):wt cs (st.set k t) u=(wt cs st u).filter (· != k):=by
 unfold wt
 rw[List.filter_filter]
 refine List.filter_congr fun i hi => ?_
 simp only[isW,FW (t:=t) (i:=i) (by omega:k<st.length)]
 by_cases h:i=k
 ·subst h
  simp
  omega
 ·simp[h]
def Eo (st:List Int):Nat:=st.countP (fun s=>decide (s<0))
theorem AK {k:Nat} (hk:k<st.length) (hs:FV st k<0) (h0:0≤t):Eo (st.set k t)+1=Eo st:=by
 unfold Eo
 rw[List.countP_set hk]
 have hx:st[k]=FV st k:=by
  rw[YL (x:=st[k]) (List.getElem?_eq_getElem hk)]
 have h1:decide (st[k]<0)=true:=by rw[hx];exact decide_eq_true hs
 have h2:decide (t<0)=false:=decide_eq_false (by omega)
 have h3:0<st.countP (fun s=>decide (s<0)):=by
  rw[List.countP_pos_iff]
  exact⟨st[k],List.getElem_mem hk,h1⟩
 simp only[h1,h2,if_true,Bool.false_eq_true,if_false]
 omega
theorem Ve (hl:st.length=cs.length) (h0:0≤t):∀(n m:Nat),Eo st≤n→Eo st≤m→fill bK lK cs t n st=fill bK lK cs t m st:=by
 intro n
 induction n generalizing st with
 |
  zero =>
  intro m hn hm
  have hf:full bK lK cs st t:=by
   right
   rw[xD]
   cases hw:wt cs st t with
   | nil=>rfl
   |
    cons i ws =>
    have h1:i∈wt cs st t:=by rw[hw];exact List.mem_cons_self
    obtain⟨h2,h3,_⟩:=G0.1 h1
    have:=AK (t:=t) (by omega:i<st.length) h3 h0
    omega
  rw[wI hf,wI hf]
 |
  succ n ih =>
  intro m hn hm
  cases m with
  |
   zero =>
   have hf:full bK lK cs st t:=by
    right
    rw[xD]
    cases hw:wt cs st t with
    | nil=>rfl
    |
     cons i ws =>
     have h1:i∈wt cs st t:=by rw[hw];exact List.mem_cons_self
     obtain⟨h2,h3,_⟩:=G0.1 h1
     have:=AK (t:=t) (by omega:i<st.length) h3 h0
     omega
   rw[wI hf,wI hf]
  |
   succ m =>
   rw[fill,fill]
   split
   ·split
    ·rfl
    ·rename_i k hk
     obtain⟨h2,h3,_⟩:=G0.1 (Ns hk)
     have:=AK (t:=t) (by omega:k<st.length) h3 h0
     exact ih (by simp[hl]) m (by omega) (by omega)
   ·rfl
theorem SZ:Eo st≤st.length:=List.countP_le_length
theorem Un {k:Nat} (hl:st.length=cs.length) (h0:0≤t) (hb:(bz cs st t:Int)<lK) (hk:ZR bK cs st t=some k):fill bK lK cs t cs.length (st.set k t)=fill bK lK cs t cs.length st:=by
 obtain⟨h2,h3,_⟩:=G0.1 (Ns hk)
 have h4:=AK (t:=t) (by omega:k<st.length) h3 h0
 have h5:=SZ (st:=st)
 rw[Ve (st:=st) hl h0 cs.length (cs.length+1) (by omega) (by omega)]
 conv=>rhs;rw[fill,if_pos hb,hk]
def evT (cs:List fL) (st:List Int) (i:Nat):Int:=if 0≤FV st i then FV st i+Uj cs i else Ii cs i
def acV (cs:List fL) (st:List Int) (t:Int) (b:Int) (i:Nat):Int:=if t<evT cs st i∧(b<0∨evT cs st i<b) then evT cs st i else b
def later (cs:List fL) (st:List Int) (t:Int):Int:=(List.range cs.length).foldl (acV cs st t) (-1)
structure Way (cs:List fL) (st:List Int) (t:Int):Prop where
 len:st.length=cs.length
 low:∀i,i<cs.length → -1≤FV st i
 high:∀i,i<cs.length→FV st i≤t
 bd:∀i,i<cs.length→FV st i+1000*(Eo st:Int)≤10000+1000*(cs.length:Int)
 tm:0≤t∧t+1000*(Eo st:Int)≤11000+1000*(cs.length:Int)
theorem Way.set {k:Nat} (h:Way cs st t) (hk:k<cs.length) (hs:FV st k<0):Way cs (st.set k t) t:=by
 have hl:=h.len
 have VJ:=h.tm
 have h4:=AK (t:=t) (by omega:k<st.length) hs VJ.1
 refine⟨by simp[hl],fun i hi => ?_,fun i hi => ?_,fun i hi => ?_,VJ.1,by omega⟩
 all_goals rw[FW (by omega:k<st.length)]
 ·have:=h.low i hi
  split<;>omega
 ·have:=h.high i hi
  split<;>omega
 ·have:=h.bd i hi
  split<;>omega
theorem Way.le (h:Way cs st t) (hc:kA cs):t≤35000∧∀i,i<cs.length→FV st i≤34000:=by
 have hlen:=hc.2
 have VJ:=h.tm
 refine⟨by omega,fun i hi => ?_⟩
 have:=h.bd i hi
 omega
theorem kA.bnd (hc:kA cs) {i:Nat} (hi:i<cs.length):(0≤Ii cs i∧Ii cs i≤10000)∧(1≤Uj cs i∧Uj cs i≤1000):=by
 have hx:cs[i]? = some cs[i]:=List.getElem?_eq_getElem hi
 have:=hc.at hx
 rw[Sr hx,adW hx]
 exact⟨this.1,this.2.1⟩
def FB (bK:Int) (cs:List fL) (ws:List Nat):Nat :=
 if bK=1 then ws.length-1 else if bK=2∨bK=3 then (List.range ws.length).foldl (fun b k=>if Iq bK cs (ws.getD k 0) (ws.getD b 0) then k else b) 0 else 0
theorem Ss {ws:List Nat} {k:Nat} (h:∀i j,Iq bK cs i j=false):ws.foldl (zC bK cs) (some k)=some k:=by
 induction ws with
 | nil=>rfl
 |
  cons i ws ih =>
  rw[List.foldl_cons]
  have:zC bK cs (some k) i=some k:=by
   unfold zC
   simp only[h]
   rfl
  rw[this,ih]
theorem XD {ws:List Nat} (fQ:ws≠[]) (hr:0≤bK∧bK≤3):FB bK cs ws<ws.length∧ws[FB bK cs ws]? = ws.foldl (zC bK cs) none:=by
 have hlen:0<ws.length:=List.length_pos_iff.2 fQ
 unfold FB
 by_cases h1:bK=1
 ·rw[if_pos h1]
  rcases List.eq_nil_or_concat ws with rfl | ⟨xs,y,rfl⟩
  ·exact absurd rfl fQ
  ·rw[List.concat_eq_append,List.foldl_append]
   refine⟨by simp,?_⟩
   simp only[List.length_append,List.length_cons,List.length_nil,Nat.zero_add,Nat.add_sub_cancel,List.foldl_cons,List.foldl_nil]
   rw[List.getElem?_append_right (Nat.le_refl _),Nat.sub_self]
   unfold zC
   split
   ·rfl
   ·simp only[Iq,if_pos h1,if_true]
    rfl
 ·rw[if_neg h1]
  by_cases h2:bK=2∨bK=3
  ·rw[if_pos h2]
   have asL:∀i,Iq bK cs i i=false:=fun i=>by
    unfold Iq
    rw[if_neg h1]
    split
    ·exact decide_eq_false (by omega)
    ·split
     ·exact decide_eq_false (by omega)
     ·rfl
   have key:∀n,n<ws.length→(List.range (n+1)).foldl (fun b k=>if Iq bK cs (ws.getD k 0) (ws.getD b 0) then k else b) 0<ws.length ∧
     ws[(List.range (n+1)).foldl (fun b k=>if Iq bK cs (ws.getD k 0) (ws.getD b 0) then k else b) 0]? = (ws.take (n+1)).foldl (zC bK cs) none:=by
    intro n
    induction n with
    |
     zero =>
     intro _
     have:(List.range (0+1)).foldl (fun b k=>if Iq bK cs (ws.getD k 0) (ws.getD b 0) then k else b) 0=0:=by
      simp[List.range_succ,asL]
     rw[this]
     refine⟨hlen,?_⟩
     cases ws with
     | nil=>exact absurd rfl fQ
     | cons i ws=>rfl
    |
     succ n ih =>
     intro hn
     obtain⟨g1,g2⟩:=ih (by omega)
     rw[List.range_succ,List.foldl_append,List.foldl_cons,List.foldl_nil]
     generalize (List.range (n+1)).foldl (fun b k=>if Iq bK cs (ws.getD k 0) (ws.getD b 0) then k else b) 0=b at *
     obtain⟨x,hx⟩:∃x,ws[n+1]? = some x:=⟨_,List.getElem?_eq_getElem hn⟩
     obtain⟨y,hy⟩:∃y,ws[b]? = some y:=⟨_,List.getElem?_eq_getElem g1⟩
     rw[List.take_add_one,hx,List.foldl_append,←g2,hy]
     simp only[Option.toList_some,List.foldl_cons,List.foldl_nil,List.getD_eq_getElem?_getD,hx,hy,Option.getD_some,zC]
     split
     ·exact⟨hn,hx⟩
     ·exact⟨g1,hy⟩
   have:=key (ws.length-1) (by omega)
   rw[show ws.length-1+1=ws.length by omega,List.take_of_length_le (Nat.le_refl _)] at this
   exact this
  ·rw[if_neg h2]
   refine⟨hlen,?_⟩
   have hb:∀i j,Iq bK cs i j=false:=fun i j=>by
    unfold Iq
    rw[if_neg h1,if_neg (by omega),if_neg (by omega)]
   cases ws with
   | nil=>exact absurd rfl fQ
   |
    cons i ws =>
    rw[List.foldl_cons,show zC bK cs none i=some i from rfl,Ss hb]
    rfl
end
end Go.PM
namespace Go.PM
def JE (st:List Int) (i:Nat):Bool:=decide (FV st i<0)
def ZF (u e:Int):Bool:=decide (u<e)
section
variable {bK lK:Int} {cs:List fL} {st:List Int} {t:Int}
theorem kA.sorted (hc:kA cs):∀ {i j:Nat},i≤j→j<cs.length→Ii cs i≤Ii cs j:=by
 intro i j Pk hj
 induction j with
 |
  zero =>
  have:i=0:=by omega
  subst this
  exact Int.le_refl _
 |
  succ j ih =>
  rcases Nat.lt_or_ge i (j+1) with h | h
  ·have h1:=ih (by omega) (by omega)
   have hx:cs[j+1]? = some cs[j+1]:=List.getElem?_eq_getElem hj
   have hy:cs[j]? = some cs[j]:=List.getElem?_eq_getElem (by omega)
   have h2:=(hc.1 (j+1) _ hx).2 _ (by omega) (by rw[Nat.add_sub_cancel];exact hy)
   rw[Sr hx]
   rw[Sr hy] at h1
   omega
  ·have:i=j+1:=by omega
   subst this
   exact Int.le_refl _
theorem Dt {bM:Nat} (abZ:bM≤cs.length) (past:∀i,i<bM→Ii cs i≤t) (Y7:∀i,bM≤i→i<cs.length→t<Ii cs i):wt cs st t=(List.range bM).filter (JE st):=by
 unfold wt
 rw[show cs.length=bM+(cs.length-bM) by omega,List.range_add,List.filter_append]
 have h1:(List.range bM).filter (isW cs st t)=(List.range bM).filter (JE st):=by
  refine List.filter_congr fun i hi => ?_
  rw[List.mem_range] at hi
  simp[isW,JE,past i hi]
 have h2:((List.range (cs.length-bM)).map fun x=>bM+x).filter (isW cs st t)=[]:=by
  rw[List.filter_eq_nil_iff]
  intro i hi
  obtain⟨j,hj,rfl⟩:=List.mem_map.1 hi
  rw[List.mem_range] at hj
  have:=Y7 (bM+j) (by omega) (by omega)
  simp only[isW,Bool.and_eq_true,decide_eq_true_eq]
  omega
 rw[h1,h2,List.append_nil]
structure Il (bK lK:Int) (cs:List fL) (st:List Int) (t:Int) (bM:Nat) (ws:List Nat) (ends:List Int):Prop where
 len:st.length=cs.length
 low:∀i,i<cs.length → -1≤FV st i
 high:∀i,i<cs.length→FV st i≤t
 bd:∀i,i<cs.length→FV st i+1000*(Eo st:Int)≤10000+1000*(cs.length:Int)
 tm : -1≤t
 KN:bM≤cs.length
 past:∀i,i<bM→Ii cs i≤t
 Y7:∀i,bM≤i→i<cs.length→t<Ii cs i∧FV st i<0
 UP:ws=wt cs st t
 cnt:∀u,t≤u→ends.countP (ZF u)=bz cs st u
 ef:∀e∈ends,t<e
 eb:∀e∈ends,e+1000*(Eo st:Int)≤11000+1000*(cs.length:Int)
 fl:full bK lK cs st t
 room:ws.length+ends.length≤bM
 es:(ends.length:Int)≤lK
 run:runT bK lK cs (t+1) (100000-(t+1)).toNat st=stL bK lK cs
theorem FR {n i:Nat} (h:i<n):FV (List.replicate n (-1)) i = -1:=YL (by rw[List.getElem?_replicate,if_pos h])
theorem Il.start (hc:kA cs) (hs:1≤lK):Il bK lK cs (List.replicate cs.length (-1)) (-1) 0 [] []:=by
 have hw:wt cs (List.replicate cs.length (-1)) (-1)=[]:=by
  rw[Dt (Nat.zero_le _) (fun i hi=>by omega) fun i _ hi=>by have:=hc.bnd hi;omega]
  rfl
 have hu:Eo (List.replicate cs.length (-1))=cs.length:=by simp[Eo,List.countP_replicate]
 refine⟨by simp,fun i hi=>by rw[FR hi];decide,fun i hi=>by rw[FR hi];decide,fun i hi=>by rw[FR hi,hu];omega,by decide,Nat.zero_le _,fun i hi=>by omega,fun i _ hi=>⟨by have:=hc.bnd hi;omega,by rw[FR hi];decide⟩,hw.symm,fun u _ => ?_,fun e he=>(by cases he),fun e he=>(by cases he),.inr (xD.2 hw),Nat.le_refl _,by simp;omega,rfl⟩
 unfold bz
 rw[(List.countP_eq_zero (p:=inS cs (List.replicate cs.length (-1)) u)).2]
 ·rfl
 ·intro i hi
  rw[List.mem_range] at hi
  simp only[inS,FR hi,Bool.and_eq_true,decide_eq_true_eq]
  omega
def N5 (w:Bool) (b e:Int):Int:=if b<0∨(w=true∧e<b) then e else b
theorem aeY {es:List Int} {b:Int} (h:0≤b):es.foldl (N5 false) b=b:=by
 induction es with
 | nil=>rfl
 |
  cons e es ih =>
  rw[List.foldl_cons]
  have:N5 false b e=b:=by
   unfold N5
   rw[if_neg (by simp;omega)]
  rw[this,ih]
theorem abX:∀ {es:List Int} {b:Int},(∀e∈es,0≤e)→(es.foldl (N5 true) b=b∨es.foldl (N5 true) b∈es)∧(∀e∈es,es.foldl (N5 true) b≤e)∧(0≤b→es.foldl (N5 true) b≤b)∧(es≠[]→0≤es.foldl (N5 true) b)
 | [],b,_=>⟨.inl rfl,fun e he=>(by cases he),fun _=>Int.le_refl _,fun h=>absurd rfl h⟩
 |
  e::es,b,h=>by
  rw[List.foldl_cons]
  have h1:=h e List.mem_cons_self
  have h2:∀e'∈es,0≤e':=fun e' he=>h e' (List.mem_cons_of_mem _ he)
  have hm:(N5 true b e=b∨N5 true b e=e)∧N5 true b e≤e∧(0≤b→N5 true b e≤b)∧0≤N5 true b e:=by
   unfold N5
   by_cases hc:b<0∨(true=true∧e<b)
   ·rw[if_pos hc]
    refine⟨.inr rfl,Int.le_refl _,fun hb => ?_,h1⟩
    rcases hc with hc | hc<;>omega
   ·rw[if_neg hc]
    simp at hc
    exact⟨.inl rfl,hc.2,fun _=>Int.le_refl _,hc.1⟩
  obtain⟨m1,m2,m3,m4⟩:=hm
  obtain⟨g1,g2,g3,g4⟩:=abX (es:=es) (b:=N5 true b e) h2
  have g3:=g3 m4
  refine⟨?_,?_,fun hb=>by have:=m3 hb;omega,fun _ => ?_⟩
  ·rcases g1 with g1 | g1
   ·rw[g1]
    rcases m1 with m1 | m1
    ·exact .inl m1
    ·rw[m1];exact .inr List.mem_cons_self
   ·exact .inr (List.mem_cons_of_mem _ g1)
  ·intro e' he
   rcases List.mem_cons.1 he with rfl | he
   ·omega
   ·exact g2 e' he
  ·rcases g1 with g1 | g1
   ·rw[g1];exact m4
   ·exact h2 _ g1
def MM (cs:List fL) (bM:Nat):Int:=if bM<cs.length then Ii cs bM else -1
def Fk (cs:List fL) (bM:Nat) (ws:List Nat) (ends:List Int):Int:=ends.foldl (N5 (decide (0<ws.length))) (MM cs bM)
theorem Il.YU {bM:Nat} {ws:List Nat} {ends:List Int} (h:Il bK lK cs st t bM ws ends):ends.length=bz cs st t:=by
 rw[←h.cnt t (Int.le_refl _),List.countP_eq_length.2]
 intro e he
 exact decide_eq_true (h.ef e he)
theorem Il.time {bM:Nat} {ws:List Nat} {ends:List Int} (h:Il bK lK cs st t bM ws ends) (hc:kA cs) (hs:1≤lK) (hg:bM<cs.length∨0<ws.length) :
  (t<Fk cs bM ws ends∧Fk cs bM ws ends+1000*(Eo st:Int)≤11000+1000*(cs.length:Int))∧(∀i,bM≤i→i<cs.length→Fk cs bM ws ends≤Ii cs i) ∧
   (bM<cs.length∧Ii cs bM=Fk cs bM ws ends∨0<ws.length∧Fk cs bM ws ends∈ends)∧runT bK lK cs (Fk cs bM ws ends) (100000-Fk cs bM ws ends).toNat st=stL bK lK cs:=by
 have VJ:=h.tm
 have N3:=SZ (st:=st)
 have hlen:=h.len
 have he0:∀e∈ends,0≤e:=fun e he=>by have:=h.ef e he;omega
 have apX:=hc.2
 by_cases hw:0<ws.length
 ·have hbz:lK≤(bz cs st t:Int):=by
   rcases h.fl with hf | hf
   ·exact hf
   ·rw[xD,←h.UP] at hf
    rw[hf] at hw
    simp at hw
  have fQ:ends≠[]:=by
   intro he
   have:=h.YU
   rw[he] at this
   simp at this
   omega
  obtain⟨g1,g2,g3,g4⟩:=abX (es:=ends) (b:=MM cs bM) he0
  have T5:Fk cs bM ws ends=ends.foldl (N5 true) (MM cs bM):=by unfold Fk;rw[decide_eq_true hw]
  rw[T5]
  generalize ends.foldl (N5 true) (MM cs bM)=w at *
  have g4:=g4 fQ
  have JH:(bM<cs.length∧Ii cs bM=w)∨w∈ends:=by
   rcases g1 with g1 | g1
   ·unfold MM at g1
    split at g1
    ·rename_i kU
     exact .inl ⟨kU,g1.symm⟩
    ·omega
   ·exact .inr g1
  have htw:t<w∧w+1000*(Eo st:Int)≤11000+1000*(cs.length:Int):=by
   rcases JH with⟨h1,h2⟩ | h1
   ·have:=h.Y7 bM (Nat.le_refl _) h1
    have:=hc.bnd h1
    omega
   ·exact⟨h.ef _ h1,h.eb _ h1⟩
  refine⟨htw,fun i h1 h2 => ?_,JH.imp id fun h1=>⟨hw,h1⟩,?_⟩
  ·have h3:=hc.sorted h1 h2
   have h4:=hc.bnd (i:=bM) (by omega)
   have h5:MM cs bM=Ii cs bM:=by unfold MM;rw[if_pos (by omega)]
   have:=g3 (by rw[h5];omega)
   omega
  ·rw[←h.run]
   refine(TZ (by omega) (by omega) (by omega) fun u h1 h2 => .inl ?_).symm
   rw[←h.cnt u (by omega),(List.countP_eq_length (p:=ZF u)).2 fun e he=>decide_eq_true (by have:=g2 e he;omega),h.YU]
   exact hbz
 ·have kU:bM<cs.length:=by omega
  have h5:MM cs bM=Ii cs bM:=by unfold MM;rw[if_pos kU]
  have h4:=hc.bnd kU
  have hf:=(h.Y7 bM (Nat.le_refl _) kU).1
  have T5:Fk cs bM ws ends=Ii cs bM:=by unfold Fk;rw[decide_eq_false hw,aeY (by rw[h5];omega),h5]
  rw[T5]
  refine⟨⟨hf,by omega⟩,fun i h1 h2=>hc.sorted h1 h2,.inl ⟨kU,rfl⟩,?_⟩
  rw[←h.run]
  refine(TZ (by omega) (by omega) (by omega) fun u h1 h2 => .inr ?_).symm
  rw[xD,Dt h.KN (fun i hi=>by have:=h.past i hi;omega) fun i h3 h4=>by have:=hc.sorted h3 h4;omega]
  have e1:=Dt (st:=st) h.KN h.past fun i h3 h4=>(h.Y7 i h3 h4).1
  rw[←e1,←h.UP]
  exact List.eq_nil_of_length_eq_zero (by omega)
theorem Il.done {bM:Nat} {ws:List Nat} {ends:List Int} (h:Il bK lK cs st t bM ws ends) (abZ:¬bM<cs.length) (hw:¬0<ws.length):st=stL bK lK cs:=by
 rw[←h.run]
 refine(Vq _ _ fun u hu => .inr ?_).symm
 have kU:=h.KN
 have e1:=Dt (st:=st) h.KN h.past fun i h3 h4=>(h.Y7 i h3 h4).1
 rw[xD,Dt h.KN (fun i hi=>by have:=h.past i hi;omega) fun i h3 h4=>by omega,←e1,←h.UP]
 exact List.eq_nil_of_length_eq_zero (by omega)
structure Ph4 (bK lK:Int) (cs:List fL) (ET:List Int) (now:Int) (bM Y3:Nat) (st:List Int) (ws:List Nat) (ends:List Int):Prop where
 U0:Way cs st now
 UP:ws=wt cs st now
 cnt:∀u,now≤u→ends.countP (ZF u)=bz cs st u
 ef:∀e∈ends,now<e
 eb:∀e∈ends,e+1000*(Eo st:Int)≤11000+1000*(cs.length:Int)
 fl:fill bK lK cs now cs.length st=fill bK lK cs now cs.length ET
 past:∀i,i<bM→Ii cs i≤now
 Y7:∀i,bM≤i→i<cs.length→now<Ii cs i∧FV st i<0
 Y3:ws.length+ends.length=Y3
 es:(ends.length:Int)≤lK
theorem BQ:∀ {l:List Nat} {i k:Nat},l.Nodup→l[i]? = some k→l.eraseIdx i=l.filter (· != k)
 | [],_,_,_,h=>by cases h
 |
  x::l,0,k,hn,h=>by
  injection h with h
  subst h
  rw[List.nodup_cons] at hn
  rw[List.eraseIdx_cons_zero,List.filter_cons_of_neg (by simp),List.filter_eq_self.2]
  intro y hy
  have:y≠x:=fun he=>hn.1 (he▸hy)
  simpa using this
 |
  x::l,i+1,k,hn,h=>by
  rw[List.nodup_cons] at hn
  rw[List.getElem?_cons_succ] at h
  have hx:x≠k:=fun he=>hn.1 (he▸List.mem_of_getElem? h)
  rw[List.eraseIdx_cons_succ,List.filter_cons_of_pos (by simpa using hx),BQ hn.2 h]
theorem Ph4.step {now:Int} {ET:List Int} {bM Y3:Nat} {ws:List Nat} {ends:List Int} (h:Ph4 bK lK cs ET now bM Y3 st ws ends) (hc:kA cs) (hr:0≤bK∧bK≤3) (hb:(ends.length:Int)<lK) (fQ:0<ws.length) :
  ∃k,ws[FB bK cs ws]? = some k∧k<cs.length∧FB bK cs ws<ws.length∧(0≤now∧now≤35000)∧Ph4 bK lK cs ET now bM Y3 (st.set k now) (ws.eraseIdx (FB bK cs ws)) (ends++[now+Uj cs k]):=by
 have Vu:ws≠[]:=fun he=>by rw[he] at fQ;simp at fQ
 obtain⟨g1,g2⟩:=XD (cs:=cs) Vu hr
 obtain⟨k,hk⟩:∃k,ws[FB bK cs ws]? = some k:=⟨_,List.getElem?_eq_getElem g1⟩
 have hnx:ZR bK cs st now=some k:=by
  unfold ZR
  rw[←h.UP,←g2,hk]
 obtain⟨m1,m2,m3⟩:=G0.1 (Ns hnx)
 have VJ:=h.U0.tm
 have hle:=(h.U0.le hc).1
 have hbz:(bz cs st now:Int)=ends.length:=by
  rw[←h.cnt now (Int.le_refl _),(List.countP_eq_length (p:=ZF now)).2 fun e he=>decide_eq_true (h.ef e he)]
 have Nx:k<st.length:=by rw[h.U0.len];exact m1
 have hus:=AK (t:=now) Nx m2 VJ.1
 have hwk:=(hc.bnd m1).2
 refine⟨k,hk,m1,g1,⟨VJ.1,hle⟩,h.U0.set m1 m2,?_,?_,?_,?_,?_,h.past,?_,?_,?_⟩
 ·rw[adI h.U0.len m1 VJ.1,←h.UP]
  exact BQ (by rw[h.UP];exact WK) hk
 ·intro u hu
  rw[List.countP_append,h.cnt u hu,afN m1 h.U0.len m2 VJ.1,List.countP_singleton]
  congr 1
  simp only[ZF,decide_eq_true_eq]
  by_cases hq:u<now+Uj cs k
  ·rw[if_pos hq,if_pos ⟨hu,hq⟩]
  ·rw[if_neg hq,if_neg fun h'=>hq h'.2]
 ·intro e he
  rcases List.mem_append.1 he with he | he
  ·exact h.ef e he
  ·rw[List.mem_singleton] at he
   omega
 ·intro e he
  rcases List.mem_append.1 he with he | he
  ·have:=h.eb e he
   omega
  ·rw[List.mem_singleton] at he
   omega
 ·rw[Un h.U0.len VJ.1 (by rw[hbz];exact hb) hnx,h.fl]
 ·intro i h1 h2
  have h3:=h.Y7 i h1 h2
  refine⟨h3.1,?_⟩
  rw[FW Nx,if_neg (fun he=>by subst he;omega)]
  exact h3.2
 ·rw[List.length_eraseIdx_of_lt g1,List.length_append,List.length_cons,List.length_nil]
  have:=h.Y3
  omega
 ·rw[List.length_append,List.length_cons,List.length_nil]
  omega
theorem Ph4.done {now:Int} {ET:List Int} {bM Y3:Nat} {ws:List Nat} {ends:List Int} (h:Ph4 bK lK cs ET now bM Y3 st ws ends) (hc:kA cs) (kU:bM≤cs.length) (ht:Y3≤bM) (hf:lK≤(ends.length:Int)∨ws=[])
  (hr:runT bK lK cs now (100000-now).toNat ET=stL bK lK cs):Il bK lK cs st now bM ws ends:=by
 have VJ:=h.U0.tm
 have hle:=(h.U0.le hc).1
 have hbz:(bz cs st now:Int)=ends.length:=by
  rw[←h.cnt now (Int.le_refl _),(List.countP_eq_length (p:=ZF now)).2 fun e he=>decide_eq_true (h.ef e he)]
 have acN:full bK lK cs st now:=by
  rcases hf with hf | hf
  ·exact .inl (by rw[hbz];exact hf)
  ·exact .inr (xD.2 (by rw[←h.UP];exact hf))
 refine⟨h.U0.len,h.U0.low,h.U0.high,h.U0.bd,by omega,kU,h.past,h.Y7,h.UP,h.cnt,h.ef,h.eb,acN,by rw[h.Y3];exact ht,h.es,?_⟩
 have h1:=wI acN cs.length
 rw[h.fl] at h1
 rw[Yc VJ.1 (by omega),h1] at hr
 exact hr
end
end Go.PM
namespace Go.PM
end Go.PM
namespace Go.PM
section
variable {α:Type} {f:α→VV} {H:aA} {b g e lo:Nat} {X Y:List α}
end
end Go.PM
namespace Go.PM
def pO:aF:=(LS [LO 1 (.box (LT 0)),LO 2 (.mv LF)] (LS [LO 6 (LK 1),LO 7 (.call 81 [(LT 6)]),LM 5 7,LO 8 (LX 5 0),LO 9 (LX 5 1),LO 3 (.new [(.slice none 0 0),(.slice none 0 0),(.slice none 0 0)]),LN (.store 3 (LT 3) (LT 8)),LM 4 9] (LS [LM 10 4,LM 2 10] .ret)))
def sU:aY:=⟨11,[(.tmp 2)],pO⟩
theorem DE:jE 18=some sU:=by kernel_rfl
def eK:aF:=(LS [LO 68 (.bin .lss (LT 67) (LT 66))] (.seq (.cond (LT 68) .skip (.exit 0)) (.seq (.block 1 (LS [LM 69 67,LO 70 (.iaddr 1 (LT 65) (LT 67)),LO 71 (LL 70),LM 10 69,LM 11 71] (LS [LM 73 11,LO 74 (.call 145 [(LT 73)]),LM 72 74,LO 75 (LX 72 0),LO 76 (LX 72 1),LM 12 75,LM 13 76] (.seq (LS [LM 77 13,LO 78 (.un .not (LT 77)),LM 79 78,LZ 79 80 (.mv (LT 12)),LZ 79 81 (.len (LT 80)),LZ 79 82 (.mv (LT 4)),LZ 79 83 (.bin .neq (LT 81) (LT 82)),LO 84 (.pick (LT 79) LG (LT 83)),LM 85 84,LZ 85 86 (.mv (LT 12)),LZ 85 87 (.call 146 [(LT 86),(.func 147)]),LO 88 (.pick (LT 85) LG (LT 87)),LM 89 88,LZ 89 90 (.mv (LT 12)),LZ 89 91 (.mv (LT 10)),LZ 89 92 (.iaddr 3 (LT 90) (LT 91)),LZ 89 93 (LK 92),LZ 89 94 (.call 104 [(LT 93)]),LZ 89 95 (.bin .neq (LT 94) (LI 0)),LO 96 (.pick (LT 89) LG (LT 95))] (.cond (LT 96) (LS [LO 97 (.build [(.slice none 0 0),(.slice none 0 0),(.slice none 0 0)] [(0,1),(1,1),(2,1)] []),LN (.store 3 (LT 2) (LT 97)),LO 3 (.mv LF)] .ret) .skip)) (.eT [LO 98 (LA 1 9),LO 99 (LL 98),LM 100 12,LO 101 (.lit [(.slice none 0 0)] 1 [(0,(LT 100))]),LO 102 (.app 1 24 (LT 99) (LT 101)),LO 103 (LA 1 9),LN (.store 1 (LT 103) (LT 102))]))))) (.eT [LO 104 (.bin .add (LT 67) (LI 1)),LM 67 104]))))
def dE:aF:=(LS [LO 1 (.box (LT 0)),LO 2 (.new [(.slice none 0 0),(.slice none 0 0),(.slice none 0 0)]),LO 3 (.mv LF)] (LS [LO 14 (LA 0 1),LO 15 (LL 14),LO 16 (.len (LT 15)),LM 4 16] (.seq (LS [LM 17 4,LO 18 (.bin .lss (LT 17) (LI 1)),LM 19 18,LZ 19 20 (.mv (LT 4)),LZ 19 21 (.bin .gtr (LT 20) (LI 6)),LO 22 (.pick (LT 19) LG (LT 21)),LM 23 22,LZ 23 24 (LA 1 1),LZ 23 25 (LL 24),LZ 23 26 (.len (LT 25)),LZ 23 27 (.mv (LT 4)),LZ 23 28 (.bin .neq (LT 26) (LT 27)),LO 29 (.pick (LT 23) LG (LT 28)),LM 30 29,LZ 30 31 (LA 2 1),LZ 30 32 (LL 31),LZ 30 33 (.len (LT 32)),LZ 30 34 (.mv (LT 4)),LZ 30 35 (.bin .neq (LT 33) (LT 34)),LO 36 (.pick (LT 30) LG (LT 35))] (.cond (LT 36) (LS [LO 37 (.build [(.slice none 0 0),(.slice none 0 0),(.slice none 0 0)] [(0,1),(1,1),(2,1)] []),LN (.store 3 (LT 2) (LT 37)),LO 3 (.mv LF)] .ret) .skip)) (LS [LO 39 (LA 0 1),LO 40 (LL 39),LO 41 (.call 114 [(LT 40)]),LM 38 41,LO 42 (LX 38 0),LO 43 (LX 38 1),LM 5 42,LM 6 43] (LS [LO 45 (LA 2 1),LO 46 (LL 45),LO 47 (.call 145 [(LT 46)]),LM 44 47,LO 48 (LX 44 0),LO 49 (LX 44 1),LM 7 48,LM 8 49] (.seq (LS [LM 50 6,LO 51 (.un .not (LT 50)),LM 52 51,LZ 52 53 (.mv (LT 8)),LZ 52 54 (.un .not (LT 53)),LO 55 (.pick (LT 52) LG (LT 54)),LM 56 55,LZ 56 57 (.mv (LT 7)),LZ 56 58 (.call 146 [(LT 57),(.func 147)]),LO 59 (.pick (LT 56) LG (LT 58))] (.cond (LT 59) (LS [LO 60 (.build [(.slice none 0 0),(.slice none 0 0),(.slice none 0 0)] [(0,1),(1,1),(2,1)] []),LN (.store 3 (LT 2) (LT 60)),LO 3 (.mv LF)] .ret) .skip)) (LS [LM 61 5,LM 62 7,LO 63 (.build [(.slice none 0 0),(.slice none 0 0),(.slice none 0 0)] [(0,1),(1,1),(2,1)] [(0,(LT 61)),(2,(LT 62))]),LO 9 (.new [(.slice none 0 0),(.slice none 0 0),(.slice none 0 0)]),LN (.store 3 (LT 9) (LT 63))] (.seq (LS [LO 64 (LA 1 1),LO 65 (LL 64),LO 66 (.len (LT 65)),LO 67 (.mv (LI 0))] (.block 0 (.loop eK))) (LS [LO 105 (LK 9),LO 106 (LA 1 9),LO 107 (LL 106),LM 108 7,LQ 109 (.call 160 [(LT 107),(LT 108)]),LQ 110 (.call 159 [(LT 109),LF]),LO 111 (.un .not (LT 110)),LN (.store 3 (LT 2) (LT 105)),LM 3 111] .ret)))))))))
def eU:aY:=⟨112,[(.cell 2 true 3),(.tmp 3)],dE⟩
theorem Hj:jE 81=some eU:=by kernel_rfl
def kY:aF:=(LS [LO 42 (.bin .lss (LT 41) (LT 40))] (.seq (.cond (LT 42) .skip (.exit 4)) (.seq (.block 5 (LS [LM 43 41,LO 44 (.iaddr 3 (LT 39) (LT 41)),LO 45 (LK 44),LO 8 (.new [(.bool false),(.slice none 0 0),(.slice none 0 0)]),LM 7 43,LN (.store 3 (LT 8) (LT 45))] (.eT [LM 46 5,LM 47 6,LM 48 5,LM 49 6,LO 50 (.iaddr 1 (LT 48) (LT 49)),LO 51 (LL 50),LM 52 51,LZ 52 53 (LK 8),LZ 52 54 (.call 104 [(LT 53)]),LZ 52 55 (.bin .gtr (LT 54) (LI 0)),LZ 52 56 (.mv (LT 55)),LY 56 57 (.mv (LT 5)),LY 56 58 (.mv (LT 7)),LY 56 59 (.iaddr 1 (LT 57) (LT 58)),LY 56 60 (LL 59),LZ 52 61 (.pick (LT 56) (LT 60) LF),LO 62 (.pick (LT 52) LG (LT 61)),LO 63 (.iaddr 1 (LT 46) (LT 47)),LN (.store 1 (LT 63) (LT 62))]))) (.eT [LO 64 (.bin .add (LT 41) (LI 1)),LM 41 64]))))
def nF:aF:=(LS [LO 19 (.bin .lss (LT 18) (LT 17))] (.seq (.cond (LT 19) .skip (.exit 2)) (.seq (.block 3 (LS [LM 20 18,LM 6 20] (LS [LM 21 5,LM 22 6,LM 23 5,LM 24 6,LO 25 (.iaddr 1 (LT 23) (LT 24)),LO 26 (LL 25),LM 27 26,LZ 27 28 (.mv (LT 1)),LZ 27 29 (.mv (LT 6)),LZ 27 30 (.iaddr 3 (LT 28) (LT 29)),LZ 27 31 (LK 30),LZ 27 32 (.call 104 [(LT 31)]),LZ 27 33 (.bin .gtr (LT 32) (LI 0)),LO 34 (.pick (LT 27) LG (LT 33)),LO 35 (.iaddr 1 (LT 21) (LT 22)),LN (.store 1 (LT 35) (LT 34))] (LS [LM 36 0,LM 37 6,LO 38 (.iaddr 1 (LT 36) (LT 37)),LO 39 (LL 38),LO 40 (.len (LT 39)),LO 41 (.mv (LI 0))] (.block 4 (.loop kY)))))) (.eT [LO 65 (.bin .add (LT 18) (LI 1)),LM 18 65]))))
def zV:aF:=(LS [LO 15 (.bin .lss (LT 14) (LT 13))] (.seq (.cond (LT 15) .skip (.exit 0)) (.seq (.block 1 (LS [LM 16 1,LO 17 (.len (LT 16)),LO 18 (.mv (LI 0))] (.block 2 (.loop nF)))) (.eT [LO 66 (.bin .add (LT 14) (LI 1)),LM 14 66]))))
def Fu:aF:=(LS [LO 4 (.mv (.const (.slice none 0 0)))] (LS [LM 9 1,LO 10 (.len (LT 9)),LO 11 (.make [(.bool false)] 1 (LT 10) (LT 10)),LM 5 11] (.seq (LS [LM 12 1,LO 13 (.len (LT 12)),LO 14 (.mv (LI 0))] (.block 0 (.loop zV))) (LS [LM 67 5,LM 4 67] .ret))))
def JY:aY:=⟨68,[(.tmp 4)],Fu⟩
theorem NT:jE 160=some JY:=by kernel_rfl
end Go.PM
namespace Go.PM
open Go.Lib
def JU {α:Type} (f:α→VV) (e:Nat) (bJ:List α) (lo hi:Nat) (H:aA) (v:VV):Prop :=
 ∃b g c,lo≤b∧b<hi∧v = .ref b g 0 bJ.length c∧bJ.length≤c∧aK H b g=some (bJ.map f,e,true)
def TabIs {α:Type} (f:α→VV) (e:Nat) (m:List (List α)) (lo hi:Nat) (H:aA) (v:VV):Prop :=
 ∃b g c rs,v = .ref b g 0 m.length c∧m.length≤c∧MG f e lo hi b g H rs∧rs.map (·.xs)=m
theorem JU.rd {α:Type} {f:α→VV} {e lo hi:Nat} {bJ:List α} {H:aA} {v:VV} (h:JU f e bJ lo hi H v):Rd f e bJ H v:=by
 obtain⟨b,g,c,h1,h2,rfl,h3,h4⟩:=h
 exact Rd.row h4 rfl
end Go.PM
namespace Go.PM
def JB (s:Ag) (left:Int):Int:=if DY s.b left<0 then -1 else if CB s.g (DY s.b left)<0 then -1 else if DY s.e (CB s.g (DY s.b left))<0 then -1 else DY s.e (CB s.g (DY s.b left))
theorem aaF {s:Ag} {l:Int} (h:0≤JB s l):JB s l≤l∧(s.b.length:Int)≤l∧(s.g.length:Int)≤l∧(∀x∈s.g,(x.length:Int)≤l)∧(s.e.length:Int)≤l:=by
 unfold JB at h ⊢
 split at h
 ·omega
 rename_i h0
 split at h
 ·omega
 rename_i h1
 split at h
 ·omega
 rename_i h2
 rw[if_neg h0,if_neg h1,if_neg h2]
 have b0:=Ej (xs:=s.b) (l:=l) (by omega)
 have b1:=NU (xs:=s.g) (l:=DY s.b l) (by omega)
 have b2:=Ej (xs:=s.e) (l:=CB s.g (DY s.b l)) (by omega)
 exact⟨by omega,b0.2.1,by omega,fun x hx=>by have:=(b1.2.2 x hx).1;omega,by omega⟩
theorem Tu {lo:Nat} {s:Ag} {bare:Bool} {H:aA} {K:VV→aA→Prop} (hb:s.b.length≤1000000000) (hg:s.g.length≤1000000000∧∀x∈s.g,x.length≤1000000000) (he:s.e.length≤1000000000)
  (hk:∀c H',H <+: H'→sD H.length H' bare s c→K c H'):cW 17 [sZ s,.sc (.bool bare)] lo H K:=by
 refine(G1 s bare hb hg he).call rfl (mapM_pure (n:=7) (by simp only[aN,qH,Bool.true_and];rfl)) ?_
 intro r L h
 exact hk r _ (List.prefix_append _ _) (h.cZ fun b g x hb h=>Gv (Nat.le_of_lt hb) h)
theorem apL {n lo:Nat} {s:Ag} {bare:Bool} {H:aA} {c:VV} (hc:sD n H bare s c) (iD:lo≤H.length):cD lo 3 (.ptr H.length 0 0 0) c (H++[.row 0 [.agg [.tree [] .nil,.tree [] .nil,.tree [] .nil]] 3 true])=some (H++[.row 0 [c] 3 true]):=by
 obtain⟨c0,c1,c2,rfl,h0,h1,h2⟩:=hc
 rw[dI (e:=3) (g:=0) (lo:=lo) (v := .agg [c0,c1,c2]) (j:=0) AA (by decide) iD rfl (by simp[aB,h0.cell.2.1,h1.cell.2,h2.cell.2.1]),I1]
 rfl
theorem ld3 {n b:Nat} {s:Ag} {bare:Bool} {H H':aA} {c:VV} (hc:sD n H bare s c) (h:aK H' b 0=some ([c],3,true)):cU true 3 (.ptr b 0 0 0) H'=some c:=by
 obtain⟨c0,c1,c2,rfl,_⟩:=hc
 rw[fI,h]
 rfl
theorem rG {s:Ag}:dR true 3 (sZ s) 0=some (sZ s):=rfl
theorem mK {s:Ag}:(aB (sZ s)).all bU=true:=rfl
structure Po (s:Ag):Prop where
 b4:s.b.length≤400000000
 e4:s.e.length≤400000000
 g4:s.g.length≤400000000∧∀x∈s.g,x.length≤400000000
 bs:∀x∈s.b,x.size≤1000000000
 es:∀x∈s.e,x.size≤1000000000
 gs:∀x∈s.g,∀y∈x,y.size≤1000000000
theorem Po.g9 {s:Ag} (h:Po s):s.g.length≤1000000000∧∀x∈s.g,x.length≤1000000000:=⟨by have:=h.g4.1;omega,fun x hx=>by have:=h.g4.2 x hx;omega⟩
theorem Zh {s:Ag} {l:Int} (h:JB s l<0):JB s l = -1:=by
 unfold JB at h ⊢
 split
 ·rfl
 rename_i h0
 rw[if_neg h0] at h
 split
 ·rfl
 rename_i h1
 rw[if_neg h1] at h
 split
 ·rfl
 rename_i h2
 rw[if_neg h2] at h
 omega
theorem ZA {s:Ag} {l:Int} (h:0≤JB s l) (hl:l≤1000000):JB s l≤l∧Po s:=by
 have hle:=aaF h
 unfold JB at h
 split at h
 ·omega
 rename_i h0
 split at h
 ·omega
 rename_i h1
 split at h
 ·omega
 rename_i h2
 have b0:=Ej (xs:=s.b) (l:=l) (by omega)
 have b1:=NU (xs:=s.g) (l:=DY s.b l) (by omega)
 have b2:=Ej (xs:=s.e) (l:=CB s.g (DY s.b l)) (by omega)
 exact⟨hle.1,by omega,by omega,⟨by omega,fun x hx=>by have:=(b1.2.2 x hx).1;omega⟩,fun x hx=>by have:=b0.2.2 x hx;omega,fun x hx=>by have:=b2.2.2 x hx;omega,fun x hx y hy=>by have:=(b1.2.2 x hx).2 y hy;omega⟩
end Go.PM
namespace Go.PM
section
variable {β:Type}
end
theorem Vn.cell {α:Type} {f:α→VV} {e lo hi:Nat} {H:aA} {v:VV} {bJ:List α} (h:Vn f e bJ lo hi H v):bU v=true:=by
 rcases h with⟨rfl,rfl⟩ | ⟨b,g,c,h1,h2,rfl,h3⟩<;>rfl
theorem RG.cell {α:Type} {f:α→VV} {e lo hi:Nat} {H:aA} {v:VV} {bJ:List (List α)} (h:RG f e bJ lo hi H v):bU v=true:=by
 rcases h with⟨rfl,rfl⟩ | ⟨b,g,c,rs,h1,h2,rfl,h3⟩<;>rfl
end Go.PM
namespace Go.PM
open Go.Lib
section
variable {α:Type} {f:α→VV} {e:Nat}
def Wd (f:α→VV) (e:Nat) (bJ:List (List α)) (lo hi:Nat) (H:aA) (v:VV):Prop :=
 (v = .tree [] .nil∧bJ=[])∨∃b g rs,lo≤b∧b<hi∧v = .ref b g 0 bJ.length bJ.length∧aK H b g=some (rs.map KM,1,true)∧rs.map (·.xs)=bJ∧TB f e lo hi b H rs
theorem Wd.rg {bJ:List (List α)} {lo hi:Nat} {H:aA} {v:VV} (h:Wd f e bJ lo hi H v):RG f e bJ lo hi H v:=by
 rcases h with h | ⟨b,g,rs,h1,h2,h3,h5,h6,h7⟩
 ·exact .inl h
 ·exact .inr ⟨b,g,_,rs,h1,h2,h3,Nat.le_refl _,h5,h6,h7⟩
theorem Wd.cZ {bJ:List (List α)} {lo hi:Nat} {H H':aA} {v:VV} (h:Wd f e bJ lo hi H v) (hk:lA lo hi H H'):Wd f e bJ lo hi H' v:=by
 rcases h with h | ⟨b,g,rs,h1,h2,h3,h5,h6,h7⟩
 ·exact .inl h
 ·exact .inr ⟨b,g,rs,h1,h2,h3,hk _ _ _ h1 h2 h5,h6,h7.nd,fun r hr=>by
   obtain⟨k1,k2,k3,k4,k5⟩:=h7.row r hr
   exact⟨k1,k2,k3,k4,hk _ _ _ k1 k2 k5⟩⟩
theorem Wd.gO {bJ:List (List α)} {lo hi:Nat} {H:aA} {v:VV} (h:Wd f e bJ lo hi H v):bU v=true∧aB v=[v]∧isAny v=false:=by
 rcases h with⟨rfl,rfl⟩ | ⟨b,g,rs,h1,h2,rfl,h3⟩<;>exact⟨rfl,rfl,rfl⟩
theorem Wd.aeF {bJ:List (List α)} {lo hi:Nat} {H:aA} {v:VV} (h:Wd f e bJ lo hi H v):pX v H=some (VI bJ.length):=by
 rcases h with⟨rfl,rfl⟩ | ⟨b,g,rs,h1,h2,rfl,h5,h6,h7⟩
 ·rfl
 ·exact eV h5
end
def LsO {α:Type} (f:α→VV) (e:Nat) (o:Option (List α)) (lo hi:Nat) (H:aA) (v:VV):Prop:=match o with
 | none=>v = .tree [] .nil
 | some ys=>JU f e ys lo hi H v
theorem JU.cZ {α:Type} {f:α→VV} {e:Nat} {ys:List α}:∀ {lo hi H H' v},JU f e ys lo hi H v→lA lo hi H H'→JU f e ys lo hi H' v:=by
 rintro lo hi H H' v ⟨b,g,c,h1,h2,h3,h4,h5⟩ hk
 exact⟨b,g,c,h1,h2,h3,h4,hk _ _ _ h1 h2 h5⟩
theorem LsO.cZ {α:Type} {f:α→VV} {e:Nat} {o:Option (List α)}:∀ {lo hi H H' v},LsO f e o lo hi H v→lA lo hi H H'→LsO f e o lo hi H' v:=by
 intro lo hi H H' v h hk
 cases o with
 | none=>exact h
 | some ys=>exact JU.cZ h hk
end Go.PM
namespace Go.PM
open Go.Lib
def orJ (row:List Rat) (i:Nat) (st:List Bool) (j:Nat):List Bool:=st.set i (st.getD i false||(decide (0<row.getD j 0)&&st.getD j false))
def M8 (row:List Rat) (i:Nat) (st:List Bool) (m:Nat):List Bool:=(List.range m).foldl (orJ row i) st
def J4 (g:List (List Rat)) (e:List Rat) (n:Nat) (st:List Bool) (i:Nat):List Bool:=M8 (g.getD i []) i (st.set i (st.getD i false||decide (0<e.getD i 0))) n
def kG (g:List (List Rat)) (e:List Rat) (n:Nat) (st:List Bool) (m:Nat):List Bool:=(List.range m).foldl (J4 g e n) st
def pW (g:List (List Rat)) (e:List Rat) (n m:Nat):List Bool:=(List.range m).foldl (fun st _=>kG g e n st n) (List.replicate n false)
theorem rC {α:Type} {f:α→Nat→α} {s:α} {j:Nat}:(List.range (j+1)).foldl f s=f ((List.range j).foldl f s) j:=by rw[List.range_succ,List.foldl_append];rfl
theorem FI {f:List Bool→Nat→List Bool} (hf:∀st j,(f st j).length=st.length) {st:List Bool}:∀m,((List.range m).foldl f st).length=st.length
 | 0=>rfl
 | m+1=>by rw[rC,hf,FI hf m]
theorem aaO (row:List Rat) (i:Nat) (st:List Bool) (j:Nat):(orJ row i st j).length=st.length:=List.length_set ..
theorem Nt (row:List Rat) (i:Nat) (st:List Bool) (m:Nat):(M8 row i st m).length=st.length:=FI (aaO row i) m
theorem VG (g:List (List Rat)) (e:List Rat) (n:Nat) (st:List Bool) (i:Nat):(J4 g e n st i).length=st.length:=by rw[J4,Nt,List.length_set]
theorem EM (g:List (List Rat)) (e:List Rat) (n:Nat) (st:List Bool) (m:Nat):(kG g e n st m).length=st.length:=FI (VG g e n) m
theorem Ep (g:List (List Rat)) (e:List Rat) (n m:Nat):(pW g e n m).length=n:=by
 rw[pW,FI (fun st _=>EM g e n st n),List.length_replicate]
abbrev qI (st:List Bool):eR := .row 0 (st.map fun b=>VB b) 1 true
theorem tT {st:List Bool} {i n:Nat} (hi:i<n) (K:aA):bF 1 (.ref 0 0 0 n n) (VI i) (qI st::K)=some (.ptr 0 0 i 0):=by
 have:=aV (b:=0) (g:=0) (o:=0) (n:=n) (c:=n) (k := .i64) (i:=i) (H:=qI st::K) aR hi
 rwa [Nat.zero_add] at this
theorem tJ {st:List Bool} {i:Nat} (hi:i<st.length) (K:aA):cU false 1 (.ptr 0 0 i 0) (qI st::K)=some (VB (st.getD i false)):=by
 have hx:st[i]? = some st[i]:=List.getElem?_eq_getElem hi
 rw[tG (f:=fun b=>VB b) aR hx,List.getD_eq_getElem?_getD,hx]
 rfl
theorem Bx {st:List Bool} {i:Nat} (hi:i<st.length) (v:Bool) (K:aA):cD 0 1 (.ptr 0 0 i 0) (VB v) (qI st::K)=some (qI (st.set i v)::K):=by
 rw[gU (f:=fun b=>VB b) (e:=1) (x:=v) aR hi (Nat.zero_le _) rfl rfl,List.set_cons_zero]
theorem Eg {R:eR} {q:Rat}:cD 0 3 (.ptr 1 0 0 0) (aO q) [R,cell0]=some [R,.row 0 [aO q] 3 true]:=by simp only[aI,dL,dQ,bB,aZ,aQ,iH,Nat.reduceLeDiff,Nat.reduceLT,Nat.reduceSub,oU,VX,Nat.reduceEqDiff,Nat.reduceAdd,Nat.reduceLeDiff,Nat.reduceLT,Nat.reduceSub]
theorem L4 {R:eR} {q:Rat}:cU true 3 (.ptr 1 0 0 0) [R,.row 0 [aO q] 3 true]=some (aO q):=by simp only[aI,dL,dQ,bB,aZ,aQ,iH,Nat.reduceLeDiff,Nat.reduceLT,Nat.reduceSub,oU,VX,Nat.reduceEqDiff,Nat.reduceAdd,Nat.reduceLeDiff,Nat.reduceLT,Nat.reduceSub]
section
variable {g:List (List Rat)} {e row:List Rat} {n i:Nat} {st:List Bool}
set_option maxHeartbeats 2000000 in
theorem RF (hn:n≤1000000) (hi:i<n) (uU:st.length=n) (nA:row.length=n) {r:Int} {ρ:cG} {Q:VQ} (g0:ρ 0=aC (aC aO) g) (g1:ρ 1=aC aO e) (g5:ρ 5 = .ref 0 0 0 n n) (g6:ρ 6=VI i) (g13:ρ 13=VI n) (g14:ρ 14=VI r) (g17:ρ 17=VI n) (g18:ρ 18=VI i) (g39:ρ 39=aC aO row) (Zg:ρ 40=VI n) (g41:ρ 41=VI 0)
  (hQ:∀aM,aM 0=aC (aC aO) g→aM 1=aC aO e→aM 5 = .ref 0 0 0 n n→aM 13=VI n→aM 14=VI r→aM 17=VI n→aM 18=VI i→Q .normal aM [qI (M8 row i st n)]) :
  VW ⟨true,false⟩ 0 (.loop kY) (pP 4 Q) ρ [qI st]:=by
 refine KA (fun(j:Nat) aM H=>j≤n∧H=[qI (M8 row i st j)]∧aM 0=aC (aC aO) g∧aM 1=aC aO e∧aM 5 = .ref 0 0 0 n n∧aM 6=VI i∧aM 13=VI n∧aM 14=VI r∧aM 17=VI n∧aM 18=VI i∧aM 39=aC aO row∧aM 40=VI n∧aM 41=VI j) (fun j=>n-j) 0 ⟨Nat.zero_le _,rfl,g0,g1,g5,g6,g13,g14,g17,g18,g39,Zg,g41⟩ ?_
 clear g0 g1 g5 g6 g13 g14 g17 g18 g39 Zg g41
 rintro j aM H ⟨hj,rfl,g0,g1,g5,g6,g13,g14,g17,g18,g39,Zg,g41⟩
 have hl:(M8 row i st j).length=n:=by rw[Nt,uU]
 have zH:M8 row i st (j+1)=orJ row i (M8 row i st j) j:=rC
 generalize hs:M8 row i st j=s at *
 by_cases cB:(j:Int)<(n:Int)
 ·have Tj:j<n:=by omega
  obtain⟨q,hq⟩:∃q,row[j]? = some q:=⟨_,List.getElem?_eq_getElem (by omega)⟩
  have e1:=fun H=>aG (f:=aO) (t := .op) (H:=H) (size:=3) (k := .i64) hq rfl
  have wi:IntKind.i64.wrap ((j:Int)+1)=((j+1:Nat):Int):=wrapN (j+1) (by omega) (by omega)
  have e2:=gN q
  have a1:=fun K=>tT (st:=s) (n:=n) hi K
  have a2:=fun K=>tJ (st:=s) (i:=i) (by omega) K
  have a3:=fun K=>tT (st:=s) (n:=n) Tj K
  have a4:=fun K=>tJ (st:=s) (i:=j) (by omega) K
  have a5:=fun v K=>Bx (st:=s) (i:=i) (by omega) v K
  have mZ:∀v:Bool,v=(s.getD i false||(decide (0<q)&&s.getD j false))→M8 row i st (j+1)=s.set i v:=by
   intro v hv
   rw[zH,orJ,hv,List.getD_eq_getElem?_getD (l:=row),hq,Option.getD_some]
  have post:∀(v:Bool) (pM:cG),v=(s.getD i false||(decide (0<q)&&s.getD j false))→pM 0=aC (aC aO) g→pM 1=aC aO e→pM 5 = .ref 0 0 0 n n→pM 6=VI i→pM 13=VI n→pM 14=VI r→pM 17=VI n→pM 18=VI i→pM 39=aC aO row→pM 40=VI n→pM 41=VI ((j+1:Nat):Int) →
    ∃s',n-s'<n-j∧lQ 1 [qI (s.set i v)]=true∧s'≤n∧[qI (s.set i v)]=[qI (M8 row i st s')]∧nG 1 pM 0=aC (aC aO) g∧nG 1 pM 1=aC aO e∧nG 1 pM 5 = .ref 0 0 0 n n∧nG 1 pM 6=VI i∧nG 1 pM 13=VI n∧nG 1 pM 14=VI r∧nG 1 pM 17=VI n∧nG 1 pM 18=VI i∧nG 1 pM 39=aC aO row∧nG 1 pM 40=VI n∧nG 1 pM 41=VI s':=by
   intro v pM hv k0 k1 k5 k6 zK AM EI QP k39 k40 k41
   refine⟨j+1,by omega,by rw[Ao (mA _ (dZ fun _=>rfl)),G8],by omega,by rw[mZ v hv],?_⟩
   simp only[gT,k0,k1,k5,k6,zK,AM,EI,QP,k39,k40,k41,wS (JN _),wS (gE _),KG,wL (Nat.lt_succ_self 0),and_self]
  cases RI:s.getD i false with
  |
   true =>
   rw[RI] at a2 post
   simp only[kY,g5,g6,g39,Zg,g41,cB,e1,wi,a1,a2,a5,Eg,dQ,VX,Nat.reduceEqDiff,Nat.reduceAdd,rE,oC,List.length_cons,List.length_nil]
   refine post true _ (by simp) ?_ ?_ ?_ ?_ ?_ ?_ ?_ ?_ ?_ ?_ ?_
   all_goals first | exact g0 | exact g1 | exact g5 | exact g6 | exact g13 | exact g14 | exact g17 | exact g18 | exact g39 | exact Zg | rfl
  |
   false =>
   rw[RI] at a2 post
   by_cases hp:0<jO q
   ·have Af:0<q:=Dj.1 hp
    simp only[kY,g5,g6,g39,Zg,g41,cB,e1,e2,wi,a1,a2,a3,a4,a5,hp,Eg,L4,dQ,VX,Nat.reduceEqDiff,Nat.reduceAdd,rE,oC,List.length_cons,List.length_nil]
    refine post (s.getD j false) _ (by simp[Af]) ?_ ?_ ?_ ?_ ?_ ?_ ?_ ?_ ?_ ?_ ?_
    all_goals first | exact g0 | exact g1 | exact g5 | exact g6 | exact g13 | exact g14 | exact g17 | exact g18 | exact g39 | exact Zg | rfl
   ·have Af:¬0<q:=mt Dj.2 hp
    simp only[kY,g5,g6,g39,Zg,g41,cB,e1,e2,wi,a1,a2,a5,hp,Eg,L4,dQ,VX,Nat.reduceEqDiff,Nat.reduceAdd,rE,oC,List.length_cons,List.length_nil]
    refine post false _ (by simp[Af]) ?_ ?_ ?_ ?_ ?_ ?_ ?_ ?_ ?_ ?_ ?_
    all_goals first | exact g0 | exact g1 | exact g5 | exact g6 | exact g13 | exact g14 | exact g17 | exact g18 | exact g39 | exact Zg | rfl
 ·have hje:j=n:=by omega
  subst hje
  subst hs
  simp only[kY,Zg,g41,cB,oU,VX,Nat.reduceEqDiff,Nat.reduceAdd,Nat.reduceLeDiff,Nat.reduceLT,Nat.reduceSub]
  refine hQ _ ?_ ?_ ?_ ?_ ?_ ?_ ?_<;>first | exact g0 | exact g1 | exact g5 | exact g13 | exact g14 | exact g17 | exact g18 | rfl
set_option maxHeartbeats 2000000 in
theorem R2 (hn:n≤1000000) (uU:st.length=n) (hg:g.length=n) (Xb:∀w∈g,w.length=n) (he:e.length=n) {r:Int} {ρ:cG} {Q:VQ} (g0:ρ 0=aC (aC aO) g) (g1:ρ 1=aC aO e) (g5:ρ 5 = .ref 0 0 0 n n) (g13:ρ 13=VI n) (g14:ρ 14=VI r) (g17:ρ 17=VI n) (g18:ρ 18=VI 0)
  (hQ:∀aM,aM 0=aC (aC aO) g→aM 1=aC aO e→aM 5 = .ref 0 0 0 n n→aM 13=VI n→aM 14=VI r→Q .normal aM [qI (kG g e n st n)]) :
  VW ⟨true,false⟩ 0 (.loop nF) (pP 2 Q) ρ [qI st]:=by
 refine aW (fun(i:Nat) aM H=>i≤n∧H=[qI (kG g e n st i)]∧aM 0=aC (aC aO) g∧aM 1=aC aO e∧aM 5 = .ref 0 0 0 n n∧aM 13=VI n∧aM 14=VI r∧aM 17=VI n∧aM 18=VI i) (fun i=>n-i) 0 ⟨Nat.zero_le _,rfl,g0,g1,g5,g13,g14,g17,g18⟩ ?_
 clear g0 g1 g5 g13 g14 g17 g18
 rintro i aM H ⟨hi,rfl,g0,g1,g5,g13,g14,g17,g18⟩
 have hl:(kG g e n st i).length=n:=by rw[EM,uU]
 have zH:kG g e n st (i+1)=J4 g e n (kG g e n st i) i:=rC
 generalize hs:kG g e n st i=s at *
 by_cases cB:(i:Int)<(n:Int)
 ·have Tj:i<n:=by omega
  obtain⟨q,hq⟩:∃q,e[i]? = some q:=⟨_,List.getElem?_eq_getElem (by omega)⟩
  obtain⟨row,hr⟩:∃row,g[i]? = some row:=⟨_,List.getElem?_eq_getElem (by omega)⟩
  have D4:=Xb row (List.mem_of_getElem? hr)
  have e1:=fun H=>aG (f:=aO) (t := .op) (H:=H) (size:=3) (k := .i64) hq rfl
  have e3:=fun H=>aG (f:=aC aO) (t := .op) (H:=H) (size:=1) (k := .i64) hr rfl
  have wi:IntKind.i64.wrap ((i:Int)+1)=((i+1:Nat):Int):=wrapN (i+1) (by omega) (by omega)
  have e2:=gN q
  have a1:=fun K=>tT (st:=s) (n:=n) Tj K
  have a2:=fun K=>tJ (st:=s) (i:=i) (by omega) K
  have a5:=fun v K=>Bx (st:=s) (i:=i) (by omega) v K
  have mZ:∀v:Bool,v=(s.getD i false||decide (0<q))→kG g e n st (i+1)=M8 row i (s.set i v) n:=by
   intro v hv
   rw[zH,J4,hv,List.getD_eq_getElem?_getD (l:=g),hr,Option.getD_some,List.getD_eq_getElem?_getD (l:=e),hq,Option.getD_some]
  have post:∀(v:Bool) (pM:cG),v=(s.getD i false||decide (0<q))→pM 0=aC (aC aO) g→pM 1=aC aO e→pM 5 = .ref 0 0 0 n n→pM 6=VI i→pM 13=VI n→pM 14=VI r→pM 17=VI n→pM 18=VI i→pM 39=aC aO row→pM 40=VI n→pM 41=VI 0 →
    ∀(Q':VQ),(∀sS,sS 0=aC (aC aO) g→sS 1=aC aO e→sS 5 = .ref 0 0 0 n n→sS 13=VI n→sS 14=VI r→sS 17=VI n→sS 18=VI i→Q' .normal sS [qI (kG g e n st (i+1))])→VW ⟨true,false⟩ 0 (.loop kY) (pP 4 Q') pM [qI (s.set i v)]:=by
   intro v pM hv k0 k1 k5 k6 zK AM EI QP k39 k40 k41 Q' hQ'
   refine RF hn Tj (by rw[List.length_set,hl]) D4 k0 k1 k5 k6 zK AM EI QP k39 k40 k41 fun sS m0 m1 m5 m13 m14 m17 m18 => ?_
   rw[←mZ v hv]
   exact hQ' sS m0 m1 m5 m13 m14 m17 m18
  have fin:∀(sS:cG),sS 0=aC (aC aO) g→sS 1=aC aO e→sS 5 = .ref 0 0 0 n n→sS 13=VI n→sS 14=VI r→sS 17=VI n→sS 18=VI ((i+1:Nat):Int)→∃s',n-s'<n-i∧s'≤n∧[qI (kG g e n st (i+1))]=[qI (kG g e n st s')]∧sS 0=aC (aC aO) g∧sS 1=aC aO e∧sS 5 = .ref 0 0 0 n n∧sS 13=VI n∧sS 14=VI r∧sS 17=VI n∧sS 18=VI s' :=
   fun sS m0 m1 m5 m13 m14 m17 m18=>⟨i+1,by omega,by omega,rfl,m0,m1,m5,m13,m14,m17,m18⟩
  have agJ:((row.length:Nat):Int)=(n:Int):=by omega
  cases RI:s.getD i false with
  |
   true =>
   rw[RI] at a2 post
   simp only[nF,g0,g1,g5,g17,g18,cB,e1,e3,a1,a2,a5,agJ,oU,VX,Nat.reduceEqDiff,Nat.reduceAdd,Nat.reduceLeDiff,Nat.reduceLT,Nat.reduceSub]
   refine post true _ (by simp) ?_ ?_ ?_ ?_ ?_ ?_ ?_ ?_ ?_ ?_ ?_ _ fun sS m0 m1 m5 m13 m14 m17 m18 => ?_
   all_goals first | exact g0 | exact g1 | exact g5 | exact g13 | exact g14 | exact g17 | exact g18 | rfl | skip
   simp only[m18,wi,oU,VX,Nat.reduceEqDiff,Nat.reduceAdd,Nat.reduceLeDiff,Nat.reduceLT,Nat.reduceSub]
   exact⟨i+1,by omega,by omega,by (repeat' apply And.intro)<;>first | rfl | trivial | assumption⟩
  |
   false =>
   rw[RI] at a2 post
   by_cases hp:0<jO q
   ·have Af:0<q:=Dj.1 hp
    simp only[nF,g0,g1,g5,g17,g18,cB,e1,e2,e3,a1,a2,a5,agJ,hp,dQ,oU,VX,Nat.reduceEqDiff,Nat.reduceAdd,Nat.reduceLeDiff,Nat.reduceLT,Nat.reduceSub]
    refine post true _ (by simp[Af]) ?_ ?_ ?_ ?_ ?_ ?_ ?_ ?_ ?_ ?_ ?_ _ fun sS m0 m1 m5 m13 m14 m17 m18 => ?_
    all_goals first | exact g0 | exact g1 | exact g5 | exact g13 | exact g14 | exact g17 | exact g18 | rfl | skip
    simp only[m18,wi,oU,VX,Nat.reduceEqDiff,Nat.reduceAdd,Nat.reduceLeDiff,Nat.reduceLT,Nat.reduceSub]
    exact⟨i+1,by omega,by omega,by (repeat' apply And.intro)<;>first | rfl | trivial | assumption⟩
   ·have Af:¬0<q:=mt Dj.2 hp
    simp only[nF,g0,g1,g5,g17,g18,cB,e1,e2,e3,a1,a2,a5,agJ,hp,dQ,oU,VX,Nat.reduceEqDiff,Nat.reduceAdd,Nat.reduceLeDiff,Nat.reduceLT,Nat.reduceSub]
    refine post false _ (by simp[Af]) ?_ ?_ ?_ ?_ ?_ ?_ ?_ ?_ ?_ ?_ ?_ _ fun sS m0 m1 m5 m13 m14 m17 m18 => ?_
    all_goals first | exact g0 | exact g1 | exact g5 | exact g13 | exact g14 | exact g17 | exact g18 | rfl | skip
    simp only[m18,wi,oU,VX,Nat.reduceEqDiff,Nat.reduceAdd,Nat.reduceLeDiff,Nat.reduceLT,Nat.reduceSub]
    exact⟨i+1,by omega,by omega,by (repeat' apply And.intro)<;>first | rfl | trivial | assumption⟩
 ·have pD:i=n:=by omega
  subst pD
  subst hs
  simp only[nF,g17,g18,cB,oU,VX,Nat.reduceEqDiff,Nat.reduceAdd,Nat.reduceLeDiff,Nat.reduceLT,Nat.reduceSub]
  refine hQ _ ?_ ?_ ?_ ?_ ?_<;>first | exact g0 | exact g1 | exact g5 | exact g13 | exact g14 | exact g17 | exact g18 | rfl
theorem HT (bs:List Bool):aP (aC (fun b=>VB b) bs)=true:=lJ (fun _=>rfl) fun _=>rfl
theorem Sa (bs:List Bool):gK (aC (fun b=>VB b) bs)=true:=uN (fun _=>rfl) (fun _=>rfl) fun _=>rfl
set_option maxHeartbeats 1000000 in
theorem Nv (hn:n≤1000000) (hg:g.length=n) (Xb:∀w∈g,w.length=n) (he:e.length=n):TC 160 [aC (aC aO) g,aC aO e] (aC (fun b=>VB b) (pW g e n n)):=by
 refine TC.walk ⟨true,false⟩ NT rfl (Nat.le_of_ble_eq_true rfl) (by simp only[aN,JN,gE];rfl) (Sa _) ?_
 have e0:∀H,yP [.bool false] 1 (VI n) (VI n) H=some (.ref H.length 0 0 n n,H++[qI (List.replicate n false)]):=fun H=>oW (f:=fun b=>VB b) rfl (by omega) (by omega)
 simp only[JY,Fu,he,e0,List.nil_append,List.length_nil,oU,VX,Nat.reduceEqDiff,Nat.reduceAdd,Nat.reduceLeDiff,Nat.reduceLT,Nat.reduceSub]
 refine aW (fun(i:Nat) aM H=>i≤n∧H=[qI (pW g e n i)]∧aM 0=aC (aC aO) g∧aM 1=aC aO e∧aM 5 = .ref 0 0 0 n n∧aM 13=VI n∧aM 14=VI i) (fun i=>n-i) 0 ⟨Nat.zero_le _,rfl,rfl,rfl,rfl,rfl,rfl⟩ ?_
 rintro i aM H ⟨hi,rfl,g0,g1,g5,g13,g14⟩
 have hl:=Ep g e n i
 have zH:pW g e n (i+1)=kG g e n (pW g e n i) n:=rC
 by_cases cB:(i:Int)<(n:Int)
 ·have wi:IntKind.i64.wrap ((i:Int)+1)=((i+1:Nat):Int):=wrapN (i+1) (by omega) (by omega)
  have he':((e.length:Nat):Int)=(n:Int):=by omega
  simp only[zV,g1,g13,g14,cB,he',oU,VX,Nat.reduceEqDiff,Nat.reduceAdd,Nat.reduceLeDiff,Nat.reduceLT,Nat.reduceSub]
  refine R2 (r:=(i:Int)) hn hl hg Xb he ?_ ?_ ?_ ?_ ?_ ?_ ?_ fun sS m0 m1 m5 m13 m14 => ?_
  all_goals first | exact g0 | exact g1 | exact g5 | exact g13 | exact g14 | rfl | skip
  simp only[m14,wi,oU,VX,Nat.reduceEqDiff,Nat.reduceAdd,Nat.reduceLeDiff,Nat.reduceLT,Nat.reduceSub]
  exact⟨i+1,by omega,by omega,by rw[zH],m0,m1,m5,m13,rfl⟩
 ·have pD:i=n:=by omega
  subst pD
  simp only[zV,g5,g13,g14,cB,oU,VX,Nat.reduceEqDiff,Nat.reduceAdd,Nat.reduceLeDiff,Nat.reduceLT,Nat.reduceSub]
  have:=NB (f:=fun b=>VB b) (e:=1) (b:=0) (g:=0) (c:=i) (xs:=pW g e i i) (H:=[qI (pW g e i i)]) (fun _=>rfl) (by rw[aR]) (by omega)
  rw[hl] at this
  exact this
end
end Go.PM
namespace Go.PM
end Go.PM
namespace Go.PM
end Go.PM
namespace Go.PM
open Go.Lib
theorem CG.own {n lo hi:Nat} {H:aA} {v:VV} {bJ:List (List ByteArray)} (h:CG bJ lo hi H v) (hn:n≤lo):∃c,v = .agg [c]∧bU c=true∧aB c=[c]∧jB n c=true:=by
 obtain⟨c,rfl,h | ⟨b,g,cc,rs,h1,h2,rfl,h3⟩⟩:=h
 ·obtain⟨rfl,_⟩:=h
  exact⟨_,rfl,rfl,rfl,rfl⟩
 ·exact⟨_,rfl,rfl,rfl,by simp[jB];omega⟩
theorem Hq.start {n:Nat} {H:aA}:Hq n H.length H:=fun b g es e w hb hr=>by
 rw[List.getElem?_eq_none hb] at hr
 cases hr
def AZ (f:Rat→VV) (b:List Rat) (g:List (List Rat)) (e:List Rat):VV := .agg [aC f b,aC (aC f) g,aC f e]
end Go.PM
namespace Go.PM
open Go.Lib
theorem HW (l:List UInt8) (a b:Nat):(⟨l.toArray⟩:ByteArray).extract a b=⟨((l.drop a).take (b-a)).toArray⟩:=by
 rw[ByteArray.ext_iff,ByteArray.data_extract]
 simp[List.extract_toArray,List.extract_eq_take_drop]
theorem Yw (l:List UInt8) {a b:Nat} (h:a≤b) (hb:b≤l.length):vQ (cN l) (some (VI (a:Int))) (some (VI (b:Int)))=some (cN ((l.drop a).take (b-a))):=by
 have hs:(⟨l.toArray⟩:ByteArray).size=l.length:=by simp[ByteArray.size]
 have e1:(0:Int)≤b∧(b:Int)≤(l.length:Int):=by omega
 have e2:(0:Int)≤a∧(a:Int)≤(b:Int):=by omega
 simp only[vQ,FH,zE,hs,eI,e1,e2,and_self,if_true,Int.toNat_natCast,HW]
theorem Uu (l:List UInt8) {a:Nat} (h:a≤l.length):vQ (cN l) (some (VI (a:Int))) none=some (cN (l.drop a)):=by
 have hs:(⟨l.toArray⟩:ByteArray).size=l.length:=by simp[ByteArray.size]
 have e2:(0:Int)≤a∧(a:Int)≤(l.length:Int):=by omega
 simp only[vQ,FH,zE,hs,eI,e2,and_self,if_true,Int.toNat_natCast,HW]
 rw[List.take_of_length_le (by simp)]
end Go.PM
namespace Go.PM
open Go.Lib
def gW (c:UInt8):List UInt8→List (List UInt8)
 | []=>[[]]
 |
  x::r=>if x=c then []::gW c r else match gW c r with
  | []=>[[x]]
  | a::t=>(x::a)::t
theorem JL {c:UInt8} {r:List UInt8}:∀ {a:List UInt8},c∉a→gW c (a++c::r)=a::gW c r:=by
 intro a
 induction a with
 | nil=>intro _;rw[List.nil_append,gW,if_pos rfl]
 |
  cons x a ih =>
  intro h
  rw[List.mem_cons,not_or] at h
  rw[List.cons_append,gW,if_neg (fun he=>h.1 he.symm),ih h.2]
theorem EN {c:UInt8}:∀ {a:List UInt8},c∉a→gW c a=[a]:=by
 intro a
 induction a with
 | nil=>intro _;rfl
 |
  cons x a ih =>
  intro h
  rw[List.mem_cons,not_or] at h
  rw[gW,if_neg (fun he=>h.1 he.symm),ih h.2]
theorem Rt {c:UInt8} (l:List UInt8):gW c l≠[]:=by
 cases l with
 | nil=>simp[gW]
 |
  cons x r =>
  rw[gW]
  split
  ·simp
  ·split<;>simp
theorem Pp {c:UInt8} {l:List UInt8} (h:(lX c l).2=none):gW c l=[l]:=EN (Ax h).2.2
theorem HZ {c:UInt8} {l r:List UInt8} (h:(lX c l).2=some r):gW c l=(lX c l).1::gW c r:=by
 obtain⟨_,h2,h3⟩:=G7 h
 have:=JL (r:=r) h3
 rw[←h2] at this
 exact this
theorem PD {c:UInt8} {l:List UInt8} (h:c∈l):2≤(gW c l).length:=by
 cases hc:(lX c l).2 with
 | none=>exact absurd h (Ax hc).2.2
 |
  some r =>
  rw[HZ hc,List.length_cons]
  have:=List.length_pos_iff.2 (Rt (c:=c) r)
  omega
theorem UD {l:List UInt8} {i:Nat} (h:i<l.length):(l.take (i+1)).all iJ=((l.take i).all iJ&&iJ (l.getD i 0)):=by
 rw[List.take_add_one,List.all_append]
 have:l[i]? = some (l.getD i 0):=by rw[List.getElem?_eq_getElem h,List.getD_eq_getElem?_getD,List.getElem?_eq_getElem h];rfl
 rw[this]
 simp
set_option maxHeartbeats 1000000 in
theorem pJ (l:List UInt8) (hl:l.length≤1000000000000):TC 223 [cN l] (VB (iC l)):=by
 refine TC.walk ⟨true,false⟩ Hb rfl (Nat.le_of_ble_eq_true rfl) rfl rfl ?_
 simp only[Cb,Aq,VX,Nat.reduceEqDiff,Nat.reduceAdd]
 refine aW (fun(i:Nat) ρ H=>i≤l.length∧H=[]∧(l.take i).all iJ=true∧ρ 0=cN l∧ρ 3=VI i) (fun i=>l.length-i) 0 ⟨Nat.zero_le _,rfl,rfl,rfl,rfl⟩ ?_
 rintro i ρ H ⟨hi,rfl,hd,g0,g3⟩
 by_cases cB:(i:Int)<(l.length:Int)
 ·have RH:i<l.length:=by omega
  have e1:=CD l RH
  have wi:IntKind.i64.wrap ((i:Int)+1)=((i+1:Nat):Int):=wrapN (i+1) (by omega) (by omega)
  have ht:=UD RH
  rw[hd,Bool.true_and] at ht
  have Sd:iJ (l.getD i 0)=(decide (48≤(l.getD i 0).toNat)&&decide ((l.getD i 0).toNat≤57)):=rfl
  have kW:iJ (l.getD i 0)=false→iC l=false:=by
   intro h
   rw[h] at ht
   have:l.all iJ=false:=by rw[←List.take_append_drop (i+1) l,List.all_append,ht,Bool.false_and]
   unfold iC
   rw[this]
   rfl
  generalize (l.getD i 0).toNat=c at *
  by_cases q1:(c:Int)<48
  ·rw[kW (by rw[Sd,decide_eq_false (by omega)];rfl)]
   simp only[dJ,g0,g3,bO,cB,e1,q1,VX,Nat.reduceEqDiff,Nat.reduceAdd]
   exact aJ rfl
  ·by_cases q2:(57:Int)<(c:Int)
   ·rw[kW (by rw[Sd,decide_eq_false (show ¬c≤57 by omega),Bool.and_false])]
    simp only[dJ,g0,g3,bO,cB,e1,q1,q2,VX,Nat.reduceEqDiff,Nat.reduceAdd]
    exact aJ rfl
   ·rw[Sd,decide_eq_true (by omega),decide_eq_true (by omega),Bool.and_self] at ht
    simp only[dJ,g0,g3,bO,cB,e1,q1,q2,wi,VX,Nat.reduceEqDiff,Nat.reduceAdd]
    exact⟨i+1,by omega,by omega,ht,rfl⟩
 ·have pD:i=l.length:=by omega
  subst pD
  rw[List.take_length] at hd
  by_cases h1:(1:Int)≤(l.length:Int)
  ·by_cases h2:(l.length:Int)≤200
   ·by_cases h3:(l.length:Int)=1
    ·rw[jQ.2 ⟨hd,by omega,by omega,.inl (by omega)⟩]
     simp only[dJ,g0,g3,bO,cB,ge_iff_le,h1,h2,h3,Int.reduceLE,Int.reduceLT,VX,Nat.reduceEqDiff,Nat.reduceAdd]
     exact aJ rfl
    ·have e1:=Hn l (by omega)
     by_cases h4:(((l.getD 0 0).toNat:Int)=48)
     ·have hk:iC l=false:=by
       cases h:iC l with
       | false=>rfl
       |
        true =>
        rcases(jQ.1 h).2.2.2 with h5 | h5
        ·omega
        ·exact absurd (UInt8.toNat_inj.1 (by rw[show (48:UInt8).toNat=48 from rfl];omega)) h5
      rw[hk]
      simp only[dJ,g0,g3,bO,cB,ge_iff_le,h1,h2,h3,h4,e1,VX,Nat.reduceEqDiff,Nat.reduceAdd]
      exact aJ rfl
     ·have h5:l.getD 0 0≠48:=fun h=>h4 (by rw[h];rfl)
      rw[jQ.2 ⟨hd,by omega,by omega,.inr h5⟩]
      simp only[dJ,g0,g3,bO,cB,ge_iff_le,h1,h2,h3,h4,e1,VX,Nat.reduceEqDiff,Nat.reduceAdd]
      exact aJ rfl
   ·have hk:iC l=false:=by
     cases h:iC l with
     | false=>rfl
     | true=>have:=(jQ.1 h).2.2.1;omega
    rw[hk]
    simp only[dJ,g0,g3,bO,cB,ge_iff_le,h1,h2,VX,Nat.reduceEqDiff,Nat.reduceAdd]
    exact aJ rfl
  ·have hk:iC l=false:=by
    cases h:iC l with
    | false=>rfl
    | true=>have:=(jQ.1 h).2.1;omega
   rw[hk]
   simp only[dJ,g0,g3,bO,cB,ge_iff_le,h1,VX,Nat.reduceEqDiff,Nat.reduceAdd]
   exact aJ rfl
set_option maxHeartbeats 1000000 in
theorem DS (l:List UInt8) (c:UInt8) (hl:l.length≤1000000000000):TC 222 [cN l,.sc (.int .u8 (c.toNat:Int))] (aC cN (gW c l)):=by
 refine TC.walk ⟨true,false⟩ K6 rfl (Nat.le_of_ble_eq_true rfl) rfl (uN (size:=1) (fun _=>rfl) (fun _=>rfl) fun _=>rfl) ?_
 have e3:∀lr,tY lr [.string ⟨#[]⟩] 0 [] []=some (.ref 0 0 0 0 0,[.row 0 (([]:List (List UInt8)).map cN) 1 true]):=fun lr=>vC (H:=[]) (lr:=lr) (z:=[.string ⟨#[]⟩]) rfl
 have e4:∀(x:List UInt8) (H:aA),tY false [.string ⟨#[]⟩] 1 [(0,cN x)] H=some (.tree [cN x] (.cl 1),H):=fun x H=>uM (z:=[.string ⟨#[]⟩]) rfl rfl rfl
 have e5:∀(x:List UInt8) (H:aA),fF 1 (.tree [cN x] (.cl 1)) H=some [cN x]:=fun x H=>oI rfl rfl
 simp only[HD,D2,e3,VX,Nat.reduceEqDiff,Nat.reduceAdd]
 refine aW (fun(s:List (List UInt8)×Nat×Nat) ρ H=>H=[.row s.1.length (s.1.map cN) 1 true]∧s.2.1≤s.2.2∧s.2.2≤l.length+1∧s.1.length≤s.2.1 ∧
  ((s.2.2≤l.length∧gW c l=s.1++gW c (l.drop s.2.1)∧c∉(l.drop s.2.1).take (s.2.2-s.2.1))∨(s.2.2=l.length+1∧gW c l=s.1)) ∧
  ρ 0=cN l∧ρ 1 = .sc (.int .u8 (c.toNat:Int))∧ρ 5 = .ref 0 s.1.length 0 s.1.length s.1.length∧ρ 6=VI s.2.1∧ρ 7=VI s.2.2) (fun s=>l.length+1-s.2.2) ([],0,0) ⟨rfl,Nat.zero_le _,Nat.zero_le _,Nat.zero_le _,.inl ⟨Nat.zero_le _,rfl,by simp⟩,rfl,rfl,rfl,rfl,rfl⟩ ?_
 rintro⟨out,fr,i⟩ ρ H ⟨rfl,hfi,hi,fU,uU,g0,g1,g5,g6,g7⟩
 simp only at hfi hi fU uU g5 g6 g7
 by_cases cB:(i:Int)≤(l.length:Int)
 ·have RH:i≤l.length:=by omega
  obtain⟨hp,hc⟩:gW c l=out++gW c (l.drop fr)∧c∉(l.drop fr).take (i-fr):=by
   rcases uU with⟨_,h1,h2⟩ | ⟨h,_⟩
   ·exact⟨h1,h2⟩
   ·omega
  have wi:IntKind.i64.wrap ((i:Int)+1)=((i+1:Nat):Int):=wrapN (i+1) (by omega) (by omega)
  have e2:=Yw l hfi RH
  have eP:=oG (f:=cN) (xs:=out) (x:=(l.drop fr).take (i-fr)) (lo:=0) (b:=0) (g:=out.length) (n:=out.length) (e:=1) (bytes:=16) (H:=[.row out.length (out.map cN) 1 true]) aR rfl (Nat.zero_le _) (by decide) (by decide) (by omega)
  have JM:([.row out.length (out.map cN) 1 true]:aA).set 0 (.row (out.length+1) ((out++[(l.drop fr).take (i-fr)]).map cN) 1 true)=[.row (out.length+1) ((out++[(l.drop fr).take (i-fr)]).map cN) 1 true]:=rfl
  rw[JM] at eP
  by_cases q1:i=l.length
  ·subst q1
   have WW:gW c l=out++[(l.drop fr).take (l.length-fr)]:=by
    rw[hp]
    have:(l.drop fr).take (l.length-fr)=l.drop fr:=List.take_of_length_le (by rw[List.length_drop];omega)
    rw[this] at hc ⊢
    rw[EN hc]
   simp only[oM,g0,g1,g5,g6,g7,bO,cB,eq_self,e2,e4,e5,eP,wi,VX,Nat.reduceEqDiff,Nat.reduceAdd]
   refine⟨(out++[(l.drop fr).take (l.length-fr)],l.length+1,l.length+1),by simp only;omega,?_,by simp only;omega,by simp only;omega,?_,.inr ⟨rfl,WW⟩,?_⟩
   ·simp
   ·simp only[List.length_append,List.length_cons,List.length_nil];omega
   ·simp
  ·have aaZ:i<l.length:=by omega
   have q1':¬(i:Int)=(l.length:Int):=by omega
   have e1:=CD l aaZ
   have UW:l.drop i=l.getD i 0::l.drop (i+1):=by rw[List.drop_eq_getElem_cons aaZ,List.getD_eq_getElem?_getD,List.getElem?_eq_getElem aaZ];rfl
   by_cases q2:l.getD i 0=c
   ·have q2':((l.getD i 0).toNat:Int)=(c.toNat:Int):=by rw[q2]
    have WW:gW c l=(out++[(l.drop fr).take (i-fr)])++gW c (l.drop (i+1)):=by
     have OW:l.drop fr=(l.drop fr).take (i-fr)++c::l.drop (i+1):=by
      have h1:(l.drop fr).drop (i-fr)=l.drop i:=by rw[List.drop_drop];congr 1;omega
      conv=>lhs;rw[←List.take_append_drop (i-fr) (l.drop fr),h1,UW,q2]
     rw[hp]
     conv=>lhs;rw[OW]
     rw[JL hc,List.append_assoc]
     rfl
    simp only[oM,g0,g1,g5,g6,g7,bO,cB,q1',e1,q2',eq_self,e2,e4,e5,eP,wi,VX,Nat.reduceEqDiff,Nat.reduceAdd]
    refine⟨(out++[(l.drop fr).take (i-fr)],i+1,i+1),by simp only;omega,?_,by simp only;omega,by simp only;omega,?_,.inl ⟨by simp only;omega,WW,by simp⟩,?_⟩
    ·simp
    ·simp only[List.length_append,List.length_cons,List.length_nil];omega
    ·simp
   ·have q2':¬((l.getD i 0).toNat:Int)=(c.toNat:Int):=fun h=>q2 (UInt8.toNat_inj.1 (by omega))
    simp only[oM,g0,g1,g5,g6,g7,bO,cB,q1',e1,q2',wi,VX,Nat.reduceEqDiff,Nat.reduceAdd]
    refine⟨(out,fr,i+1),by simp only;omega,rfl,by simp only;omega,by simp only;omega,fU,.inl ⟨by simp only;omega,hp,?_⟩,rfl,rfl,rfl⟩
    simp only
    rw[show i+1-fr=(i-fr)+1 by omega,List.take_add_one,List.mem_append,not_or]
    refine⟨hc,?_⟩
    have:(l.drop fr)[i-fr]? = some (l.getD i 0):=by
     rw[List.getElem?_drop,show fr+(i-fr)=i by omega,List.getD_eq_getElem?_getD,List.getElem?_eq_getElem aaZ]
     rfl
    rw[this]
    simp
    exact fun h=>q2 h.symm
 ·have WW:gW c l=out:=by
   rcases uU with⟨h,_⟩ | ⟨_,h⟩
   ·omega
   ·exact h
  rw[WW]
  simp only[oM,g0,g5,g7,bO,cB,VX,Nat.reduceEqDiff,Nat.reduceAdd]
  exact GR (es:=out.map cN) aR (by simp) (Nat.le_refl _) (dZ fun _=>rfl)
theorem YN {l:List UInt8} (h:l.all iJ=true) {i:Nat} (hi:i<l.length):48≤(l.getD i 0).toNat∧(l.getD i 0).toNat≤57:=by
 have:=List.all_eq_true.1 h (l.getD i 0) (by rw[List.getD_eq_getElem?_getD,List.getElem?_eq_getElem hi];exact List.getElem_mem hi)
 simpa[iJ] using this
theorem Ja {l:List UInt8} (hd:l.all iJ=true) (hl:l.length≤1000000000000) {fr tq:Nat} (hft:fr≤tq) (h9:tq-fr≤9) (htl:tq≤l.length) {H:aA} {lo:Nat} {ρ:cG} {Q:VQ} (h0:ρ 0=cN l) (h4:ρ 4=VI tq) (h6:ρ 6=VI 0) (h7:ρ 7=VI fr)
  (hQ:∀aM,(∀t,t<6→aM t=ρ t)→aM 6=VI (bN ((l.drop fr).take (tq-fr)))→Q .normal aM H):VW ⟨true,false⟩ lo (.loop mG) (pP 2 Q) ρ H:=by
 refine aW (fun(i:Nat) aM H'=>fr≤i∧i≤tq∧H'=H∧(∀t,t<6→aM t=ρ t)∧aM 6=VI (bN ((l.drop fr).take (i-fr)))∧aM 7=VI i) (fun i=>tq-i) fr ⟨Nat.le_refl _,hft,rfl,fun _ _=>rfl,by rw[h6,Nat.sub_self];rfl,h7⟩ ?_
 rintro i aM H' ⟨hfi,hi,rfl,hk,g6,g7⟩
 have g0:=(hk 0 (by decide)).trans h0
 have g4:=(hk 4 (by decide)).trans h4
 by_cases cB:(i:Int)<(tq:Int)
 ·have RH:i<l.length:=by omega
  have e1:=CD l RH
  obtain⟨c1,c2⟩:=YN hd RH
  have wi:IntKind.i64.wrap ((i:Int)+1)=((i+1:Nat):Int):=wrapN (i+1) (by omega) (by omega)
  have hcd:((l.drop fr).take (i-fr)).all iJ=true:=by
   rw[List.all_eq_true] at hd ⊢
   exact fun x hx=>hd x (List.mem_of_mem_drop (List.mem_of_mem_take hx))
  have aX:=F5 hcd
  rw[List.length_take,List.length_drop,Nat.min_eq_left (by omega)] at aX
  have hp9:10^(i-fr)≤10^8:=Nat.pow_le_pow_right (by decide) (by omega)
  have e8:(10:Nat)^8=100000000:=by decide
  have mZ:bN ((l.drop fr).take (i+1-fr))=bN ((l.drop fr).take (i-fr))*10+dv (l.getD i 0):=by
   have:(l.drop fr)[i-fr]? = some (l.getD i 0):=by
    rw[List.getElem?_drop,show fr+(i-fr)=i by omega,List.getD_eq_getElem?_getD,List.getElem?_eq_getElem RH]
    rfl
   rw[show i+1-fr=(i-fr)+1 by omega,List.take_add_one,this]
   exact UJ _ _
  have hdv:dv (l.getD i 0)=(l.getD i 0).toNat-48:=rfl
  rw[hdv] at mZ
  generalize (l.getD i 0).toNat=c at *
  generalize bN ((l.drop fr).take (i-fr))=D at *
  have w1:IntKind.i64.wrap (10*(D:Int))=((10*D:Nat):Int):=wrapN _ (by omega) (by omega)
  have w2:IntKind.u8.wrap ((c:Int)-48)=((c-48:Nat):Int):=by
   simp[IntKind.wrap,IntKind.bits,IntKind.signed]
   omega
  have w3:IntKind.i64.wrap ((c-48:Nat):Int)=((c-48:Nat):Int):=wrapN _ rfl (by omega)
  have w4:IntKind.i64.wrap (((10*D:Nat):Int)+((c-48:Nat):Int))=((D*10+(c-48):Nat):Int):=wrapN _ (by omega) (by omega)
  simp only[mG,g0,g4,g6,g7,cB,e1,w1,w2,w3,w4,wi,VX,Nat.reduceEqDiff,Nat.reduceAdd]
  refine⟨i+1,by omega,by omega,by omega,fun t ht => ?_,by rw[mZ],rfl⟩
  try simp only[uZ]
  repeat rw[if_neg (by omega)]
  exact hk t ht
 ·have pD:i=tq:=by omega
  subst pD
  simp only[mG,g4,g7,cB,VX,Nat.reduceEqDiff,Nat.reduceAdd]
  refine hQ _ (fun t ht => ?_) ?_
  ·try simp only[uZ]
   repeat rw[if_neg (by omega)]
   exact hk t ht
  ·simp only[g6,VX,Nat.reduceEqDiff,Nat.reduceAdd]
set_option maxHeartbeats 1000000 in
theorem rN (l:List UInt8) (hd:l.all iJ=true) (hl:l.length≤1000000000):TC 224 [cN l] (bT (bN l)):=by
 refine TC.walk ⟨true,false⟩ FJ rfl (Nat.le_of_ble_eq_true rfl) rfl (mW _) ?_
 have e3:∀lr,tY lr [.int .i64 0] 0 [] []=some (.ref 0 0 0 0 0,[.row 0 (([]:List Nat).map tV) 1 true]):=fun lr=>vC (H:=[]) (lr:=lr) (z:=[.int .i64 0]) rfl
 have e4:∀(x:Nat) (H:aA),tY false [.int .i64 0] 1 [(0,tV x)] H=some (.tree [tV x] (.cl 1),H):=fun x H=>uM (z:=[.int .i64 0]) rfl rfl rfl
 have e5:∀(x:Nat) (H:aA),fF 1 (.tree [tV x] (.cl 1)) H=some [tV x]:=fun x H=>oI rfl rfl
 simp only[BH,zO,e3,bO,VX,Nat.reduceEqDiff,Nat.reduceAdd]
 refine aW (fun(s:List Nat×Int) ρ H=>H=[.row s.1.length (s.1.map tV) 1 true]∧s.2≤l.length ∧ -9≤s.2∧s.1.length+s.2.toNat≤l.length∧(∀d∈s.1,d<1000000000)∧bN l=val 1000000000 s.1+1000000000^s.1.length*bN (l.take s.2.toNat) ∧
  ρ 0=cN l∧ρ 3 = .ref 0 s.1.length 0 s.1.length s.1.length∧ρ 4=VI s.2) (fun s=>s.2.toNat) ([],(l.length:Int)) ⟨rfl,Int.le_refl _,by simp only;omega,by simp,by simp,?_,rfl,rfl,rfl⟩ ?_
 ·simp only[Int.toNat_natCast,List.take_length,List.length_nil,Nat.pow_zero,Nat.one_mul,val,Nat.zero_add]
 rintro⟨out,z⟩ ρ H ⟨rfl,hz,hz9,fU,hds,hv,g0,g3,g4⟩
 simp only at hz hz9 fU hds hv g3 g4
 by_cases kI:0<z
 ·obtain⟨tq,rfl⟩:∃tq:Nat,z=tq:=⟨z.toNat,by omega⟩
  rw[Int.toNat_natCast] at fU hv
  have hto:0<tq:=by omega
  have key:∀fr:Nat,fr≤tq→tq-fr≤9→bN (l.take tq)=bN (l.take fr)*10^(tq-fr)+bN ((l.drop fr).take (tq-fr))∧bN ((l.drop fr).take (tq-fr))<1000000000:=by
   intro fr h1 h2
   have hcd:((l.drop fr).take (tq-fr)).all iJ=true:=by
    rw[List.all_eq_true] at hd ⊢
    exact fun x hx=>hd x (List.mem_of_mem_drop (List.mem_of_mem_take hx))
   have hlen:((l.drop fr).take (tq-fr)).length=tq-fr:=by rw[List.length_take,List.length_drop];omega
   constructor
   ·have:=List.take_add (l:=l) (i:=fr) (j:=tq-fr)
    rw[show fr+(tq-fr)=tq by omega] at this
    rw[this,Kk,hlen]
   ·have:=F5 hcd
    rw[hlen] at this
    exact Nat.lt_of_lt_of_le this (Nat.le_trans (Nat.pow_le_pow_right (by decide) h2) (by decide))
  have eP:=fun X=>oG (f:=tV) (xs:=out) (x:=X) (lo:=0) (b:=0) (g:=out.length) (n:=out.length) (e:=1) (bytes:=8) (H:=[.row out.length (out.map tV) 1 true]) aR rfl (Nat.zero_le _) (by decide) (by decide) (by omega)
  have JM:∀X,([.row out.length (out.map tV) 1 true]:aA).set 0 (.row (out.length+1) ((out++[X]).map tV) 1 true)=[.row (out.length+1) ((out++[X]).map tV) 1 true]:=fun _=>rfl
  simp only[JM] at eP
  by_cases h9:(9:Int)<(tq:Int)
  ·obtain⟨k1,k2⟩:=key (tq-9) (by omega) (by omega)
   have wz:IntKind.i64.wrap ((tq:Int)-9)=((tq-9:Nat):Int):=wrapN _ (by omega) (by omega)
   rw[show tq-(tq-9)=9 by omega] at k1 k2
   rw[show (10:Nat)^9=1000000000 by decide] at k1
   simp only[mC,g0,g3,g4,kI,h9,wz,VX,Nat.reduceEqDiff,Nat.reduceAdd]
   refine Ja (l:=l) hd (by omega) (fr:=tq-9) (tq:=tq) (by omega) (by omega) (by omega) ?_ ?_ ?_ ?_ fun wQ q q6 => ?_
   all_goals first | (simp only[g0,g4,VX,Nat.reduceEqDiff,Nat.reduceAdd];done) | skip
   rw[show tq-(tq-9)=9 by omega] at q6
   have u3:wQ 3 = .ref 0 out.length 0 out.length out.length:=by rw[q 3 (by decide)];simp only[g3,VX,Nat.reduceEqDiff,Nat.reduceAdd]
   have u0:wQ 0=cN l:=by rw[q 0 (by decide)];simp only[g0,VX,Nat.reduceEqDiff,Nat.reduceAdd]
   have u4:wQ 4=VI tq:=by rw[q 4 (by decide)];simp only[g4,VX,Nat.reduceEqDiff,Nat.reduceAdd]
   generalize bN ((l.drop (tq-9)).take 9)=X at *
   have e4:=e4 X
   have e5:=e5 X
   have eP:=eP X
   simp only[u0,u3,u4,q6,e4,e5,eP,wz,VX,Nat.reduceEqDiff,Nat.reduceAdd]
   refine⟨(out++[X],((tq-9:Nat):Int)),by simp only;omega,?_,by simp only;omega,by simp only;omega,?_,?_,?_,?_⟩
   ·simp
   ·simp only[List.length_append,List.length_cons,List.length_nil];omega
   ·intro d hdm
    rcases List.mem_append.1 hdm with h | h
    ·exact hds d h
    ·rw[List.mem_singleton] at h;omega
   ·simp only[Int.toNat_natCast]
    rw[hv,k1,sL,List.length_append,List.length_singleton,Nat.pow_succ]
    grind
   ·simp
  ·obtain⟨k1,k2⟩:=key 0 (by omega) (by omega)
   rw[List.take_zero,Jp,Nat.zero_mul,Nat.zero_add,Nat.sub_zero] at k1
   rw[Nat.sub_zero] at k2
   have wz:IntKind.i64.wrap ((tq:Int)-9)=(tq:Int)-9:=wrap64 (by omega) (by omega)
   simp only[mC,g0,g3,g4,kI,h9,VX,Nat.reduceEqDiff,Nat.reduceAdd]
   refine Ja (l:=l) hd (by omega) (fr:=0) (tq:=tq) (by omega) (by omega) (by omega) ?_ ?_ ?_ ?_ fun wQ q q6 => ?_
   all_goals first | (simp only[g0,g4,VX,Nat.reduceEqDiff,Nat.reduceAdd];done) | (simp only[VX,Nat.reduceEqDiff,Nat.reduceAdd];rfl) | skip
   rw[Nat.sub_zero] at q6
   have u3:wQ 3 = .ref 0 out.length 0 out.length out.length:=by rw[q 3 (by decide)];simp only[g3,VX,Nat.reduceEqDiff,Nat.reduceAdd]
   have u0:wQ 0=cN l:=by rw[q 0 (by decide)];simp only[g0,VX,Nat.reduceEqDiff,Nat.reduceAdd]
   have u4:wQ 4=VI tq:=by rw[q 4 (by decide)];simp only[g4,VX,Nat.reduceEqDiff,Nat.reduceAdd]
   generalize bN ((l.drop 0).take tq)=X at *
   have e4:=e4 X
   have e5:=e5 X
   have eP:=eP X
   simp only[u0,u3,u4,q6,e4,e5,eP,wz,VX,Nat.reduceEqDiff,Nat.reduceAdd]
   refine⟨(out++[X],(tq:Int)-9),by simp only;omega,?_,by simp only;omega,by simp only;omega,?_,?_,?_,?_⟩
   ·simp
   ·simp only[List.length_append,List.length_cons,List.length_nil];omega
   ·intro d hdm
    rcases List.mem_append.1 hdm with h | h
    ·exact hds d h
    ·rw[List.mem_singleton] at h;omega
   ·simp only
    rw[show ((tq:Int)-9).toNat=0 by omega,List.take_zero,Jp,Nat.mul_zero,Nat.add_zero,hv,k1,sL]
   ·simp
 ·have h0:z.toNat=0:=by omega
  rw[h0,List.take_zero,Jp,Nat.mul_zero,Nat.add_zero] at hv
  rw[hv]
  have ct:=TC.Z0 (f:=tV) (xs:=out) (size:=1) (e:=1) (w:=true) (H:=[.row out.length (out.map tV) 1 true]) (b:=0) (gn:=out.length) (n:=out.length) (c:=out.length) (sY out hds (by show out.length≤70368744177664;omega)) aR rfl (Nat.le_refl _) EO (fun _=>rfl) rfl rfl
  simp only[mC,g0,g3,g4,kI,ct,VX,Nat.reduceEqDiff,Nat.reduceAdd]
  exact aJ (cA _)
end Go.PM