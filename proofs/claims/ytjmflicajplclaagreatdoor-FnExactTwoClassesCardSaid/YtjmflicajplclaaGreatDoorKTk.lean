/- Texts of a claim, in one: part 11. -/
import Derived.ChangeMaps5
import Derived.KernelRfl
import Derived.Test.YtjmflicajplclaaGreatDoorKTj
set_option linter.unusedSimpArgs false
set_option linter.unusedVariables false
namespace Go.PM
open Go.Lib
theorem ZC {α:Type} {f:α→VV} {d e b g c:Nat} {xs:List α} {H:aA} {w:Bool} (hp:∀x,aN (f x)=true) (h:aI H b g=some (xs.map f,e,w)) (hc:xs.length≤c):fz (d+2) H (.ref b g 0 xs.length c)=some (aT f xs):=by
 have:aN (.ref b g 0 xs.length c)=false:=rfl
 unfold PM.fz
 simp only[this,h,Bool.false_eq_true,if_false]
 rw[if_pos ⟨by simp,hc⟩,List.drop_zero,List.take_of_length_le (by simp),mapM_pure (gP hp)]
 rfl
theorem afQ {d:Nat} {H:aA}:fz (d+1) H (.tree [] .nil)=some (.tree [] .op):=by
 unfold PM.fz
 have:aN (.tree [] .nil)=false:=by simp[aN]
 simp[this]
theorem Zi {H:aA}:fz depth H (.dT [.tree [] .nil,VB false])=some (.dT [.tree [] .op,VB false]):=bO (d:=6) afQ (aJ (v:=VB false) rfl)
theorem Au {u v:VV} (hu:gJ u=true) (hv:gJ v=true):gJ (.dT [u,v])=true:=by simp only[gJ,qB,hu,hv,Bool.and_self]
theorem tL {u v:VV} (hu:aN u=true) (hv:aN v=true):aN (.dT [u,v])=true:=by simp only[aN,aM,hu,hv,Bool.and_self]
theorem alG {u:VV} (hu:aN u=true):aM [u]=true:=by simp only[aM,hu,Bool.and_self]
theorem HI {u v:VV} (hu:aN u=true) (hv:aN v=true):aM [u,v]=true:=by simp only[aM,hu,hv,Bool.and_self]
theorem adR {u:VV} (hu:aN u=true):aN (.agg [u])=true:=by simp only[aN,aM,hu,Bool.and_self]
def pQ (s:ByteArray):Option Rat:=yM s.data.toList
theorem aeE (s:ByteArray):sV s=bB s.data.toList:=rfl
def Vk (xs:List ByteArray):Option (List Rat):=if xs.length≤300 then xs.mapM pQ else none
def QM (o:Option (List Rat)):VV:=match o with
 | some qs => .dT [aT aQ qs,VB true]
 | none => .dT [aT aQ [],VB false]
theorem HF (q:Rat):(aB (aQ q)).length=3:=rfl
theorem Fg (qs:List Rat):aN (aT aQ qs)=true:=lP HF gW
theorem Yl (q:Rat):Ad (aQ q)=true:=by simp[Ad,aQ,bN]
theorem HG (qs:List Rat):gJ (aT aQ qs)=true:=yB HF qC Yl
theorem X5 (o:Option (List Rat)):gJ (QM o)=true:=by
 unfold QM
 split
 ·exact Au (HG _) rfl
 ·exact Au (HG []) rfl
theorem HK {α β:Type} {f:α→Option β} {xs:List α} {ys:List β} {x:α} {y:β} (h:xs.mapM f=some ys) (hx:f x=some y):(xs++[x]).mapM f=some (ys++[y]):=by
 rw[List.mapM_append,h]
 simp[hx]
theorem mapM_none {α β:Type} {f:α→Option β} {x:α} (hx:f x=none):∀ {xs:List α},x∈xs→xs.mapM f=none
 | [],h=>by cases h
 |
  y::xs,h=>by
  rw[List.mapM_cons]
  cases hy:f y with
  | none=>rfl
  |
   some z =>
   rcases List.mem_cons.1 h with rfl | h
   ·rw[hx] at hy;cases hy
   ·show ((xs.mapM f).bind fun zs=>some (z::zs))=none
    rw[mapM_none hx h];rfl
theorem mapM_mem {α β:Type} {f:α→Option β} {P:β→Prop} (hP:∀x y,f x=some y→P y):∀ {xs:List α} {ys:List β},xs.mapM f=some ys→∀y∈ys,P y
 | [],ys,h,y,hy=>by simp at h;subst h;cases hy
 |
  x::xs,ys,h,y,hy=>by
  rw[List.mapM_cons] at h
  cases hx:f x with
  | none=>rw[hx] at h;cases h
  |
   some z =>
   rw[hx] at h
   cases hs:xs.mapM f with
   | none=>rw[hs] at h;cases h
   |
    some zs =>
    rw[hs] at h
    cases h
    rcases List.mem_cons.1 hy with rfl | hy
    ·exact hP _ _ hx
    ·exact mapM_mem hP hs _ hy
theorem gU {α:Type} {xs:List α} {i:Nat} {x:α} (h:xs[i]? = some x):xs.take (i+1)=xs.take i++[x]:=by rw[List.take_add_one,h];rfl
theorem T0 {xs:List ByteArray} {qs:List Rat} (h:Vk xs=some qs):(∀q∈qs,aU q≤665)∧qs.length≤300∧qs.length=xs.length:=by
 unfold Vk at h
 split at h
 ·rename_i hl
  have:=sX h
  exact⟨mapM_mem (fun _ _ h=>TN h) h,by omega,this⟩
 ·cases h
end Go.PM
namespace Go.PM
open Go.Lib
theorem RW {α:Type} {l:List α} (h:l.Nodup) {i j:Nat} {x:α} (hi:l[i]? = some x) (hj:l[j]? = some x):i=j:=by
 obtain⟨hi,kX⟩:=List.getElem?_eq_some_iff.1 hi
 obtain⟨hj,hj'⟩:=List.getElem?_eq_some_iff.1 hj
 have h:=List.pairwise_iff_getElem.1 h
 rcases Nat.lt_trichotomy i j with bF | heq | hgt
 ·exact absurd (kX.trans hj'.symm) (h i j hi hj bF)
 ·exact heq
 ·exact absurd (hj'.trans kX.symm) (h j i hj hi hgt)
section
variable {α:Type} {f:α→VV} {e lo hi:Nat} {H H':aA} {v:VV}
def dH (lo hi:Nat) (H H':aA):Prop:=∀b g x,lo≤b→b<hi→aI H b g=some x→aI H' b g=some x
theorem dH.pre (h:H <+: H'):dH lo hi H H':=fun _ _ _ _ _=>cT h
theorem dH.refl:dH lo hi H H:=fun _ _ _ _ _ h=>h
theorem dH.trans {H'':aA} (h:dH lo hi H H') (h':dH lo hi H' H''):dH lo hi H H'':=fun b g x h1 h2 h3=>h' b g x h1 h2 (h b g x h1 h2 h3)
theorem dH.sub {l h':Nat} (h:dH lo hi H H') (hl:lo≤l) (hh:h'≤hi):dH l h' H H':=fun b g x h1 h2=>h b g x (by omega) (by omega)
theorem dH.set {b:Nat} {x:cO} (hb:b<lo∨hi≤b):dH lo hi H (H.set b x):=fun _ _ _ h1 h2=>cD (by omega)
theorem dH.move {L:aA}:dH H.length hi (List.replicate H.length .dead++L) (H++L):=fun _ _ _ h1 _=>X9 h1
def Tt (f:α→VV) (e:Nat) (bJ:List α) (lo hi:Nat) (H:aA) (v:VV):Prop :=
 (v = .tree [] .nil∧bJ=[])∨∃b g c,lo≤b∧b<hi∧v = .ref b g 0 bJ.length c∧bJ.length≤c∧aI H b g=some (bJ.map f,e,true)
theorem Tt.cJ {bJ:List α} (h:Tt f e bJ lo hi H v) (hk:dH lo hi H H'):Tt f e bJ lo hi H' v:=by
 rcases h with h | ⟨b,g,c,h1,h2,h3,h4,h5⟩
 ·exact .inl h
 ·exact .inr ⟨b,g,c,h1,h2,h3,h4,hk _ _ _ h1 h2 h5⟩
theorem Tt.wide {bJ:List α} {gO kX:Nat} (h:Tt f e bJ lo hi H v) (hl:gO≤lo) (hh:hi≤kX):Tt f e bJ gO kX H v:=by
 rcases h with h | ⟨b,g,c,h1,h2,h3⟩
 ·exact .inl h
 ·exact .inr ⟨b,g,c,by omega,by omega,h3⟩
theorem Wq {d b g c:Nat} {xs:List α} {w:Bool} (hp:∀x,aN (f x)=true) (h:aI H b g=some (xs.map f,e,w)) (hc:xs.length≤c):fz (d+2) H (.ref b g 0 xs.length c)=some (aT f xs):=by
 have:aN (.ref b g 0 xs.length c)=false:=rfl
 show PM.fz ((d+1)+1) H _=_
 unfold PM.fz
 simp only[this,h,Bool.false_eq_true,if_false]
 rw[if_pos ⟨by simp,hc⟩,List.drop_zero,List.take_of_length_le (by simp),mapM_pure (n:=d) (gP hp)]
 rfl
theorem Tt.fz {d:Nat} {bJ:List α} (h:Tt f e bJ lo hi H v) (hp:∀x,aN (f x)=true):PM.fz (d+2) H v=some (aT f bJ):=by
 rcases h with⟨rfl,rfl⟩ | ⟨b,g,c,h1,h2,rfl,h4,h5⟩
 ·exact Dk
 ·exact Wq hp h5 h4
structure vJ (α:Type) where
 b:Nat
 g:Nat
 c:Nat
 xs:List α
def nB (r:vJ α):VV := .ref r.b r.g 0 r.xs.length r.c
structure NY (f:α→VV) (e lo hi b:Nat) (H:aA) (rs:List (vJ α)):Prop where
 nd:(rs.map (·.b)).Nodup
 row:∀r∈rs,lo≤r.b∧r.b<hi∧r.b≠b∧r.xs.length≤r.c∧aI H r.b r.g=some (r.xs.map f,e,true)
def RG (f:α→VV) (e:Nat) (bJ:List (List α)) (lo hi:Nat) (H:aA) (v:VV):Prop :=
 (v = .tree [] .nil∧bJ=[])∨∃b g c rs,lo≤b∧b<hi∧v = .ref b g 0 bJ.length c∧bJ.length≤c∧aI H b g=some (rs.map nB,1,true)∧rs.map (·.xs)=bJ∧NY f e lo hi b H rs
theorem RG.cJ {bJ:List (List α)} (h:RG f e bJ lo hi H v) (hk:dH lo hi H H'):RG f e bJ lo hi H' v:=by
 rcases h with h | ⟨b,g,c,rs,h1,h2,h3,h4,h5,h6,h7⟩
 ·exact .inl h
 ·exact .inr ⟨b,g,c,rs,h1,h2,h3,h4,hk _ _ _ h1 h2 h5,h6,h7.nd,fun r hr=>by
   obtain⟨k1,k2,k3,k4,k5⟩:=h7.row r hr
   exact⟨k1,k2,k3,k4,hk _ _ _ k1 k2 k5⟩⟩
theorem RG.wide {bJ:List (List α)} {gO kX:Nat} (h:RG f e bJ lo hi H v) (hl:gO≤lo) (hh:hi≤kX):RG f e bJ gO kX H v:=by
 rcases h with h | ⟨b,g,c,rs,h1,h2,h3,h4,h5,h6,h7⟩
 ·exact .inl h
 ·exact .inr ⟨b,g,c,rs,by omega,by omega,h3,h4,h5,h6,h7.nd,fun r hr=>by
   obtain⟨k1,k2,k3,k4,k5⟩:=h7.row r hr
   exact⟨by omega,by omega,k3,k4,k5⟩⟩
theorem Wy {d b g c lo hi:Nat} {rs:List (vJ α)} {w:Bool} (hp:∀x,aN (f x)=true) (h:aI H b g=some (rs.map nB,1,w)) (hc:rs.length≤c) (hR:NY f e lo hi b H rs) :
  fz (d+3) H (.ref b g 0 rs.length c)=some (aT (aT f) (rs.map (·.xs))):=by
 have:aN (.ref b g 0 rs.length c)=false:=rfl
 show PM.fz ((d+2)+1) H _=_
 unfold PM.fz
 simp only[this,h,Bool.false_eq_true,if_false]
 rw[if_pos ⟨by simp,hc⟩,List.drop_zero,List.take_of_length_le (by simp),mapM_map (f:=nB) (f':=fun r=>aT f r.xs) fun r hr=>Wq hp (hR.row r hr).2.2.2.2 (hR.row r hr).2.2.2.1]
 simp[aT,List.map_map]
theorem RG.fz {d:Nat} {bJ:List (List α)} (h:RG f e bJ lo hi H v) (hp:∀x,aN (f x)=true):PM.fz (d+3) H v=some (aT (aT f) bJ):=by
 rcases h with⟨rfl,rfl⟩ | ⟨b,g,c,rs,h1,h2,rfl,h4,h5,rfl,h7⟩
 ·exact Dk
 ·rw[List.length_map] at h4 ⊢
  exact Wy hp h5 h4 h7
theorem Wj {d:Nat} {us E2:List VV} (h:us.mapM (PM.fz (d+1) H)=some E2):PM.fz (d+2) H (.agg us)=some (.agg E2):=by
 have e:PM.fz (d+2) H (.agg us)=if aN (.agg us)=true then some (.agg us) else (us.mapM (PM.fz (d+1) H)).map .agg:=rfl
 rw[e]
 by_cases hq:aN (.agg us)=true
 ·rw[if_pos hq]
  have:us.mapM (PM.fz (d+1) H)=some us:=mapM_pure hq
  rw[this] at h
  cases h
  rfl
 ·rw[if_neg hq,h]
  rfl
def Vn (P:Nat→Nat→aA→VV→Prop) (ok:Bool) (n:Nat) (r:VV) (L:aA):Prop :=
 ∃v,r = .dT [v,.sc (.bool ok)]∧P n (n+L.length) (List.replicate n .dead++L) v
theorem Lx {F lo:Nat} {args iI:List VV} {P:Nat→Nat→aA→VV→Prop} {ok:Bool} {H:aA} {K:VV→aA→Prop} (h:FC F iI (Vn P ok)) (xE:Cy.contains F=true) (hf:args.mapM (PM.fz depth H)=some iI)
  (hP:∀ {lo hi H H' v},P lo hi H v→dH lo hi H H'→P lo hi H' v) (hk:∀v H',H <+: H'→P H.length H'.length H' v→K (.dT [v,.sc (.bool ok)]) H'):cS F args lo H K:=by
 refine h.call xE hf ?_
 rintro r L ⟨v,rfl,hv⟩
 refine hk v _ (List.prefix_append _ _) ?_
 rw[List.length_append]
 exact hP hv dH.move
end
def Hl (T:VV) (lo hi:Nat) (H:aA) (v:VV):Prop:=∀H',dH lo hi H H'→fz depth H' v=some T
theorem Hl.cJ {T:VV}:∀ {lo hi H H' v},Hl T lo hi H v→dH lo hi H H'→Hl T lo hi H' v:=fun h hk _ h'=>h _ (hk.trans h')
theorem Hl.now {T v:VV} {lo hi:Nat} {H:aA} (h:Hl T lo hi H v):fz depth H v=some T:=h H dH.refl
def CG (bJ:List (List ByteArray)) (lo hi:Nat) (H:aA) (v:VV):Prop:=∃c,v = .agg [c]∧RG sV 1 bJ lo hi H c
theorem CG.cJ {bJ:List (List ByteArray)}:∀ {lo hi H H' v},CG bJ lo hi H v→dH lo hi H H'→CG bJ lo hi H' v:=by
 rintro lo hi H H' v ⟨c,h1,h2⟩ hk
 exact⟨c,h1,h2.cJ hk⟩
theorem CG.fz {bJ:List (List ByteArray)} {lo hi:Nat} {H:aA} {v:VV} (h:CG bJ lo hi H v):PM.fz depth H v=some (chV bJ):=by
 obtain⟨c,rfl,h⟩:=h
 refine Wj (d:=6) ?_
 rw[List.mapM_cons,h.fz (d:=4) fun _=>rfl]
 rfl
theorem CG.seen {bJ:List (List ByteArray)} {lo hi:Nat} {H:aA} {v:VV} (h:CG bJ lo hi H v):Hl (chV bJ) lo hi H v:=fun _ hk=>(h.cJ hk).fz
def WB (s:Kn) (lo hi:Nat) (H:aA) (v:VV):Prop:=∃a b c m1 m2,v = .agg [a,b,c]∧lo≤m1∧m1≤m2∧m2≤hi∧Tt sV 1 s.b lo m1 H a∧RG sV 1 s.g m1 m2 H b∧Tt sV 1 s.e m2 hi H c
theorem WB.cJ {s:Kn}:∀ {lo hi H H' v},WB s lo hi H v→dH lo hi H H'→WB s lo hi H' v:=by
 rintro lo hi H H' v ⟨a,b,c,m1,m2,h1,k1,k2,k3,h2,h3,h4⟩ hk
 exact⟨a,b,c,m1,m2,h1,k1,k2,k3,h2.cJ (hk.sub (by omega) (by omega)),h3.cJ (hk.sub (by omega) (by omega)),h4.cJ (hk.sub (by omega) (by omega))⟩
theorem amQ {s:Kn} {l1 h1 l2 h2 l3 h3:Nat} {H:aA} {a b c:VV} (ha:Tt sV 1 s.b l1 h1 H a) (hb:RG sV 1 s.g l2 h2 H b) (hc:Tt sV 1 s.e l3 h3 H c):PM.fz depth H (.agg [a,b,c])=some (svV s):=by
 refine Wj (d:=6) ?_
 rw[List.mapM_cons,ha.fz (d:=5) fun _=>rfl]
 rw[List.mapM_cons,hb.fz (d:=4) fun _=>rfl]
 rw[List.mapM_cons,hc.fz (d:=5) fun _=>rfl]
 rfl
theorem WB.fz {s:Kn} {lo hi:Nat} {H:aA} {v:VV} (h:WB s lo hi H v):PM.fz depth H v=some (svV s):=by
 obtain⟨a,b,c,m1,m2,rfl,k1,k2,k3,h2,h3,h4⟩:=h
 exact amQ h2 h3 h4
theorem WB.seen {s:Kn} {lo hi:Nat} {H:aA} {v:VV} (h:WB s lo hi H v):Hl (svV s) lo hi H v:=fun _ hk=>(h.cJ hk).fz
theorem Tt.seen {bJ:List ByteArray} {lo hi:Nat} {H:aA} {v:VV} (h:Tt sV 1 bJ lo hi H v):Hl (pU bJ) lo hi H v:=fun _ hk=>(h.cJ hk).fz (d:=6) fun _=>rfl
def Tu (k:Int):ByteArray:=⟨(109::(if k≤0 then [48] else decDigits k.toNat)).toArray⟩
theorem B6 (k:Int) (hk:0≤k∧k≤1000000000):TC 101 [VI k] (.sc (.string (Tu k))):=by
 refine TC.walk ⟨true,false⟩ J6 rfl (Nat.le_of_ble_eq_true rfl) rfl rfl ?_
 by_cases h0:k≤0
 ·have e:Tu k=⟨#[109,48]⟩:=by unfold Tu;rw[if_pos h0]
  rw[e]
  simp only[Af,uZ,h0,VX,Nat.reduceEqDiff,Nat.reduceAdd]
  exact aF rfl
 obtain⟨n,rfl⟩:∃n:Nat,k=n:=⟨k.toNat,by omega⟩
 have e1:∀(x:UInt8) (H:aA),jC false [.int .u8 0] 1 [(0,bV x)] H=some (.tree [bV x] (.cl 1),H):=fun x H=>gE rfl rfl rfl
 simp only[Af,uZ,h0,VX,Nat.reduceEqDiff,Nat.reduceAdd]
 refine aS (fun(s:Nat×List UInt8) ρ H=>s.1≤n∧H=[]∧ρ 0=VI s.1∧ρ 3=bB s.2∧decDigits n=lM s.1++s.2) (fun s=>s.1) (n,[]) ⟨Nat.le_refl _,rfl,rfl,rfl,by rw[List.append_nil,lM,if_neg (by omega)]⟩ ?_
 rintro⟨r,bs⟩ ρ H ⟨hr,rfl,g0,g3,hd⟩
 simp only at hr hd g0 g3
 have uB:bs.length≤11:=by
  have h1:=xA n 10 (by omega)
  rw[hd,List.length_append] at h1
  omega
 by_cases hz:(0:Int)<(r:Int)
 ·have em:=Sc (r:Int)
  have eq:=ajK (r:Int) (by omega) (by omega)
  have m1:((r:Int)).tmod 10=((r % 10:Nat):Int):=by rw[Int.tmod_eq_emod_of_nonneg (by omega)];omega
  have m2:((r:Int)).tdiv 10=((r / 10:Nat):Int):=by rw[Int.tdiv_eq_ediv_of_nonneg (by omega)];omega
  rw[m1] at em
  rw[m2] at eq
  have w1:IntKind.i64.wrap (48+((r % 10:Nat):Int))=((48+r % 10:Nat):Int):=wrapN _ (by omega) (by omega)
  have w2:IntKind.u8.wrap ((48+r % 10:Nat):Int)=((d10 (r % 10)).toNat:Int):=by
   rw[OE (Nat.mod_lt _ (by decide))]
   simp[IntKind.wrap,IntKind.bits,IntKind.signed]
   omega
  have bs2:=fun bI (h:eH bI (.tmp 12) = .tree [bV (d10 (r % 10))] (.cl 1))=>(FE.tree (bs:=[d10 (r % 10)]) (k := .cl 1) (H:=[])).str (fl:=⟨true,false⟩) (lo:=0) h
  have YQ:decDigits n=lM (r / 10)++d10 (r % 10)::bs:=by
   refine Iq ?_
   rw[hd,lM,if_neg (by omega)]
  have ea:=qI [d10 (r % 10)] bs (by have:=uB;simp only[List.length_cons,List.length_nil];omega)
  simp only[tP,g0,g3,hz,em,eq,w1,w2,e1,PN,VX,Nat.reduceEqDiff,Nat.reduceAdd]
  rw[bs2 _ rfl]
  simp only[g0,g3,em,eq,ea,VX,Nat.reduceEqDiff,Nat.reduceAdd]
  exact⟨(r / 10,d10 (r % 10)::bs),by simp only;omega,by simp only;omega,rfl,rfl,YQ⟩
 ·have Cv:r=0:=by omega
  subst Cv
  simp only[tP,g0,hz,VX,Nat.reduceEqDiff,Nat.reduceAdd]
  have hb:bs=decDigits n:=by rw[hd,lM,if_pos rfl,List.nil_append]
  have e:Tu (n:Int)=⟨(109::bs).toArray⟩:=by
   unfold Tu
   rw[if_neg h0,Int.toNat_natCast,hb]
  have ea:=qI [109] bs (by simp only[List.length_cons,List.length_nil];omega)
  have ea:dI .add (.string ⟨#[109]⟩) (.string ⟨bs.toArray⟩)=some (.string ⟨(109::bs).toArray⟩):=ea
  rw[e]
  simp only[g3,ea,VX,Nat.reduceEqDiff,Nat.reduceAdd]
  exact aF rfl
theorem afO (k:Int):dI .neq (.string (Tu k)) (.string (Tu k))=some (.bool false):=by
 unfold Tu
 rw[Pz]
 simp
abbrev lA (k:Int) (n:Nat):List ByteArray:=(iota k n).map Tu
theorem wX (k:Int) (n:Nat):(lA k n).length=n:=by rw[List.length_map,Sz]
theorem U6 {k:Int} {n i:Nat} (h:i<n):(lA k n)[i]? = some (Tu (k+i)):=by
 rw[List.getElem?_map]
 simp[iota,List.getElem?_range,h]
theorem Fa {lo b g n c:Nat} {H:aA} (xs:List ByteArray) (k:Int) (hr:aI H b g=some (xs.map sV,1,true)) (hn:n≤xs.length) (dK:lo≤b) (hk:0≤k∧k≤100000000) (S8:n≤100000000) :
  gV 37 [.ref b g 0 n c,VI k] lo H fun r H'=>r=VI (k+n)∧H'=H.set b (.row g ((lA k n++xs.drop n).map sV) 1 true):=by
 refine gV.walk ⟨true,false⟩ FD (Nat.le_of_ble_eq_true rfl) ?_
 have hb:b<H.length:=(List.getElem?_eq_some_iff.1 (cG.1 hr)).1
 have h00:H=H.set b (.row g ((lA k 0++xs.drop 0).map sV) 1 true):=by
  have h':=cG.1 hr
  obtain⟨bF,EN⟩:=List.getElem?_eq_some_iff.1 h'
  have:lA k 0++xs.drop 0=xs:=by simp[iota]
  rw[this,←EN,List.set_getElem_self]
 simp only[A7,yP,VX,Nat.reduceEqDiff,Nat.reduceAdd]
 refine aS (fun(i:Nat) ρ H1=>i≤n∧H1=H.set b (.row g ((lA k i++xs.drop i).map sV) 1 true)∧ρ 0 = .ref b g 0 n c∧ρ 1=VI (k+i)∧ρ 5=VI i) (fun i=>n-i) 0 ⟨Nat.zero_le _,h00,rfl,by simp only[VX,Nat.reduceEqDiff,Nat.reduceAdd];simp,rfl⟩ ?_
 rintro i ρ H1 ⟨hi,rfl,h0,h1,h5⟩
 have hR:aI (H.set b (.row g ((lA k i++xs.drop i).map sV) 1 true)) b g=some ((lA k i++xs.drop i).map sV,1,true):=cG.2 (List.getElem?_set_self hb)
 have hlen:(lA k i++xs.drop i).length=xs.length:=by rw[List.length_append,wX,List.length_drop];omega
 have el:=fQ (o:=0) (n:=n) (c:=c) hR
 by_cases dB:(i:Int)<(n:Int)
 ·have e1:=bE (o:=0) (n:=n) (c:=c) (i:=i) (k := .i64) hR (by omega)
  have e2:=fK (f:=sV) (e:=1) (x:=Tu (k+i)) (j:=i) (lo:=lo) hR (by omega) dK rfl rfl
  have e3:=B6 (k+i) (by omega)
  have hs:(lA k i++xs.drop i).set i (Tu (k+i))=lA k (i+1)++xs.drop (i+1):=by
   obtain⟨x,hx⟩:∃x,xs[i]? = some x:=⟨_,List.getElem?_eq_getElem (by omega)⟩
   have hd:xs.drop i=x::xs.drop (i+1):=by
    have bF:=List.getElem?_eq_some_iff.1 hx
    rw[List.drop_eq_getElem_cons bF.1,bF.2]
   rw[List.set_append_right _ _ (by rw[wX];exact Nat.le_refl _),wX,Nat.sub_self,hd,List.set_cons_zero]
   have:lA k (i+1)=lA k i++[Tu (k+i)]:=by
    show (iota k (i+1)).map Tu=(iota k i).map Tu++[Tu (k+i)]
    unfold iota
    rw[List.range_succ,List.map_append,List.map_append]
    rfl
   rw[this,List.append_assoc]
   rfl
  rw[List.set_set,hs] at e2
  have w1:IntKind.i64.wrap (k+i+1)=k+((i+1:Nat):Int):=by rw[wrap64 (by omega) (by omega)];omega
  have wi:IntKind.i64.wrap ((i:Int)+1)=((i+1:Nat):Int):=wrapN (i+1) (by omega) (by omega)
  simp only[pR,h0,h1,h5,dB,el,e1,e2,e3,w1,wi,VX,Nat.reduceEqDiff,Nat.reduceAdd]
  exact⟨i+1,by omega,by omega,by (repeat' apply And.intro)<;>first | rfl | trivial⟩
 ·have nY:i=n:=by omega
  subst nY
  simp only[pR,h0,h1,h5,dB,el,VX,Nat.reduceEqDiff,Nat.reduceAdd]
theorem FF (k:Int) (n:Nat) (hk:0≤k∧k≤100000000) (hn:n≤100000000):TC 150 [pU (lA k n),VI k] (VI (k+n)):=by
 refine TC.walk ⟨true,false⟩ Ff rfl (Nat.le_of_ble_eq_true rfl) (HI (qP _) rfl) rfl ?_
 simp only[AI,xG,VX,Nat.reduceEqDiff,Nat.reduceAdd]
 refine aS (fun(i:Nat) ρ H=>i≤n∧H=[]∧ρ 0=pU (lA k n)∧ρ 1=VI (k+i)∧ρ 5=VI i) (fun i=>n-i) 0 ⟨Nat.zero_le _,rfl,rfl,by simp only[VX,Nat.reduceEqDiff,Nat.reduceAdd];simp,rfl⟩ ?_
 rintro i ρ H ⟨hi,rfl,h0,h1,h5⟩
 have hlen:=wX k n
 by_cases dB:(i:Int)<(n:Int)
 ·have hx:=U6 (k:=k) (n:=n) (i:=i) (by omega)
  have e1:=aK (f:=sV) (t := .op) (H:=[]) (size:=1) (k := .i64) hx rfl
  have e3:=B6 (k+i) (by omega)
  have w1:IntKind.i64.wrap (k+i+1)=k+((i+1:Nat):Int):=by rw[wrap64 (by omega) (by omega)];omega
  have wi:IntKind.i64.wrap ((i:Int)+1)=((i+1:Nat):Int):=wrapN (i+1) (by omega) (by omega)
  simp only[pP,h0,h1,h5,dB,hlen,e1,e3,w1,wi,afO,VX,Nat.reduceEqDiff,Nat.reduceAdd]
  exact⟨i+1,by omega,by omega,by (repeat' apply And.intro)<;>first | rfl | trivial⟩
 ·have nY:i=n:=by omega
  subst nY
  simp only[pP,h0,h1,h5,dB,hlen,VX,Nat.reduceEqDiff,Nat.reduceAdd]
  exact aF rfl
end Go.PM
namespace Go.PM
structure Lin where
 u:List ByteArray
 d:List ByteArray
 deriving Inhabited
end Go.PM
namespace Go.Proofs.YtjmflicajplclaaGreatDoor
open Go.ChangeShapes Go.WideShapes Go.ChangeAt Go.RowKit Go.PM
set_option maxRecDepth 100000 in
theorem HB {T:Type} {avR:TypeId×Value→T} {W:World} {v:Value} {d:DataW T} {ps:List MemPlace} {base:Nat} (hv:Value.okWide Tryz.prog W .any base 9 v) (h:DataW.Trod avR Tryz.prog W 0 (fun _=>true) true 9 v d ps) :
 ∃s:ByteArray,v = .string s∧d = .lit (.string s.data.toList)∧ps=[]∧s.size≤maxLen:=Go.ChangeMaps.open_string Tryz.underlying9 hv h
end Go.Proofs.YtjmflicajplclaaGreatDoor
namespace Go.PM
def Sg (f:Nat→Rat):Nat→Rat
 | 0=>0
 | n+1=>Sg f n+f n
theorem Th {f g:Nat→Rat}:∀ {n:Nat},(∀i,i<n→f i=g i)→Sg f n=Sg g n
 | 0,_=>rfl
 | n+1,h=>by rw[Sg,Sg,Th fun i hi=>h i (by omega),h n (by omega)]
theorem afZ {f:Nat→Rat} {n:Nat} (h:∀i,i<n→f i=0):Sg f n=0:=by
 induction n with
 | zero=>rfl
 | succ n ih=>rw[Sg,ih fun i hi=>h i (by omega),h n (by omega)];grind
theorem alD (f g:Nat→Rat) (n:Nat):Sg (fun i=>f i-g i) n=Sg f n-Sg g n:=by
 induction n with
 | zero=>simp only[Sg];grind
 | succ n ih=>simp only[Sg,ih];grind
theorem aaA {f:Nat→Rat} {n k:Nat} (hk:k<n) (h:∀i,i<n→i≠k→f i=0):Sg f n=f k:=by
 induction n with
 | zero=>omega
 |
  succ n ih =>
  rw[Sg]
  by_cases Yi:k=n
  ·subst Yi
   rw[afZ fun i hi=>h i (by omega) (by omega)]
   grind
  ·rw[ih (by omega) fun i hi=>h i (by omega),h n (by omega) (by omega)]
   grind
def KW (n:Nat) (A:Nat→Nat→Rat) (b x:Nat→Rat):Prop:=∀i,i<n→Sg (fun j=>A i j*x j) n=b i
def aqE (n:Nat) (A:Nat→Nat→Rat):Prop:=∀x,KW n A (fun _=>0) x→∀j,j<n→x j=0
theorem aqE.uniq {n:Nat} {A:Nat→Nat→Rat} {b x y:Nat→Rat} (h:aqE n A) (hx:KW n A b x) (hy:KW n A b y):∀j,j<n→x j=y j:=by
 intro j hj
 have:=h (fun j=>x j-y j) (fun i hi=>by
  have e:Sg (fun j=>A i j*(x j-y j)) n=Sg (fun j=>A i j*x j) n-Sg (fun j=>A i j*y j) n:=by
   rw[←alD]
   exact Th fun j _=>by grind
  rw[e,hx i hi,hy i hi]
  grind) j hj
 grind
def elm (c:Nat→Rat) (k:Nat) (A:Nat→Nat→Rat):Nat→Nat→Rat:=fun i j=>A i j-c i*A k j
def Oa (n k:Nat) (A:Nat→Nat→Rat):Prop:=(∀i j,i<n→j<k→j<i→A i j=0)∧∀j,j<k→A j j≠0
theorem Oa.step {n k:Nat} {A:Nat→Nat→Rat} (hU:Oa n k A) (hkk:A k k≠0) (hk:k<n):Oa n (k+1) (elm (fun i=>if k<i then A i k / A k k else 0) k A):=by
 refine⟨fun i j hi hj HD => ?_,fun j hj => ?_⟩
 ·unfold elm
  by_cases XU:j=k
  ·subst XU
   simp only[]
   rw[if_pos HD]
   grind
  ·rw[hU.1 i j hi (by omega) HD,hU.1 k j hk (by omega) (by omega)]
   grind
 ·unfold elm
  by_cases XU:j=k
  ·subst XU
   simp only[]
   rw[if_neg (by omega)]
   grind
  ·simp only[]
   rw[if_neg (by omega)]
   have:=hU.2 j (by omega)
   grind
def U7 (n k:Nat) (A:Nat→Nat→Rat):Prop:=(∀i j,i<n→j<k→i≠j→A i j=0)∧∀j,j<k→A j j≠0
theorem U7.upper {n k:Nat} {A:Nat→Nat→Rat} (h:U7 n k A):Oa n k A:=⟨fun i j hi hj HD=>h.1 i j hi hj (by omega),h.2⟩
theorem U7.step {n k:Nat} {A:Nat→Nat→Rat} (hU:U7 n k A) (hkk:A k k≠0) (hk:k<n):U7 n (k+1) (elm (fun i=>if i=k then 0 else A i k / A k k) k A):=by
 refine⟨fun i j hi hj HD => ?_,fun j hj => ?_⟩
 ·unfold elm
  by_cases XU:j=k
  ·subst XU
   simp only[]
   rw[if_neg HD]
   grind
  ·rw[hU.1 i j hi (by omega) HD,hU.1 k j hk (by omega) (by omega)]
   grind
 ·unfold elm
  by_cases XU:j=k
  ·subst XU
   simp only[]
   rw[if_pos trivial]
   grind
  ·simp only[]
   rw[if_neg XU,hU.1 k j hk (by omega) (by omega)]
   have:=hU.2 j (by omega)
   grind
theorem U7.ayM {n:Nat} {A:Nat→Nat→Rat} (hU:U7 n n A) (b:Nat→Rat):KW n A b fun i=>b i / A i i:=by
 intro i hi
 rw[aaA hi fun j hj HD=>by rw[hU.1 i j hi hj (Ne.symm HD)];grind]
 have:=hU.2 i hi
 grind
theorem Oa.back {n k:Nat} {A:Nat→Nat→Rat} {b x:Nat→Rat} (hU:Oa n n A) (hx:KW n A b x) (hk:k<n):x k=(b k-(Sg (fun j=>A k j*x j) n-Sg (fun j=>A k j*x j) (k+1))) / A k k:=by
 have h1:=hx k hk
 have h2:Sg (fun j=>A k j*x j) (k+1)=A k k*x k:=by
  rw[aaA (k:=k) (by omega) fun j hj XU=>by rw[hU.1 k j hk (by omega) (by omega)];grind]
 have:=hU.2 k hk
 rw[h1,h2]
 grind
end Go.PM
namespace Go.PM
section
variable {α:Type} {f:α→VV} {e:Nat}
structure Rd (f:α→VV) (e:Nat) (xs:List α) (H:aA) (v:VV):Prop where
 len:∀H',H <+: H'→oI v H'=some (VI xs.length)
 get:∀H',H <+: H'→∀(i:Nat) x,xs[i]? = some x→∃p,bK e v (VI i) H'=some p∧∀ag,bT ag e p H'=dD ag e (f x) 0
 cell:aB v=[v]∧bP v=true∧isAny v=false
theorem Rd.pre {xs:List α} {H H':aA} {v:VV} (h:Rd f e xs H v) (hh:H <+: H'):Rd f e xs H' v:=⟨fun H2 h2=>h.len H2 (hh.trans h2),fun H2 h2=>h.get H2 (hh.trans h2),h.cell⟩
theorem Rd.tree {xs:List α} {H:aA} {t:TK} (hs:∀x,(aB (f x)).length=e):Rd f e xs H (.tree (xs.map f) t) :=
 ⟨fun _ _=>dW,fun _ _ i x hx=>⟨_,aK hx (hs x),fun ag=>Kb⟩,rfl,rfl,rfl⟩
theorem Rd.row {xs:List α} {H:aA} {b g n c:Nat} {w:Bool} (h:aI H b g=some (xs.map f,e,w)) (hn:n=xs.length):Rd f e xs H (.ref b g 0 n c):=by
 subst hn
 refine⟨fun H' hh=>fQ (cT hh h),fun H' hh i x hx => ?_,rfl,rfl,rfl⟩
 have hi:=(List.getElem?_eq_some_iff.1 hx).1
 have e1:=bE (o:=0) (n:=xs.length) (c:=c) (i:=i) (k := .i64) (cT hh h) hi
 rw[Nat.zero_add] at e1
 exact⟨_,e1,fun ag=>oV (f:=f) (cT hh h) hx⟩
structure MG (f:α→VV) (e lo hi b g:Nat) (H:aA) (rs:List (vJ α)):Prop where
 out:aI H b g=some (rs.map nB,1,true)
 blo:lo≤b
 bhi:b<hi
 rows:NY f e lo hi b H rs
variable {lo hi b g:Nat} {H H':aA} {rs:List (vJ α)}
theorem MG.cJ (h:MG f e lo hi b g H rs) (hk:dH lo hi H H'):MG f e lo hi b g H' rs :=
 ⟨hk _ _ _ h.blo h.bhi h.out,h.blo,h.bhi,h.rows.nd,fun r hr=>by
  obtain⟨k1,k2,k3,k4,k5⟩:=h.rows.row r hr
  exact⟨k1,k2,k3,k4,hk _ _ _ k1 k2 k5⟩⟩
theorem MG.pre (h:MG f e lo hi b g H rs) (hh:H <+: H'):MG f e lo hi b g H' rs:=h.cJ (dH.pre hh)
theorem MG.len {n c:Nat} (h:MG f e lo hi b g H rs):oI (.ref b g 0 n c) H=some (VI n):=fQ h.out
theorem MG.addr {i n c:Nat} (h:MG f e lo hi b g H rs) (hi:i<n):bK 1 (.ref b g 0 n c) (VI i) H=some (.ptr b g i 0):=by
 have:=bE (o:=0) (n:=n) (c:=c) (i:=i) (k := .i64) h.out hi
 rwa [Nat.zero_add] at this
theorem MG.cell {i:Nat} {r:vJ α} (h:MG f e lo hi b g H rs) (hr:rs[i]? = some r):bT false 1 (.ptr b g i 0) H=some (.ref r.b r.g 0 r.xs.length r.c):=by
 rw[oV (f:=nB) h.out hr]
 rfl
theorem MG.row {i:Nat} {r:vJ α} (h:MG f e lo hi b g H rs) (hr:rs[i]? = some r):aI H r.b r.g=some (r.xs.map f,e,true):=(h.rows.row r (List.mem_of_getElem? hr)).2.2.2.2
theorem MG.at {i j n c:Nat} {r:vJ α} (h:MG f e lo hi b g H rs) (hr:rs[i]? = some r) (hj:j<n):bK e (.ref r.b r.g 0 n c) (VI j) H=some (.ptr r.b r.g j 0):=by
 have:=bE (o:=0) (n:=n) (c:=c) (i:=j) (k := .i64) (h.row hr) hj
 rwa [Nat.zero_add] at this
theorem MG.get {i j:Nat} {ag:Bool} {r:vJ α} {x:α} (h:MG f e lo hi b g H rs) (hr:rs[i]? = some r) (hx:r.xs[j]? = some x):bT ag e (.ptr r.b r.g j 0) H=dD ag e (f x) 0:=oV (f:=f) (h.row hr) hx
theorem MG.inj {i j:Nat} {r s:vJ α} (h:MG f e lo hi b g H rs) (hr:rs[i]? = some r) (hs:rs[j]? = some s) (he:r.b=s.b):i=j:=by
 have h1:(rs.map (·.b))[i]? = some r.b:=by simp[hr]
 have h2:(rs.map (·.b))[j]? = some r.b:=by simp[hs,he]
 exact RW h.rows.nd h1 h2
theorem MB {β γ:Type} {F:β→γ} {l:List β} {i:Nat} {x y:β} (hx:l[i]? = some x) (he:F y=F x):(l.set i y).map F=l.map F:=by
 apply List.ext_getElem?
 intro j
 rw[List.getElem?_map,List.getElem?_map,List.getElem?_set]
 split
 ·rename_i PJ
  subst PJ
  split
  ·rw[hx,Option.map_some,Option.map_some,he]
  ·rename_i hn
   rw[(List.getElem?_eq_none (by omega))] at hx
   cases hx
 ·rfl
theorem MG.set {i:Nat} {r:vJ α} {ys:List α} (h:MG f e lo hi b g H rs) (hr:rs[i]? = some r) (hl:ys.length=r.xs.length):MG f e lo hi b g (H.set r.b (.row r.g (ys.map f) e true)) (rs.set i { r with xs:=ys }):=by
 have CC:=h.rows.row r (List.mem_of_getElem? hr)
 refine⟨?_,h.blo,h.bhi,?_,fun s hs => ?_⟩
 ·rw[MB hr (by simp[nB,hl])]
  exact cD CC.2.2.1 h.out
 ·rw[MB (F:=fun r:vJ α=>r.b) (y:={ r with xs:=ys }) hr rfl]
  exact h.rows.nd
 ·obtain⟨j,hj⟩:=List.getElem?_of_mem hs
  rw[List.getElem?_set] at hj
  split at hj
  ·rename_i PJ
   split at hj
   ·cases hj
    exact⟨CC.1,CC.2.1,CC.2.2.1,by rw[hl];exact CC.2.2.2.1,bZ CC.2.2.2.2⟩
   ·cases hj
  ·rename_i PJ
   have QD:=h.rows.row s (List.mem_of_getElem? hj)
   exact⟨QD.1,QD.2.1,QD.2.2.1,QD.2.2.2.1,cD (fun he=>PJ (h.inj hr hj he)) QD.2.2.2.2⟩
theorem MG.put {i j gO:Nat} {r:vJ α} {y:α} (h:MG f e lo hi b g H rs) (hr:rs[i]? = some r) (hj:j<r.xs.length) (dK:gO≤lo) (hv:(aB (f y)).length=e) (hs:(aB (f y)).all bP=true) :
  bR gO e (.ptr r.b r.g j 0) (f y) H=some (H.set r.b (.row r.g ((r.xs.set j y).map f) e true)) :=
 fK (f:=f) (h.row hr) hj (Nat.le_trans dK (h.rows.row r (List.mem_of_getElem? hr)).1) hv hs
theorem MG.lt {i:Nat} {r:vJ α} (h:MG f e lo hi b g H rs) (hr:rs[i]? = some r):lo≤r.b∧r.b<hi∧r.b<H.length:=⟨(h.rows.row r (List.mem_of_getElem? hr)).1,(h.rows.row r (List.mem_of_getElem? hr)).2.1,gN (h.row hr)⟩
theorem MG.bJ {c:Nat} (h:MG f e lo hi b g H rs) (hc:rs.length≤c):RG f e (rs.map (·.xs)) lo hi H (.ref b g 0 rs.length c) := .inr ⟨b,g,c,rs,h.blo,h.bhi,by rw[List.length_map],by rw[List.length_map];exact hc,h.out,rfl,h.rows⟩
theorem MG.fz {d c:Nat} (h:MG f e lo hi b g H rs) (hc:rs.length≤c) (hp:∀x,aN (f x)=true):PM.fz (d+3) H (.ref b g 0 rs.length c)=some (aT (aT f) (rs.map (·.xs))):=Wy hp h.out hc h.rows
theorem MG.wide {gO kX:Nat} (h:MG f e lo hi b g H rs) (hl:gO≤lo) (hh:hi≤kX):MG f e gO kX b g H rs:=⟨h.out,by have:=h.blo;omega,by have:=h.bhi;omega,h.rows.nd,fun r hr=>by
 obtain⟨k1,k2,k3,k4,k5⟩:=h.rows.row r hr
 exact⟨by omega,by omega,k3,k4,k5⟩⟩
end
theorem dX:type_of% (And.intro @gH<|And.intro @Bp<|And.intro @nM.eq_1<|And.intro @qG.eq_1<|And.intro @qG.eq_2<|And.intro @EY.eq_1<|And.intro @EY.eq_2<|And.intro @xQ.eq_1<|And.intro @xQ.eq_2<|And.intro @Hp<|And.intro @BR<|And.intro @DU<|And.intro @DW<|And.intro @List.take_zero.{0}<|And.intro @List.take_succ_cons.{0}<|And.intro @List.take_nil.{0}<|And.intro @List.drop_zero.{0}<|And.intro @List.drop_succ_cons.{0}<|And.intro @List.drop_nil.{0}<|And.intro @List.append_nil.{0} <| @Nat.le_refl):=And.intro @gH<|And.intro @Bp<|And.intro @nM.eq_1<|And.intro @qG.eq_1<|And.intro @qG.eq_2<|And.intro @EY.eq_1<|And.intro @EY.eq_2<|And.intro @xQ.eq_1<|And.intro @xQ.eq_2<|And.intro @Hp<|And.intro @BR<|And.intro @DU<|And.intro @DW<|And.intro @List.take_zero.{0}<|And.intro @List.take_succ_cons.{0}<|And.intro @List.take_nil.{0}<|And.intro @List.drop_zero.{0}<|And.intro @List.drop_succ_cons.{0}<|And.intro @List.drop_nil.{0}<|And.intro @List.append_nil.{0} <| @Nat.le_refl
def F1 (P:Nat→Nat→aA→VV→Prop) (H:aA) (r:VV) (H':aA):Prop:=H <+: H'∧P H.length H'.length H' r
theorem lC {F lo:Nat} {args:List VV} {P:Nat→Nat→aA→VV→Prop} {H:aA} {K:VV→aA→Prop} (xE:Cy.contains F=true) (h:gV F args lo H (F1 P H)) (hk:∀r L,P H.length (H++L).length (H++L) r→K r (H++L)):cS F args lo H K:=by
 refine gI xE (h.mono ?_)
 rintro r H' ⟨⟨L,rfl⟩,hP⟩
 exact hk r L hP
end Go.PM
namespace Go.PM
open Go.Lib
abbrev cell0:cO := .row 0 [.agg [VB false,.tree [] .nil,.tree [] .nil]] 3 true
def dZ (qs:List Rat):Rat:=qs.foldl (· + ·) 0
theorem AD {qs:List Rat} {i:Nat} {q:Rat} (h:qs[i]? = some q):dZ (qs.take (i+1))=dZ (qs.take i)+q:=by
 rw[gU h,dZ,List.foldl_append];rfl
theorem NZ {B:Nat}:∀ {qs:List Rat},(∀q∈qs,aU q≤B)→∀a:Rat,aU (qs.foldl (· + ·) a)≤qs.length*(B+1)+aU a
 | [],_,a=>by simp
 |
  q::qs,h,a=>by
  have h1:=NZ (fun x hx=>h x (List.mem_cons_of_mem _ hx)) (a+q)
  have h2:=IK a q
  have h3:=h q List.mem_cons_self
  rw[List.foldl_cons,List.length_cons,Nat.succ_mul]
  omega
theorem E1 {B:Nat} {qs:List Rat} (h:∀q∈qs,aU q≤B) (i:Nat):aU (dZ (qs.take i))≤qs.length*(B+1)+1:=by
 have h1:=NZ (qs:=qs.take i) (fun q hq=>h q (List.mem_of_mem_take hq)) 0
 have h2:(qs.take i).length*(B+1)≤qs.length*(B+1):=Nat.mul_le_mul_right _ (by rw[List.length_take];omega)
 rw[Fp] at h1
 unfold dZ
 omega
set_option maxHeartbeats 1000000 in
abbrev rz:VV := .agg [VB false,.tree [] .nil,.tree [] .nil]
theorem kW {H H1:aA} {b:Nat} {x:cO} (h:H <+: H1) (hb:H.length≤b):H <+: H1.set b x:=by
 obtain⟨L,rfl⟩:=h
 rw[List.set_append_right _ _ hb]
 exact List.prefix_append _ _
theorem jN {H H1 L:aA} (h:H <+: H1):H <+: H1++L:=h.trans (List.prefix_append _ _)
theorem Bc {lo:Nat} {H:aA} {q:Rat} (h:lo≤H.length):bR lo 3 (.ptr H.length 0 0 0) (aQ q) (H++[cell0])=some (H++[.row 0 [aQ q] 3 true]):=by
 rw[bU (g:=0) (e:=3) (j:=0) fN (by exact Nat.zero_lt_one) h rfl rfl,Gp]
 rfl
theorem Ki {H K:aA} {q:Rat}:bT true 3 (.ptr H.length 0 0 0) (H ++ .row 0 [aQ q] 3 true::K)=some (aQ q):=by
 rw[bQ,wB,bA]
 exact dF _
theorem MO {lo:Nat} {H:aA} {v:VV} (qs:List Rat) {B:Nat} (hv:Rd aQ 3 qs H v) (dK:lo≤H.length) (hb:∀q∈qs,aU q≤B) (hk:qs.length*(B+1)+1≤1099511627776) (hB:B≤1099511627776) (hn:qs.length≤1000000000) :
  gV 70 [v] lo H (F1 (fun _ _ _ r=>r=aQ (dZ qs)) H):=by
 refine gV.walk ⟨true,false⟩ Ue (Nat.le_of_ble_eq_true rfl) ?_
 have e1:TC 64 [VI 0] (aQ 0):=sP 0 (by decide) (by decide)
 have e2:=hv.len (H++[cell0,.row 0 [aQ 0] 3 true]) (List.prefix_append _ _)
 have s0:bR lo 3 (.ptr (H.length+1) 0 0 0) (aQ 0) (H++[cell0,cell0])=some (H++[cell0,.row 0 [aQ 0] 3 true]):=by
  have:=Bc (lo:=lo) (H:=H++[cell0]) (q:=0) (by rw[List.length_append];omega)
  simpa only[List.length_append,List.length_cons,List.length_nil,Nat.zero_add,List.append_assoc,List.cons_append,List.nil_append] using this
 simp only[Rx,KO,e1,e2,s0,List.length_append,List.length_cons,List.length_nil,List.append_assoc,List.cons_append,List.nil_append,dX,VX,Nat.reduceEqDiff,Nat.reduceAdd,Nat.reduceLeDiff,Nat.reduceLT,Nat.reduceSub]
 refine aS (fun(i:Nat) ρ H1=>i≤qs.length∧H <+: H1∧aI H1 H.length 0=some ([rz],3,true)∧aI H1 (H.length+1) 0=some ([aQ (dZ (qs.take i))],3,true)∧ρ 2 = .ptr H.length 0 0 0∧ρ 3 = .ptr (H.length+1) 0 0 0∧ρ 7=v∧ρ 8=VI qs.length∧ρ 9=VI i) (fun i=>qs.length-i) 0 ⟨Nat.zero_le _,List.prefix_append _ _,wB.trans bA,PS.trans (lL.trans bA),rfl,rfl,rfl,rfl,rfl⟩ ?_
 rintro i ρ H1 ⟨hi,hp,Cv,FQ,g2,g3,g7,g8,g9⟩
 have Cz:=gN FQ
 by_cases dB:(i:Int)<(qs.length:Int)
 ·obtain⟨q,hq⟩:∃q,qs[i]? = some q:=⟨_,List.getElem?_eq_getElem (by omega)⟩
  obtain⟨p,a1,a2⟩:=hv.get H1 hp i q hq
  have a2':=(a2 true).trans (dF _)
  have wi:IntKind.i64.wrap ((i:Int)+1)=((i+1:Nat):Int):=wrapN (i+1) (by omega) (by omega)
  have h1:=E1 hb i
  have h2:=hb q (List.mem_of_getElem? hq)
  have h3:(i+1)*(B+1)≤qs.length*(B+1):=Nat.mul_le_mul_right _ (by omega)
  have e3:=wS (dZ (qs.take i)) q (by omega) (by omega)
  rw[←AD hq] at e3
  have s1:=Bc (lo:=lo) (H:=H1) (q:=q) (by omega)
  have s2:=Ki (H:=H1) (K:=[]) (q:=q)
  have s3:bT true 3 (.ptr (H.length+1) 0 0 0) (H1++[.row 0 [aQ q] 3 true])=some (aQ (dZ (qs.take i))):=by
   rw[bQ,cF FQ]
   exact dF _
  have s4:=bU (lo:=lo) (v:=aQ (dZ (qs.take (i+1)))) (j:=0) (cF (L:=[.row 0 [aQ q] 3 true]) FQ) (by exact Nat.zero_lt_one) (by omega) rfl rfl
  rw[List.set_cons_zero] at s4
  simp only[Dz,g2,g3,g7,g8,g9,dB,a1,a2',e3,s1,s2,s3,s4,wi,dF,dX,VX,Nat.reduceEqDiff,Nat.reduceAdd,Nat.reduceLeDiff,Nat.reduceLT,Nat.reduceSub]
  exact⟨i+1,by omega,by omega,kW (jN hp) (by omega),cD (by omega) (cF Cv),bZ (cF FQ),by (repeat' apply And.intro)<;>first | rfl | trivial | assumption⟩
 ·have nY:i=qs.length:=by omega
  subst nY
  rw[List.take_length] at FQ
  have s3:bT true 3 (.ptr (H.length+1) 0 0 0) H1=some (aQ (dZ qs)):=by
   rw[bQ,FQ]
   exact dF _
  have s4:=bU (lo:=lo) (v:=aQ (dZ qs)) (j:=0) Cv (by exact Nat.zero_lt_one) dK rfl rfl
  rw[List.set_cons_zero] at s4
  have s5:bT true 3 (.ptr H.length 0 0 0) (H1.set H.length (.row 0 [aQ (dZ qs)] 3 true))=some (aQ (dZ qs)):=by
   rw[bQ,bZ Cv]
   exact dF _
  simp only[Dz,g2,g3,g8,g9,dB,s3,s4,s5,dX,VX,Nat.reduceEqDiff,Nat.reduceAdd,Nat.reduceLeDiff,Nat.reduceLT,Nat.reduceSub]
  exact⟨kW hp (Nat.le_refl _),rfl⟩
theorem OY {q:Rat}:0<kO q↔0<q:=by
 have e:0<q.num↔0<q:=by
  constructor
  ·intro h
   have h1:0≤q:=Rat.num_nonneg.1 (by omega)
   have h2:q≠0:=fun h'=>by rw[h'] at h;exact absurd h (by decide)
   grind
  ·intro h
   have h1:0≤q.num:=Rat.num_nonneg.2 (by grind)
   have h2:q.num≠0:=fun h'=>by rw[Rat.num_eq_zero] at h';rw[h'] at h;exact absurd h (by decide)
   omega
 rw[←e]
 rcases Int.lt_trichotomy q.num 0 with h | h | h
 ·rw[oX h];omega
 ·rw[kV h];omega
 ·rw[oT h];omega
end Go.PM
namespace Go.PM
open Go.Lib
end Go.PM
namespace Go.PM
def Ac:aD:=(LS [LO 10 (.bin .lss (LT 9) (LT 8))] (.seq (.cond (LT 10) .skip (.exit 0)) (.seq (.block 1 (LS [LM 11 9,LM 4 11] (.dC [LM 12 3,LM 13 4,LO 14 (.call 64 [(LI 0)]),LO 15 (.lit [(.bool false),(.slice none 0 0),(.slice none 0 0)] 1 [(0,(LT 14))]),LM 16 0,LO 17 (.call 162 [(LT 15),(LT 16)]),LO 18 (.iaddr 1 (LT 12) (LT 13)),LN (.store 1 (LT 18) (LT 17))]))) (.dC [LO 19 (.bin .add (LT 9) (LI 1)),LM 9 19]))))
def Gx:aD:=(LS [LO 2 (.mv (.const (.slice none 0 0)))] (LS [LM 5 0,LO 6 (.make [(.slice none 0 0)] 24 (LT 5) (LT 5)),LM 3 6] (.seq (LS [LM 7 3,LO 8 (.len (LT 7)),LO 9 (.mv (LI 0))] (.block 0 (.loop Ac))) (LS [LM 20 3,LM 2 20] .ret))))
def KJ:aR:=⟨21,[(.tmp 2)],Gx⟩
theorem Qa:fR 99=some KJ:=by kernel_rfl
def rV:aD:=(LS [LO 13 (.bin .lss (LT 12) (LT 11))] (.seq (.cond (LT 13) .skip (.exit 0)) (.seq (.block 1 (LS [LO 14 (.iaddr 1 (LT 10) (LT 12)),LO 15 (LL 14),LM 6 15] (LS [LM 17 6,LO 18 (.call 147 [(LT 17)]),LM 16 18,LO 19 (LX 16 0),LO 20 (LX 16 1),LM 7 19,LM 8 20] (.seq (LS [LM 21 8,LO 22 (.un .not (LT 21))] (.cond (LT 22) (LS [LO 23 (.build [(.slice none 0 0)] [(0,1)] []),LN (.store 1 (LT 2) (LT 23)),LO 3 (.mv LF)] .ret) .skip)) (.dC [LO 24 (LA 0 4),LO 25 (LL 24),LM 26 7,LO 27 (.lit [(.slice none 0 0)] 1 [(0,(LT 26))]),LO 28 (.app 1 24 (LT 25) (LT 27)),LO 29 (LA 0 4),LN (.store 1 (LT 29) (LT 28))]))))) (.dC [LO 30 (.bin .add (LT 12) (LI 1)),LM 12 30]))))
def AA:aD:=(LS [LO 2 (.new [(.slice none 0 0)]),LO 3 (.mv LF)] (LS [LO 9 (.build [(.slice none 0 0)] [(0,1)] []),LO 4 (.new [(.slice none 0 0)]),LN (.store 1 (LT 4) (LT 9))] (.seq (LS [LM 10 0,LO 11 (.len (LT 10)),LO 12 (.mv (LI 0))] (.block 0 (.loop rV))) (LS [LO 31 (.load true 1 (LT 4)),LN (.store 1 (LT 2) (LT 31)),LO 3 (.mv LG)] .ret))))
def CW:aR:=⟨32,[(.cell 2 true 1),(.tmp 3)],AA⟩
theorem H8:fR 71=some CW:=by kernel_rfl
end Go.PM
namespace Go.PM
open Go.Lib
abbrev Ni (x:VV):VV := .agg [x]
theorem VH {x:VV}:dD false 1 (Ni x) 0=some x:=rfl
theorem NH (x:List Rat):(aB (aT aQ x)).length=1:=rfl
theorem SC (m:List (List Rat)):aN (aT (aT aQ) m)=true:=lP NH Fg
theorem ahJ (m:List (List Rat)):gJ (aT (aT aQ) m)=true:=yB NH HG fun _=>rfl
end Go.PM
namespace Go.PM
theorem Qb (n:Nat) (h:n<18446744073709551616):dI .and (.int .u64 (n:Int)) (.int .u64 4294967295)=some (.int .u64 ((n % 4294967296:Nat):Int)):=by
 simp only[dI,if_true]
 have h1:(BitVec.ofInt IntKind.u64.bits (n:Int) &&& BitVec.ofInt IntKind.u64.bits 4294967295).toNat=n % 4294967296:=by
  rw[BitVec.toNat_and]
  have e1:(BitVec.ofInt IntKind.u64.bits (n:Int)).toNat=n:=by
   rw[BitVec.toNat_ofInt]
   simp only[IntKind.bits]
   omega
  have e2:(BitVec.ofInt IntKind.u64.bits 4294967295).toNat=2^32-1:=by
   rw[BitVec.toNat_ofInt]
   simp only[IntKind.bits]
   omega
  rw[e1,e2,Nat.and_two_pow_sub_one_eq_mod]
 rw[h1,dV _ (by omega)]
end Go.PM
namespace Go.PM
def MW (cs:List jW) (i:Nat):Int:=((cs[i]?).map (·.t)).getD 0
def YW (cs:List jW) (i:Nat):Int:=((cs[i]?).map (·.w)).getD 0
def klC (cs:List jW) (i:Nat):Int:=((cs[i]?).map (·.k)).getD 0
def IQ (st:List Int) (i:Nat):Int:=(st[i]?).getD 0
theorem Uw {cs:List jW} {i:Nat} {x:jW} (h:cs[i]? = some x):MW cs i=x.t:=by simp[MW,h]
theorem anG {cs:List jW} {i:Nat} {x:jW} (h:cs[i]? = some x):YW cs i=x.w:=by simp[YW,h]
theorem ZO {st:List Int} {i:Nat} {x:Int} (h:st[i]? = some x):IQ st i=x:=by simp[IQ,h]
def inS (cs:List jW) (st:List Int) (t:Int) (i:Nat):Bool:=decide (0≤IQ st i)&&decide (IQ st i≤t)&&decide (t<IQ st i+YW cs i)
def bz (cs:List jW) (st:List Int) (t:Int):Nat:=(List.range cs.length).countP (inS cs st t)
def isW (cs:List jW) (st:List Int) (t:Int) (i:Nat):Bool:=decide (IQ st i<0)&&decide (MW cs i≤t)
def wt (cs:List jW) (st:List Int) (t:Int):List Nat:=(List.range cs.length).filter (isW cs st t)
def JX (cK:Int) (cs:List jW) (i k:Nat):Bool :=
 if cK=1 then true else if cK=2 then decide (YW cs i<YW cs k) else if cK=3 then decide (klC cs i<klC cs k) else false
def zO (cK:Int) (cs:List jW) (b:Option Nat) (i:Nat):Option Nat:=match b with
 | none=>some i
 | some k=>if JX cK cs i k then some i else some k
def nxt (cK:Int) (cs:List jW) (st:List Int) (t:Int):Option Nat:=(wt cs st t).foldl (zO cK cs) none
def fill (cK rW:Int) (cs:List jW) (t:Int):Nat→List Int→List Int
 | 0,st=>st
 |
  n+1,st=>if (bz cs st t:Int)<rW then (match nxt cK cs st t with
  | none=>st
  | some k=>fill cK rW cs t n (st.set k t)) else st
def full (cK rW:Int) (cs:List jW) (st:List Int) (t:Int):Prop:=rW≤(bz cs st t:Int)∨nxt cK cs st t=none
def runT (cK rW:Int) (cs:List jW):Int→Nat→List Int→List Int
 | _,0,st=>st
 | t,n+1,st=>runT cK rW cs (t+1) n (fill cK rW cs t cs.length st)
def stL (cK rW:Int) (cs:List jW):List Int:=runT cK rW cs 0 100000 (List.replicate cs.length (-1))
section
variable {cK rW:Int} {cs:List jW} {st:List Int} {t:Int}
theorem wM (h:full cK rW cs st t) (n:Nat):fill cK rW cs t n st=st:=by
 cases n with
 | zero=>rfl
 |
  succ n =>
  rw[fill]
  rcases h with h | h
  ·rw[if_neg (by omega)]
  ·split
   ·rw[h]
   ·rfl
theorem N0 (m:Nat):∀(t:Int) (n:Nat),(∀u,t≤u→u<t+m→full cK rW cs st u)→m≤n→runT cK rW cs t n st=runT cK rW cs (t+m) (n-m) st:=by
 induction m with
 | zero=>intro t n _ _;simp
 |
  succ m ih =>
  intro t n h hm
  obtain⟨n,rfl⟩:∃k,n=k+1:=⟨n-1,by omega⟩
  rw[runT,wM (h t (Int.le_refl _) (by omega)),ih (t+1) n (fun u h1 h2=>h u (by omega) (by omega)) (by omega)]
  congr 1
  ·omega
  ·omega
theorem YG (n:Nat):∀(t:Int),(∀u,t≤u→full cK rW cs st u)→runT cK rW cs t n st=st:=by
 intro t h
 rw[N0 n t n (fun u h1 _=>h u h1) (Nat.le_refl _),Nat.sub_self]
 rfl
theorem VP {a b:Int} (ha:0≤a) (Ef:a≤b) (hb:b≤100000) (h:∀u,a≤u→u<b→full cK rW cs st u):runT cK rW cs a (100000-a).toNat st=runT cK rW cs b (100000-b).toNat st:=by
 rw[N0 (b-a).toNat a _ (fun u h1 h2=>h u h1 (by omega)) (by omega)]
 congr 1
 ·omega
 ·omega
theorem aaY {a:Int} (ha:0≤a) (hb:a<100000):runT cK rW cs a (100000-a).toNat st=runT cK rW cs (a+1) (100000-(a+1)).toNat (fill cK rW cs a cs.length st):=by
 rw[show (100000-a).toNat=(100000-(a+1)).toNat+1 by omega,runT]
theorem Oz {ws:List Nat} {k:Nat}:∃j,(ws.foldl (zO cK cs) (some k))=some j∧(j=k∨j∈ws):=by
 induction ws generalizing k with
 | nil=>exact⟨k,rfl,.inl rfl⟩
 |
  cons i ws ih =>
  rw[List.foldl_cons]
  have:∃q,zO cK cs (some k) i=some q∧(q=k∨q=i):=by
   unfold zO
   simp only
   split
   ·exact⟨i,rfl,.inr rfl⟩
   ·exact⟨k,rfl,.inl rfl⟩
  obtain⟨q,hq,hqq⟩:=this
  rw[hq]
  obtain⟨j,h1,h2⟩:=ih (k:=q)
  refine⟨j,h1,?_⟩
  rcases h2 with rfl | h2
  ·rcases hqq with rfl | rfl
   ·exact .inl rfl
   ·exact .inr List.mem_cons_self
  ·exact .inr (List.mem_cons_of_mem _ h2)
theorem yG:nxt cK cs st t=none↔wt cs st t=[]:=by
 unfold nxt
 cases h:wt cs st t with
 | nil=>exact⟨fun _=>rfl,fun _=>rfl⟩
 |
  cons i ws =>
  refine⟨fun h2 => ?_,fun h2=>(by cases h2)⟩
  rw[List.foldl_cons] at h2
  obtain⟨j,h3,_⟩:=Oz (cK:=cK) (cs:=cs) (ws:=ws) (k:=i)
  rw[show zO cK cs none i=some i from rfl,h3] at h2
  cases h2
theorem PY {k:Nat} (h:nxt cK cs st t=some k):k∈wt cs st t:=by
 unfold nxt at h
 cases hw:wt cs st t with
 | nil=>rw[hw] at h;cases h
 |
  cons i ws =>
  rw[hw,List.foldl_cons] at h
  obtain⟨j,h3,h4⟩:=Oz (cK:=cK) (cs:=cs) (ws:=ws) (k:=i)
  rw[show zO cK cs none i=some i from rfl,h3] at h
  injection h with h
  subst h
  rcases h4 with rfl | h4
  ·exact List.mem_cons_self
  ·exact List.mem_cons_of_mem _ h4
theorem KQ {k:Nat}:k∈wt cs st t↔k<cs.length∧IQ st k<0∧MW cs k≤t:=by
 simp[wt,isW]
theorem ZV:(wt cs st t).Nodup:=List.Pairwise.filter _ List.nodup_range
theorem G2 {k i:Nat} (hk:k<st.length):IQ (st.set k t) i=if i=k then t else IQ st i:=by
 unfold IQ
 rw[List.getElem?_set]
 by_cases h:i=k
 ·subst h
  simp[hk]
 ·rw[if_neg (fun h'=>h h'.symm),if_neg h]
theorem Qr {p q:Nat→Bool} {k:Nat} (hp:p k=false) (h:∀i,i≠k→q i=p i):∀n,(List.range n).countP q=(List.range n).countP p+if k<n∧q k=true then 1 else 0:=by
 intro n
 induction n with
 | zero=>simp
 |
  succ n ih =>
  rw[List.range_succ,List.countP_append,List.countP_append,ih]
  by_cases hk:n=k
  ·subst hk
   simp only[List.countP_singleton,hp]
   cases hq:q n<;>simp
  ·rw[List.countP_singleton,List.countP_singleton,h n hk]
   have:(k<n+1∧q k=true)↔(k<n∧q k=true):=by
    constructor
    ·rintro⟨h1,h2⟩;exact⟨by omega,h2⟩
    ·rintro⟨h1,h2⟩;exact⟨by omega,h2⟩
   simp only[this]
   omega
theorem alZ {k:Nat} {u:Int} (hk:k<cs.length) (hl:st.length=cs.length) (hs:IQ st k<0) (h0:0≤t):bz cs (st.set k t) u=bz cs st u+if t≤u∧u<t+YW cs k then 1 else 0:=by
 unfold bz
 rw[Qr (p:=inS cs st u) (q:=inS cs (st.set k t) u) (k:=k)]
 ·congr 1
  have:(k<cs.length∧inS cs (st.set k t) u k=true)↔(t≤u∧u<t+YW cs k):=by
   simp only[inS,G2 (t:=t) (i:=k) (by omega:k<st.length),if_true,Bool.and_eq_true,decide_eq_true_eq]
   constructor
   ·rintro⟨_,⟨_,h1⟩,h2⟩;exact⟨h1,h2⟩
   ·rintro⟨h1,h2⟩;exact⟨hk,⟨h0,h1⟩,h2⟩
  simp only[this]
 ·simp only[inS]
  rw[decide_eq_false (by omega)]
  rfl
 ·intro i hi
  simp only[inS,G2 (t:=t) (i:=i) (by omega:k<st.length),if_neg hi]
theorem aoK {k:Nat} {u:Int} (hl:st.length=cs.length) (hk:k<cs.length) (h0:0≤t):wt cs (st.set k t) u=(wt cs st u).filter (· != k):=by
 unfold wt
 rw[List.filter_filter]
 refine List.filter_congr fun i hi => ?_
 simp only[isW,G2 (t:=t) (i:=i) (by omega:k<st.length)]
 by_cases h:i=k
 ·subst h
  simp
  omega
 ·simp[h]
def E6 (st:List Int):Nat:=st.countP (fun s=>decide (s<0))
theorem Ao {k:Nat} (hk:k<st.length) (hs:IQ st k<0) (h0:0≤t):E6 (st.set k t)+1=E6 st:=by
 unfold E6
 rw[List.countP_set hk]
 have hx:st[k]=IQ st k:=by
  rw[ZO (x:=st[k]) (List.getElem?_eq_getElem hk)]
 have h1:decide (st[k]<0)=true:=by rw[hx];exact decide_eq_true hs
 have h2:decide (t<0)=false:=decide_eq_false (by omega)
 have h3:0<st.countP (fun s=>decide (s<0)):=by
  rw[List.countP_pos_iff]
  exact⟨st[k],List.getElem_mem hk,h1⟩
 simp only[h1,h2,if_true,Bool.false_eq_true,if_false]
 omega
theorem Xg (hl:st.length=cs.length) (h0:0≤t):∀(n m:Nat),E6 st≤n→E6 st≤m→fill cK rW cs t n st=fill cK rW cs t m st:=by
 intro n
 induction n generalizing st with
 |
  zero =>
  intro m hn hm
  have hf:full cK rW cs st t:=by
   right
   rw[yG]
   cases hw:wt cs st t with
   | nil=>rfl
   |
    cons i ws =>
    have h1:i∈wt cs st t:=by rw[hw];exact List.mem_cons_self
    obtain⟨h2,h3,_⟩:=KQ.1 h1
    have:=Ao (t:=t) (by omega:i<st.length) h3 h0
    omega
  rw[wM hf,wM hf]
 |
  succ n ih =>
  intro m hn hm
  cases m with
  |
   zero =>
   have hf:full cK rW cs st t:=by
    right
    rw[yG]
    cases hw:wt cs st t with
    | nil=>rfl
    |
     cons i ws =>
     have h1:i∈wt cs st t:=by rw[hw];exact List.mem_cons_self
     obtain⟨h2,h3,_⟩:=KQ.1 h1
     have:=Ao (t:=t) (by omega:i<st.length) h3 h0
     omega
   rw[wM hf,wM hf]
  |
   succ m =>
   rw[fill,fill]
   split
   ·split
    ·rfl
    ·rename_i k hk
     obtain⟨h2,h3,_⟩:=KQ.1 (PY hk)
     have:=Ao (t:=t) (by omega:k<st.length) h3 h0
     exact ih (by simp[hl]) m (by omega) (by omega)
   ·rfl
theorem V5:E6 st≤st.length:=List.countP_le_length
theorem XM {k:Nat} (hl:st.length=cs.length) (h0:0≤t) (hb:(bz cs st t:Int)<rW) (hk:nxt cK cs st t=some k):fill cK rW cs t cs.length (st.set k t)=fill cK rW cs t cs.length st:=by
 obtain⟨h2,h3,_⟩:=KQ.1 (PY hk)
 have h4:=Ao (t:=t) (by omega:k<st.length) h3 h0
 have h5:=V5 (st:=st)
 rw[Xg (st:=st) hl h0 cs.length (cs.length+1) (by omega) (by omega)]
 conv=>rhs;rw[fill,if_pos hb,hk]
def evT (cs:List jW) (st:List Int) (i:Nat):Int:=if 0≤IQ st i then IQ st i+YW cs i else MW cs i
def anE (cs:List jW) (st:List Int) (t:Int) (b:Int) (i:Nat):Int:=if t<evT cs st i∧(b<0∨evT cs st i<b) then evT cs st i else b
def later (cs:List jW) (st:List Int) (t:Int):Int:=(List.range cs.length).foldl (anE cs st t) (-1)
structure Way (cs:List jW) (st:List Int) (t:Int):Prop where
 len:st.length=cs.length
 low:∀i,i<cs.length → -1≤IQ st i
 high:∀i,i<cs.length→IQ st i≤t
 bd:∀i,i<cs.length→IQ st i+1000*(E6 st:Int)≤10000+1000*(cs.length:Int)
 tm:0≤t∧t+1000*(E6 st:Int)≤11000+1000*(cs.length:Int)
theorem Way.set {k:Nat} (h:Way cs st t) (hk:k<cs.length) (hs:IQ st k<0):Way cs (st.set k t) t:=by
 have hl:=h.len
 have YU:=h.tm
 have h4:=Ao (t:=t) (by omega:k<st.length) hs YU.1
 refine⟨by simp[hl],fun i hi => ?_,fun i hi => ?_,fun i hi => ?_,YU.1,by omega⟩
 all_goals rw[G2 (by omega:k<st.length)]
 ·have:=h.low i hi
  split<;>omega
 ·have:=h.high i hi
  split<;>omega
 ·have:=h.bd i hi
  split<;>omega
theorem Way.le (h:Way cs st t) (hc:mO cs):t≤35000∧∀i,i<cs.length→IQ st i≤34000:=by
 have hlen:=hc.2
 have YU:=h.tm
 refine⟨by omega,fun i hi => ?_⟩
 have:=h.bd i hi
 omega
theorem mO.bnd (hc:mO cs) {i:Nat} (hi:i<cs.length):(0≤MW cs i∧MW cs i≤10000)∧(1≤YW cs i∧YW cs i≤1000):=by
 have hx:cs[i]? = some cs[i]:=List.getElem?_eq_getElem hi
 have:=hc.at hx
 rw[Uw hx,anG hx]
 exact⟨this.1,this.2.1⟩
def KG (cK:Int) (cs:List jW) (ws:List Nat):Nat :=
 if cK=1 then ws.length-1 else if cK=2∨cK=3 then (List.range ws.length).foldl (fun b k=>if JX cK cs (ws.getD k 0) (ws.getD b 0) then k else b) 0 else 0
theorem U5 {ws:List Nat} {k:Nat} (h:∀i j,JX cK cs i j=false):ws.foldl (zO cK cs) (some k)=some k:=by
 induction ws with
 | nil=>rfl
 |
  cons i ws ih =>
  rw[List.foldl_cons]
  have:zO cK cs (some k) i=some k:=by
   unfold zO
   simp only[h]
   rfl
  rw[this,ih]
theorem abV {ws:List Nat} (fC:ws≠[]) (hr:0≤cK∧cK≤3):KG cK cs ws<ws.length∧ws[KG cK cs ws]? = ws.foldl (zO cK cs) none:=by
 have hlen:0<ws.length:=List.length_pos_iff.2 fC
 unfold KG
 by_cases h1:cK=1
 ·rw[if_pos h1]
  rcases List.eq_nil_or_concat ws with rfl | ⟨xs,y,rfl⟩
  ·exact absurd rfl fC
  ·rw[List.concat_eq_append,List.foldl_append]
   refine⟨by simp,?_⟩
   simp only[List.length_append,List.length_cons,List.length_nil,Nat.zero_add,Nat.add_sub_cancel,List.foldl_cons,List.foldl_nil]
   rw[List.getElem?_append_right (Nat.le_refl _),Nat.sub_self]
   unfold zO
   split
   ·rfl
   ·simp only[JX,if_pos h1,if_true]
    rfl
 ·rw[if_neg h1]
  by_cases h2:cK=2∨cK=3
  ·rw[if_pos h2]
   have azX:∀i,JX cK cs i i=false:=fun i=>by
    unfold JX
    rw[if_neg h1]
    split
    ·exact decide_eq_false (by omega)
    ·split
     ·exact decide_eq_false (by omega)
     ·rfl
   have key:∀n,n<ws.length→(List.range (n+1)).foldl (fun b k=>if JX cK cs (ws.getD k 0) (ws.getD b 0) then k else b) 0<ws.length ∧
     ws[(List.range (n+1)).foldl (fun b k=>if JX cK cs (ws.getD k 0) (ws.getD b 0) then k else b) 0]? = (ws.take (n+1)).foldl (zO cK cs) none:=by
    intro n
    induction n with
    |
     zero =>
     intro _
     have:(List.range (0+1)).foldl (fun b k=>if JX cK cs (ws.getD k 0) (ws.getD b 0) then k else b) 0=0:=by
      simp[List.range_succ,azX]
     rw[this]
     refine⟨hlen,?_⟩
     cases ws with
     | nil=>exact absurd rfl fC
     | cons i ws=>rfl
    |
     succ n ih =>
     intro hn
     obtain⟨g1,g2⟩:=ih (by omega)
     rw[List.range_succ,List.foldl_append,List.foldl_cons,List.foldl_nil]
     generalize (List.range (n+1)).foldl (fun b k=>if JX cK cs (ws.getD k 0) (ws.getD b 0) then k else b) 0=b at *
     obtain⟨x,hx⟩:∃x,ws[n+1]? = some x:=⟨_,List.getElem?_eq_getElem hn⟩
     obtain⟨y,hy⟩:∃y,ws[b]? = some y:=⟨_,List.getElem?_eq_getElem g1⟩
     rw[List.take_add_one,hx,List.foldl_append,←g2,hy]
     simp only[Option.toList_some,List.foldl_cons,List.foldl_nil,List.getD_eq_getElem?_getD,hx,hy,Option.getD_some,zO]
     split
     ·exact⟨hn,hx⟩
     ·exact⟨g1,hy⟩
   have:=key (ws.length-1) (by omega)
   rw[show ws.length-1+1=ws.length by omega,List.take_of_length_le (Nat.le_refl _)] at this
   exact this
  ·rw[if_neg h2]
   refine⟨hlen,?_⟩
   have hb:∀i j,JX cK cs i j=false:=fun i j=>by
    unfold JX
    rw[if_neg h1,if_neg (by omega),if_neg (by omega)]
   cases ws with
   | nil=>exact absurd rfl fC
   |
    cons i ws =>
    rw[List.foldl_cons,show zO cK cs none i=some i from rfl,U5 hb]
    rfl
end
end Go.PM
namespace Go.PM
def TT (st:List Int) (i:Nat):Bool:=decide (IQ st i<0)
def gtB (u e:Int):Bool:=decide (u<e)
section
variable {cK rW:Int} {cs:List jW} {st:List Int} {t:Int}
theorem mO.sorted (hc:mO cs):∀ {i j:Nat},i≤j→j<cs.length→MW cs i≤MW cs j:=by
 intro i j PJ hj
 induction j with
 |
  zero =>
  have:i=0:=by omega
  subst this
  exact Int.le_refl _
 |
  succ j ih =>
  rcases Nat.lt_or_ge i (j+1) with h | h
  ·have h1:=ih (by omega) (by omega)
   have hx:cs[j+1]? = some cs[j+1]:=List.getElem?_eq_getElem hj
   have hy:cs[j]? = some cs[j]:=List.getElem?_eq_getElem (by omega)
   have h2:=(hc.1 (j+1) _ hx).2 _ (by omega) (by rw[Nat.add_sub_cancel];exact hy)
   rw[Uw hx]
   rw[Uw hy] at h1
   omega
  ·have:i=j+1:=by omega
   subst this
   exact Int.le_refl _
theorem GD {fA:Nat} (asN:fA≤cs.length) (past:∀i,i<fA→MW cs i≤t) (fut:∀i,fA≤i→i<cs.length→t<MW cs i):wt cs st t=(List.range fA).filter (TT st):=by
 unfold wt
 rw[show cs.length=fA+(cs.length-fA) by omega,List.range_add,List.filter_append]
 have h1:(List.range fA).filter (isW cs st t)=(List.range fA).filter (TT st):=by
  refine List.filter_congr fun i hi => ?_
  rw[List.mem_range] at hi
  simp[isW,TT,past i hi]
 have h2:((List.range (cs.length-fA)).map fun x=>fA+x).filter (isW cs st t)=[]:=by
  rw[List.filter_eq_nil_iff]
  intro i hi
  obtain⟨j,hj,rfl⟩:=List.mem_map.1 hi
  rw[List.mem_range] at hj
  have:=fut (fA+j) (by omega) (by omega)
  simp only[isW,Bool.and_eq_true,decide_eq_true_eq]
  omega
 rw[h1,h2,List.append_nil]
structure O9 (cK rW:Int) (cs:List jW) (st:List Int) (t:Int) (fA:Nat) (ws:List Nat) (ends:List Int):Prop where
 len:st.length=cs.length
 low:∀i,i<cs.length → -1≤IQ st i
 high:∀i,i<cs.length→IQ st i≤t
 bd:∀i,i<cs.length→IQ st i+1000*(E6 st:Int)≤10000+1000*(cs.length:Int)
 tm : -1≤t
 OM:fA≤cs.length
 past:∀i,i<fA→MW cs i≤t
 fut:∀i,fA≤i→i<cs.length→t<MW cs i∧IQ st i<0
 wsq:ws=wt cs st t
 cnt:∀u,t≤u→ends.countP (gtB u)=bz cs st u
 ef:∀e∈ends,t<e
 eb:∀e∈ends,e+1000*(E6 st:Int)≤11000+1000*(cs.length:Int)
 fl:full cK rW cs st t
 room:ws.length+ends.length≤fA
 es:(ends.length:Int)≤rW
 run:runT cK rW cs (t+1) (100000-(t+1)).toNat st=stL cK rW cs
theorem FW {n i:Nat} (h:i<n):IQ (List.replicate n (-1)) i = -1:=ZO (by rw[List.getElem?_replicate,if_pos h])
theorem O9.start (hc:mO cs) (hs:1≤rW):O9 cK rW cs (List.replicate cs.length (-1)) (-1) 0 [] []:=by
 have hw:wt cs (List.replicate cs.length (-1)) (-1)=[]:=by
  rw[GD (Nat.zero_le _) (fun i hi=>by omega) fun i _ hi=>by have:=hc.bnd hi;omega]
  rfl
 have hu:E6 (List.replicate cs.length (-1))=cs.length:=by simp[E6,List.countP_replicate]
 refine⟨by simp,fun i hi=>by rw[FW hi];decide,fun i hi=>by rw[FW hi];decide,fun i hi=>by rw[FW hi,hu];omega,by decide,Nat.zero_le _,fun i hi=>by omega,fun i _ hi=>⟨by have:=hc.bnd hi;omega,by rw[FW hi];decide⟩,hw.symm,fun u _ => ?_,fun e he=>(by cases he),fun e he=>(by cases he),.inr (yG.2 hw),Nat.le_refl _,by simp;omega,rfl⟩
 unfold bz
 rw[(List.countP_eq_zero (p:=inS cs (List.replicate cs.length (-1)) u)).2]
 ·rfl
 ·intro i hi
  rw[List.mem_range] at hi
  simp only[inS,FW hi,Bool.and_eq_true,decide_eq_true_eq]
  omega
def QB (w:Bool) (b e:Int):Int:=if b<0∨(w=true∧e<b) then e else b
theorem aoP {es:List Int} {b:Int} (h:0≤b):es.foldl (QB false) b=b:=by
 induction es with
 | nil=>rfl
 |
  cons e es ih =>
  rw[List.foldl_cons]
  have:QB false b e=b:=by
   unfold QB
   rw[if_neg (by simp;omega)]
  rw[this,ih]
theorem akF:∀ {es:List Int} {b:Int},(∀e∈es,0≤e)→(es.foldl (QB true) b=b∨es.foldl (QB true) b∈es)∧(∀e∈es,es.foldl (QB true) b≤e)∧(0≤b→es.foldl (QB true) b≤b)∧(es≠[]→0≤es.foldl (QB true) b)
 | [],b,_=>⟨.inl rfl,fun e he=>(by cases he),fun _=>Int.le_refl _,fun h=>absurd rfl h⟩
 |
  e::es,b,h=>by
  rw[List.foldl_cons]
  have h1:=h e List.mem_cons_self
  have h2:∀e'∈es,0≤e':=fun e' he=>h e' (List.mem_cons_of_mem _ he)
  have hm:(QB true b e=b∨QB true b e=e)∧QB true b e≤e∧(0≤b→QB true b e≤b)∧0≤QB true b e:=by
   unfold QB
   by_cases hc:b<0∨(true=true∧e<b)
   ·rw[if_pos hc]
    refine⟨.inr rfl,Int.le_refl _,fun hb => ?_,h1⟩
    rcases hc with hc | hc<;>omega
   ·rw[if_neg hc]
    simp at hc
    exact⟨.inl rfl,hc.2,fun _=>Int.le_refl _,hc.1⟩
  obtain⟨m1,m2,m3,m4⟩:=hm
  obtain⟨g1,g2,g3,g4⟩:=akF (es:=es) (b:=QB true b e) h2
  have g3:=g3 m4
  refine⟨?_,?_,fun hb=>by have:=m3 hb;omega,fun _ => ?_⟩
  ·rcases g1 with g1 | g1
   ·rw[g1]
    rcases m1 with m1 | m1
    ·exact .inl m1
    ·rw[m1];exact .inr List.mem_cons_self
   ·exact .inr (List.mem_cons_of_mem _ g1)
  ·intro e' he
   rcases List.mem_cons.1 he with rfl | he
   ·omega
   ·exact g2 e' he
  ·rcases g1 with g1 | g1
   ·rw[g1];exact m4
   ·exact h2 _ g1
def PK (cs:List jW) (fA:Nat):Int:=if fA<cs.length then MW cs fA else -1
def Mz (cs:List jW) (fA:Nat) (ws:List Nat) (ends:List Int):Int:=ends.foldl (QB (decide (0<ws.length))) (PK cs fA)
theorem O9.adX {fA:Nat} {ws:List Nat} {ends:List Int} (h:O9 cK rW cs st t fA ws ends):ends.length=bz cs st t:=by
 rw[←h.cnt t (Int.le_refl _),List.countP_eq_length.2]
 intro e he
 exact decide_eq_true (h.ef e he)
theorem O9.time {fA:Nat} {ws:List Nat} {ends:List Int} (h:O9 cK rW cs st t fA ws ends) (hc:mO cs) (hs:1≤rW) (hg:fA<cs.length∨0<ws.length) :
  (t<Mz cs fA ws ends∧Mz cs fA ws ends+1000*(E6 st:Int)≤11000+1000*(cs.length:Int))∧(∀i,fA≤i→i<cs.length→Mz cs fA ws ends≤MW cs i) ∧
   (fA<cs.length∧MW cs fA=Mz cs fA ws ends∨0<ws.length∧Mz cs fA ws ends∈ends)∧runT cK rW cs (Mz cs fA ws ends) (100000-Mz cs fA ws ends).toNat st=stL cK rW cs:=by
 have YU:=h.tm
 have Qz:=V5 (st:=st)
 have hlen:=h.len
 have he0:∀e∈ends,0≤e:=fun e he=>by have:=h.ef e he;omega
 have axI:=hc.2
 by_cases hw:0<ws.length
 ·have hbz:rW≤(bz cs st t:Int):=by
   rcases h.fl with hf | hf
   ·exact hf
   ·rw[yG,←h.wsq] at hf
    rw[hf] at hw
    simp at hw
  have fC:ends≠[]:=by
   intro he
   have:=h.adX
   rw[he] at this
   simp at this
   omega
  obtain⟨g1,g2,g3,g4⟩:=akF (es:=ends) (b:=PK cs fA) he0
  have XA:Mz cs fA ws ends=ends.foldl (QB true) (PK cs fA):=by unfold Mz;rw[decide_eq_true hw]
  rw[XA]
  generalize ends.foldl (QB true) (PK cs fA)=w at *
  have g4:=g4 fC
  have K1:(fA<cs.length∧MW cs fA=w)∨w∈ends:=by
   rcases g1 with g1 | g1
   ·unfold PK at g1
    split at g1
    ·rename_i oO
     exact .inl ⟨oO,g1.symm⟩
    ·omega
   ·exact .inr g1
  have htw:t<w∧w+1000*(E6 st:Int)≤11000+1000*(cs.length:Int):=by
   rcases K1 with⟨h1,h2⟩ | h1
   ·have:=h.fut fA (Nat.le_refl _) h1
    have:=hc.bnd h1
    omega
   ·exact⟨h.ef _ h1,h.eb _ h1⟩
  refine⟨htw,fun i h1 h2 => ?_,K1.imp id fun h1=>⟨hw,h1⟩,?_⟩
  ·have h3:=hc.sorted h1 h2
   have h4:=hc.bnd (i:=fA) (by omega)
   have h5:PK cs fA=MW cs fA:=by unfold PK;rw[if_pos (by omega)]
   have:=g3 (by rw[h5];omega)
   omega
  ·rw[←h.run]
   refine(VP (by omega) (by omega) (by omega) fun u h1 h2 => .inl ?_).symm
   rw[←h.cnt u (by omega),(List.countP_eq_length (p:=gtB u)).2 fun e he=>decide_eq_true (by have:=g2 e he;omega),h.adX]
   exact hbz
 ·have oO:fA<cs.length:=by omega
  have h5:PK cs fA=MW cs fA:=by unfold PK;rw[if_pos oO]
  have h4:=hc.bnd oO
  have hf:=(h.fut fA (Nat.le_refl _) oO).1
  have XA:Mz cs fA ws ends=MW cs fA:=by unfold Mz;rw[decide_eq_false hw,aoP (by rw[h5];omega),h5]
  rw[XA]
  refine⟨⟨hf,by omega⟩,fun i h1 h2=>hc.sorted h1 h2,.inl ⟨oO,rfl⟩,?_⟩
  rw[←h.run]
  refine(VP (by omega) (by omega) (by omega) fun u h1 h2 => .inr ?_).symm
  rw[yG,GD h.OM (fun i hi=>by have:=h.past i hi;omega) fun i h3 h4=>by have:=hc.sorted h3 h4;omega]
  have e1:=GD (st:=st) h.OM h.past fun i h3 h4=>(h.fut i h3 h4).1
  rw[←e1,←h.wsq]
  exact List.eq_nil_of_length_eq_zero (by omega)
theorem O9.done {fA:Nat} {ws:List Nat} {ends:List Int} (h:O9 cK rW cs st t fA ws ends) (asN:¬fA<cs.length) (hw:¬0<ws.length):st=stL cK rW cs:=by
 rw[←h.run]
 refine(YG _ _ fun u hu => .inr ?_).symm
 have oO:=h.OM
 have e1:=GD (st:=st) h.OM h.past fun i h3 h4=>(h.fut i h3 h4).1
 rw[yG,GD h.OM (fun i hi=>by have:=h.past i hi;omega) fun i h3 h4=>by omega,←e1,←h.wsq]
 exact List.eq_nil_of_length_eq_zero (by omega)
structure Ph4 (cK rW:Int) (cs:List jW) (st0:List Int) (now:Int) (fA tot:Nat) (st:List Int) (ws:List Nat) (ends:List Int):Prop where
 XW:Way cs st now
 wsq:ws=wt cs st now
 cnt:∀u,now≤u→ends.countP (gtB u)=bz cs st u
 ef:∀e∈ends,now<e
 eb:∀e∈ends,e+1000*(E6 st:Int)≤11000+1000*(cs.length:Int)
 fl:fill cK rW cs now cs.length st=fill cK rW cs now cs.length st0
 past:∀i,i<fA→MW cs i≤now
 fut:∀i,fA≤i→i<cs.length→now<MW cs i∧IQ st i<0
 tot:ws.length+ends.length=tot
 es:(ends.length:Int)≤rW
theorem Ce:∀ {l:List Nat} {i k:Nat},l.Nodup→l[i]? = some k→l.eraseIdx i=l.filter (· != k)
 | [],_,_,_,h=>by cases h
 |
  x::l,0,k,hn,h=>by
  injection h with h
  subst h
  rw[List.nodup_cons] at hn
  rw[List.eraseIdx_cons_zero,List.filter_cons_of_neg (by simp),List.filter_eq_self.2]
  intro y hy
  have:y≠x:=fun he=>hn.1 (he▸hy)
  simpa using this
 |
  x::l,i+1,k,hn,h=>by
  rw[List.nodup_cons] at hn
  rw[List.getElem?_cons_succ] at h
  have hx:x≠k:=fun he=>hn.1 (he▸List.mem_of_getElem? h)
  rw[List.eraseIdx_cons_succ,List.filter_cons_of_pos (by simpa using hx),Ce hn.2 h]
theorem Ph4.step {now:Int} {st0:List Int} {fA tot:Nat} {ws:List Nat} {ends:List Int} (h:Ph4 cK rW cs st0 now fA tot st ws ends) (hc:mO cs) (hr:0≤cK∧cK≤3) (hb:(ends.length:Int)<rW) (fC:0<ws.length) :
  ∃k,ws[KG cK cs ws]? = some k∧k<cs.length∧KG cK cs ws<ws.length∧(0≤now∧now≤35000)∧Ph4 cK rW cs st0 now fA tot (st.set k now) (ws.eraseIdx (KG cK cs ws)) (ends++[now+YW cs k]):=by
 have Xx:ws≠[]:=fun he=>by rw[he] at fC;simp at fC
 obtain⟨g1,g2⟩:=abV (cs:=cs) Xx hr
 obtain⟨k,hk⟩:∃k,ws[KG cK cs ws]? = some k:=⟨_,List.getElem?_eq_getElem g1⟩
 have hnx:nxt cK cs st now=some k:=by
  unfold nxt
  rw[←h.wsq,←g2,hk]
 obtain⟨m1,m2,m3⟩:=KQ.1 (PY hnx)
 have YU:=h.XW.tm
 have hle:=(h.XW.le hc).1
 have hbz:(bz cs st now:Int)=ends.length:=by
  rw[←h.cnt now (Int.le_refl _),(List.countP_eq_length (p:=gtB now)).2 fun e he=>decide_eq_true (h.ef e he)]
 have Qt:k<st.length:=by rw[h.XW.len];exact m1
 have hus:=Ao (t:=now) Qt m2 YU.1
 have hwk:=(hc.bnd m1).2
 refine⟨k,hk,m1,g1,⟨YU.1,hle⟩,h.XW.set m1 m2,?_,?_,?_,?_,?_,h.past,?_,?_,?_⟩
 ·rw[aoK h.XW.len m1 YU.1,←h.wsq]
  exact Ce (by rw[h.wsq];exact ZV) hk
 ·intro u hu
  rw[List.countP_append,h.cnt u hu,alZ m1 h.XW.len m2 YU.1,List.countP_singleton]
  congr 1
  simp only[gtB,decide_eq_true_eq]
  by_cases hq:u<now+YW cs k
  ·rw[if_pos hq,if_pos ⟨hu,hq⟩]
  ·rw[if_neg hq,if_neg fun h'=>hq h'.2]
 ·intro e he
  rcases List.mem_append.1 he with he | he
  ·exact h.ef e he
  ·rw[List.mem_singleton] at he
   omega
 ·intro e he
  rcases List.mem_append.1 he with he | he
  ·have:=h.eb e he
   omega
  ·rw[List.mem_singleton] at he
   omega
 ·rw[XM h.XW.len YU.1 (by rw[hbz];exact hb) hnx,h.fl]
 ·intro i h1 h2
  have h3:=h.fut i h1 h2
  refine⟨h3.1,?_⟩
  rw[G2 Qt,if_neg (fun he=>by subst he;omega)]
  exact h3.2
 ·rw[List.length_eraseIdx_of_lt g1,List.length_append,List.length_cons,List.length_nil]
  have:=h.tot
  omega
 ·rw[List.length_append,List.length_cons,List.length_nil]
  omega
theorem Ph4.done {now:Int} {st0:List Int} {fA tot:Nat} {ws:List Nat} {ends:List Int} (h:Ph4 cK rW cs st0 now fA tot st ws ends) (hc:mO cs) (oO:fA≤cs.length) (ht:tot≤fA) (hf:rW≤(ends.length:Int)∨ws=[])
  (hr:runT cK rW cs now (100000-now).toNat st0=stL cK rW cs):O9 cK rW cs st now fA ws ends:=by
 have YU:=h.XW.tm
 have hle:=(h.XW.le hc).1
 have hbz:(bz cs st now:Int)=ends.length:=by
  rw[←h.cnt now (Int.le_refl _),(List.countP_eq_length (p:=gtB now)).2 fun e he=>decide_eq_true (h.ef e he)]
 have ajZ:full cK rW cs st now:=by
  rcases hf with hf | hf
  ·exact .inl (by rw[hbz];exact hf)
  ·exact .inr (yG.2 (by rw[←h.wsq];exact hf))
 refine⟨h.XW.len,h.XW.low,h.XW.high,h.XW.bd,by omega,oO,h.past,h.fut,h.wsq,h.cnt,h.ef,h.eb,ajZ,by rw[h.tot];exact ht,h.es,?_⟩
 have h1:=wM ajZ cs.length
 rw[h.fl] at h1
 rw[aaY YU.1 (by omega),h1] at hr
 exact hr
end
end Go.PM
namespace Go.PM
theorem Ej (n:Nat) (h:n<4294967296):TC 207 [VK .u64 1,VK .u64 (n:Int)] (.dT [VK .u64 0,VK .u64 (n:Int)]):=by
 refine TC.walk ⟨true,false⟩ GK rfl (Nat.le_of_ble_eq_true rfl) rfl rfl ?_
 have a1:dI .and (.int .u64 1) (.int .u64 4294967295)=some (.int .u64 1):=Qb 1 (by decide)
 have a2:dI .and (.int .u64 (n:Int)) (.int .u64 4294967295)=some (.int .u64 (n:Int)):=by rw[Qb n (by omega),Nat.mod_eq_of_lt h]
 have a0:dI .and (.int .u64 0) (.int .u64 4294967295)=some (.int .u64 0):=Qb 0 (by decide)
 have s1:dI .shr (.int .u64 1) (.int .u64 32)=some (.int .u64 0):=nU 1 .u64
 have s0:dI .shr (.int .u64 0) (.int .u64 32)=some (.int .u64 0):=nU 0 .u64
 have s2:dI .shr (.int .u64 (n:Int)) (.int .u64 32)=some (.int .u64 0):=by rw[nU n .u64,Nat.div_eq_of_lt h];rfl
 have w0:IntKind.u64.wrap 0=0:=dV 0 (by decide)
 have wn:IntKind.u64.wrap (n:Int)=n:=dV n (by omega)
 simp only[BY,zT,a0,a1,a2,s0,s1,s2,w0,wn,Int.one_mul,Int.zero_mul,Int.mul_zero,Int.add_zero,VX,Nat.reduceEqDiff,Nat.reduceAdd]
 exact aF rfl
theorem Gw (n:Nat) (h:n<4294967296):TC 187 [VK .u64 1,VK .u64 (n:Int)] (.dT [VK .u64 0,VK .u64 (n:Int)]):=by
 refine TC.walk ⟨true,false⟩ J4 rfl (Nat.le_of_ble_eq_true rfl) rfl rfl ?_
 simp only[Ev,Cj,Ej n h,VX,Nat.reduceEqDiff,Nat.reduceAdd]
 exact aF rfl
end Go.PM
namespace Go.PM
section
variable {α:Type} {f:α→VV} {H:aA} {b g e lo:Nat} {X Y:List α}
theorem QO {o:Nat}:cY (X.map f) o (Y.map f)=(X.take o++Y++X.drop (o+Y.length)).map f:=by
 simp[cY]
theorem OJ {o d cc:Nat} {y:VV} (h:aI H b g=some (X.map f,e,true)) (hy:cU e y H=some (Y.map f)) (dK:lo≤b) (ho:o+(Y.take d).length≤X.length) :
  IZ lo e (.ref b g o d cc) y H=some (VI (Y.take d).length,H.set b (.row g ((X.take o++Y.take d++X.drop (o+(Y.take d).length)).map f) e true)):=by
 simp only[IZ,hy,h]
 rw[←List.map_take,QO,if_pos ⟨trivial,dK,by simpa using ho⟩,List.length_map]
end
end Go.PM
namespace Go.PM
end Go.PM
namespace Go.PM
open Go.Lib
def Jc {α:Type} (f:α→VV) (e:Nat) (bJ:List α) (lo hi:Nat) (H:aA) (v:VV):Prop :=
 ∃b g c,lo≤b∧b<hi∧v = .ref b g 0 bJ.length c∧bJ.length≤c∧aI H b g=some (bJ.map f,e,true)
def TabIs {α:Type} (f:α→VV) (e:Nat) (m:List (List α)) (lo hi:Nat) (H:aA) (v:VV):Prop :=
 ∃b g c rs,v = .ref b g 0 m.length c∧m.length≤c∧MG f e lo hi b g H rs∧rs.map (·.xs)=m
theorem KV {α:Type} {f:α→VV} {lo b k e bytes:Nat} {H:aA} {xs:List α} {x:α} (h:aI H b k=some (xs.map f,e,true)) (hk:k=xs.length) (dK:lo≤b) (he:1≤e) (hb:1≤bytes) (BH:(k+1)*bytes≤140737488355328) :
 eW lo e bytes (.ref b k 0 k k) [f x] H=some (.ref b (k+1) 0 (k+1) (k+1),H.set b (.row (k+1) ((xs++[x]).map f) e true)):=iC h hk dK he hb BH
theorem Jc.rd {α:Type} {f:α→VV} {e lo hi:Nat} {bJ:List α} {H:aA} {v:VV} (h:Jc f e bJ lo hi H v):Rd f e bJ H v:=by
 obtain⟨b,g,c,h1,h2,rfl,h3,h4⟩:=h
 exact Rd.row h4 rfl
theorem El {lo:Nat} {H:aA} (q:Rat) (N:Nat) (hN:N≤1000000) (dK:lo≤H.length) :
  gV 162 [.tree [aQ q] (.cl 3),VI N] lo H fun r H'=>r = .ref H.length 0 0 N N∧H'=H++[.row 0 ((List.replicate N q).map aQ) 3 true]:=by
 refine gV.walk ⟨true,false⟩ pM (Nat.le_of_ble_eq_true rfl) ?_
 have eM:=Gw N (by omega)
 have c1:IntKind.u64.wrap ((1:Nat):Int)=1:=dV 1 (by decide)
 have c2:IntKind.u64.wrap (N:Int)=(N:Int):=dV N (by omega)
 have c3:IntKind.i64.wrap (N:Int)=(N:Int):=wrap64 (by omega) (by omega)
 have g1:¬(N:Int)<0:=by omega
 have g2:¬(0:Int)<0:=by decide
 have g3:¬(9223372036854775807:Int)<(N:Int):=by omega
 have em:=fun H=>tH (H:=H) (f:=id) (x:=rz) (z:=[.bool false,.slice none 0 0,.slice none 0 0]) (bytes:=56) (n:=N) rfl (by omega) (by omega)
 have s1:cU 3 (.tree [aQ q] (.cl 3)) (H++[.row 0 ((List.replicate N rz).map id) 3 true])=some ([aQ q].map id):=dQ (v:=aQ q) rfl rfl
 have r1:aI (H++[.row 0 ((List.replicate N rz).map id) 3 true]) H.length 0=some ((List.replicate N rz).map id,3,true):=by rw[wB,bA]
 have s2:=OJ (f:=id) (Y:=[aQ q]) (lo:=lo) (o:=0) (d:=N) (cc:=N) (y := .tree [aQ q] (.cl 3)) r1 s1 dK (by simp;omega)
 rw[TI] at s2
 simp only[jQ,iV,eM,c1,c2,c3,g1,g2,g3,em,s2,dX,VX,Nat.reduceEqDiff,Nat.reduceAdd,Nat.reduceLeDiff,Nat.reduceLT,Nat.reduceSub]
 refine aS (fun(i:Nat) ρ H1=>i≤N∧(i=0→N=0)∧H1=H++[.row 0 ((List.replicate i (aQ q)++List.replicate (N-i) rz).map id) 3 true]∧ρ 7 = .ref H.length 0 0 N N∧ρ 8=VI i) (fun i=>N-i) (min 1 N) ?_ ?_
 refine⟨by omega,by omega,?_,rfl,?_⟩
 ·congr 2
  cases N with
  | zero=>rfl
  |
   succ N =>
   have:min 1 (N+1)=1:=by omega
   rw[this]
   simp[List.replicate_succ]
 ·cases N with
  | zero=>rfl
  |
   succ N =>
   have:min 1 (N+1)=1:=by omega
   simp only[this,dX,VX,Nat.reduceEqDiff,Nat.reduceAdd,Nat.reduceLeDiff,Nat.reduceLT,Nat.reduceSub]
   try simp
 rintro i ρ H1 ⟨hi,h0,rfl,h7,h8⟩
 have hr:aI (H++[.row 0 ((List.replicate i (aQ q)++List.replicate (N-i) rz).map id) 3 true]) H.length 0=some ((List.replicate i (aQ q)++List.replicate (N-i) rz).map id,3,true):=by rw[wB,bA]
 have el:=fQ (o:=0) (n:=N) (c:=N) hr
 by_cases dB:(i:Int)<(N:Int)
 ·have hXl:(List.replicate i (aQ q)++List.replicate (N-i) rz).length=N:=by simp;omega
  have uW:∀X:List VV,X=List.replicate i (aQ q)++List.replicate (N-i) rz→(((X.map id).drop 0).take i).all (fun x=>(aB x).all bP)=true:=by
   rintro X rfl
   rw[List.map_id,List.drop_zero,List.take_append_of_le_length (by simp),List.take_of_length_le (by simp),List.all_eq_true]
   intro x hx
   rw[List.eq_of_mem_replicate hx]
   rfl
  have q1:=M7 (o:=0) (n:=N) (c:=N) (l:=i) (k1 := .i64) hr hi (Nat.le_refl _)
  have q2:=Jl (o:=0) (n:=N) (c:=N) (h:=i) (k2 := .i64) hr hi
  have hY:((List.replicate i (aQ q)++List.replicate (N-i) rz).drop 0).take i=List.replicate i (aQ q):=by
   rw[List.drop_zero,List.take_append_of_le_length (by simp),List.take_of_length_le (by simp)]
  have q3:cU 3 (.ref H.length 0 0 i N) (H++[.row 0 ((List.replicate i (aQ q)++List.replicate (N-i) rz).map id) 3 true])=some ((List.replicate i (aQ q)).map id):=by
   have hs:=uW _ rfl
   simp only[cU,hr]
   rw[if_pos ⟨trivial,by rw[List.length_map,hXl];omega,hs⟩,List.map_id,List.map_id,hY]
  have hYd:(List.replicate i (aQ q)).take (N-i)=List.replicate (min (N-i) i) (aQ q):=List.take_replicate
  have q4:=OJ (f:=id) (lo:=lo) (o:=i) (d:=N-i) (cc:=N-i) hr q3 dK (by rw[hYd,hXl];simp;omega)
  rw[TI,hYd,List.length_replicate,List.take_append_of_le_length (by simp),List.take_of_length_le (by simp)] at q4
  have hX':List.replicate i (aQ q)++List.replicate (min (N-i) i) (aQ q)++(List.replicate i (aQ q)++List.replicate (N-i) rz).drop (i+min (N-i) i)=List.replicate (i+min (N-i) i) (aQ q)++List.replicate (N-(i+min (N-i) i)) rz:=by
   rw[List.replicate_append_replicate,List.drop_append,List.drop_of_length_le (by simp),List.nil_append,List.length_replicate,List.drop_replicate]
   congr 2
   omega
  rw[hX'] at q4
  have wi:IntKind.i64.wrap ((i:Int)+((min (N-i) i:Nat):Int))=((i+min (N-i) i:Nat):Int):=wrapN _ (by omega) (by omega)
  simp only[eT,h7,h8,el,dB,q1,q2,q3,q4,wi,dX,VX,Nat.reduceEqDiff,Nat.reduceAdd,Nat.reduceLeDiff,Nat.reduceLT,Nat.reduceSub]
  exact⟨i+min (N-i) i,by omega,by omega,by omega,by (repeat' apply And.intro)<;>first | rfl | trivial | assumption⟩
 ·have nY:i=N:=by omega
  subst nY
  simp only[eT,h7,h8,el,dB,dX,VX,Nat.reduceEqDiff,Nat.reduceAdd,Nat.reduceLeDiff,Nat.reduceLT,Nat.reduceSub]
  rw[Nat.sub_self,List.replicate_zero,List.append_nil,List.map_id,List.map_replicate]
theorem TA (a n:Nat):((List.range n).map fun k=>a+k).Nodup:=List.pairwise_map.2 (List.nodup_range.imp fun h=>by omega)
theorem PT {lo:Nat} {H:aA} (N:Nat) (hN:N≤1000) (dK:lo≤H.length) :
  gV 99 [VI N] lo H (F1 (TabIs aQ 3 (List.replicate N (List.replicate N (0:Rat)))) H):=by
 refine gV.walk ⟨true,false⟩ Qa (Nat.le_of_ble_eq_true rfl) ?_
 have em:=fun H=>tH (H:=H) (f:=id) (x := .tree [] .nil) (z:=[.slice none 0 0]) (bytes:=24) (n:=N) rfl (by omega) (by omega)
 have el0:=fQ (H:=H++[.row 0 ((List.replicate N (VV.tree [] .nil)).map id) 1 true]) (b:=H.length) (g:=0) (o:=0) (n:=N) (c:=N) fN
 simp only[KJ,Gx,em,el0,List.length_cons,List.length_nil,Nat.zero_add,dX,VX,Nat.reduceEqDiff,Nat.reduceAdd,Nat.reduceLeDiff,Nat.reduceLT,Nat.reduceSub]
 refine aS (fun(i:Nat) ρ H1=>i≤N∧H1=H ++ .row 0 (((List.range i).map fun k=>VV.ref (H.length+1+k) 0 0 N N)++List.replicate (N-i) (VV.tree [] TK.nil)) 1 true::List.replicate i (.row 0 ((List.replicate N (0:Rat)).map aQ) 3 true)∧ρ 0=VI N∧ρ 3 = .ref H.length 0 0 N N∧ρ 8=VI N∧ρ 9=VI i) (fun i=>N-i) 0 ⟨Nat.zero_le _,by simp,rfl,rfl,rfl,rfl⟩ ?_
 rintro i ρ H1 ⟨hi,rfl,g0,g3,g8,g9⟩
 have e1:TC 64 [VI 0] (aQ 0):=sP 0 (by decide) (by decide)
 have eL:∀H,jC false [.bool false,.slice none 0 0,.slice none 0 0] 1 [(0,aQ 0)] H=some (.tree [aQ 0] (.cl 3),H):=fun H=>gE rfl rfl rfl
 by_cases dB:(i:Int)<(N:Int)
 ·have wi:IntKind.i64.wrap ((i:Int)+1)=((i+1:Nat):Int):=wrapN (i+1) (by omega) (by omega)
  simp only[Ac,g0,g3,g8,g9,dB,e1,eL,dX,VX,Nat.reduceEqDiff,Nat.reduceAdd,Nat.reduceLeDiff,Nat.reduceLT,Nat.reduceSub]
  refine gI rfl ((El 0 N (by omega) (by rw[List.length_append];omega)).mono ?_)
  rintro r H' ⟨rfl,rfl⟩
  have hl:(H++cO.row 0 (((List.range i).map fun k=>VV.ref (H.length+1+k) 0 0 N N)++List.replicate (N-i) (VV.tree [] TK.nil)) 1 true::List.replicate i (.row 0 ((List.replicate N (0:Rat)).map aQ) 3 true)).length=H.length+1+i:=by simp;omega
  rw[hl,List.append_assoc,List.cons_append]
  have hr:aI (H++cO.row 0 (((List.range i).map fun k=>VV.ref (H.length+1+k) 0 0 N N)++List.replicate (N-i) (VV.tree [] TK.nil)) 1 true::(List.replicate i (.row 0 ((List.replicate N (0:Rat)).map aQ) 3 true)++[.row 0 ((List.replicate N (0:Rat)).map aQ) 3 true])) H.length 0=some ((((List.range i).map fun k=>VV.ref (H.length+1+k) 0 0 N N)++List.replicate (N-i) (VV.tree [] TK.nil)),1,true):=by rw[wB,bA]
  have a1:=bE (o:=0) (n:=N) (c:=N) (i:=i) (k := .i64) hr (by omega)
  have a2:=bU (lo:=lo) (v := .ref (H.length+1+i) 0 0 N N) (j:=i) hr (by simp;omega) dK rfl rfl
  rw[TI,List.set_cons_zero] at a2
  have hs:(((List.range i).map fun k=>VV.ref (H.length+1+k) 0 0 N N)++List.replicate (N-i) (VV.tree [] TK.nil)).set i (.ref (H.length+1+i) 0 0 N N)=((List.range (i+1)).map fun k=>VV.ref (H.length+1+k) 0 0 N N)++List.replicate (N-(i+1)) (VV.tree [] TK.nil):=by
   obtain⟨m,hm⟩:∃m,N-i=m+1:=⟨N-i-1,by omega⟩
   have hm':N-(i+1)=m:=by omega
   rw[List.set_append_right _ _ (by simp),hm,hm',List.length_map,List.length_range,Nat.sub_self,List.replicate_succ,List.set_cons_zero,List.range_succ,List.map_append,List.append_assoc]
   rfl
  rw[hs] at a2
  rw[Nat.zero_add] at a1
  simp only[a1,a2,wi,g9,dX,VX,Nat.reduceEqDiff,Nat.reduceAdd,Nat.reduceLeDiff,Nat.reduceLT,Nat.reduceSub]
  exact⟨i+1,by omega,by omega,by rw[List.replicate_succ'],by (repeat' apply And.intro)<;>first | rfl | trivial | assumption⟩
 ·have nY:i=N:=by omega
  subst nY
  simp only[Ac,g3,g8,g9,dB,dX,VX,Nat.reduceEqDiff,Nat.reduceAdd,Nat.reduceLeDiff,Nat.reduceLT,Nat.reduceSub]
  refine⟨List.prefix_append _ _,H.length,0,i,(List.range i).map fun k=>⟨H.length+1+k,0,i,List.replicate i 0⟩,by rw[List.length_replicate],by rw[List.length_replicate];exact Nat.le_refl _,⟨?_,Nat.le_refl _,by simp,?_,?_⟩,?_⟩
  ·rw[wB,bA,Nat.sub_self,List.replicate_zero,List.append_nil,List.map_map]
   simp[nB,Function.comp_def]
  ·rw[List.map_map]
   exact TA (H.length+1) i
  ·intro r hr
   obtain⟨k,hk,rfl⟩:=List.mem_map.1 hr
   rw[List.mem_range] at hk
   refine⟨by simp only;omega,by simp;omega,by simp only;omega,by simp,?_⟩
   have:H.length+1+k=H.length+(k+1):=by omega
   simp only[this]
   rw[PS,lL,cG,List.getElem?_replicate,if_pos hk]
  ·rw[List.map_map]
   apply List.ext_getElem?
   intro k
   rw[List.getElem?_map,List.getElem?_replicate]
   by_cases hk:k<i
   ·simp[hk,List.getElem?_range]
   ·simp[hk]
theorem Nj {lo:Nat} {H:aA} {v:VV} (qs:List Rat) (d:Rat) (hd:d≠0) (hv:Rd aQ 3 qs H v) (dK:lo≤H.length) (hn:qs.length≤1000000) (hb:∀q∈qs,aU q≤1099511627776) (hdk:aU d≤1099511627776) :
  gV 149 [v,aQ d] lo H (F1 (Jc aQ 3 (qs.map (· / d))) H):=by
 refine gV.walk ⟨true,false⟩ MX (Nat.le_of_ble_eq_true rfl) ?_
 have e0:∀K,jC false [.bool false,.slice none 0 0,.slice none 0 0] 0 [] K=some (.ref K.length 0 0 0 0,K++[.row 0 [] 3 true]):=fun K=>iE rfl
 have e1:=hv.len _ (List.prefix_append H [.row 0 [] 3 true])
 simp only[Ju,EZ,e0,e1,aH,dE,dF,aV,aY,aP,dX,VX,Nat.reduceEqDiff,Nat.reduceAdd,Nat.reduceLeDiff,Nat.reduceLT,Nat.reduceSub]
 refine aS (fun(i:Nat) ρ H1=>i≤qs.length∧H <+: H1∧aI H1 H.length i=some (((qs.take i).map (· / d)).map aQ,3,true)∧ρ 3 = .cN (aQ d) 0∧ρ 5 = .ref H.length i 0 i i∧ρ 9=v∧ρ 10=VI qs.length∧ρ 11=VI i) (fun i=>qs.length-i) 0 ⟨Nat.zero_le _,List.prefix_append _ _,by rw[wB,bA];rfl,rfl,rfl,rfl,rfl,rfl⟩ ?_
 rintro i ρ H1 ⟨hi,hp,kC,g3,g5,g9,g10,g11⟩
 have Cz:=gN kC
 by_cases dB:(i:Int)<(qs.length:Int)
 ·obtain⟨q,hq⟩:∃q,qs[i]? = some q:=⟨_,List.getElem?_eq_getElem (by omega)⟩
  obtain⟨p,a1,a2⟩:=hv.get H1 hp i q hq
  have a2':=(a2 true).trans (dF _)
  have wi:IntKind.i64.wrap ((i:Int)+1)=((i+1:Nat):Int):=wrapN (i+1) (by omega) (by omega)
  have e3:=J1 q d hd (hb q (List.mem_of_getElem? hq)) hdk
  have eL:∀H,jC false [.bool false,.slice none 0 0,.slice none 0 0] 1 [(0,aQ (q / d))] H=some (.tree [aQ (q / d)] (.cl 3),H):=fun H=>gE rfl rfl rfl
  have eS:∀H,cU 3 (.tree [aQ (q / d)] (.cl 3)) H=some [aQ (q / d)]:=fun H=>dQ rfl rfl
  have eP:eW lo 3 56 (.ref H.length i 0 i i) [aQ (q / d)] (H1++[cO.row 0 [aQ q] 3 true])=some (.ref H.length (i+1) 0 (i+1) (i+1),(H1++[cO.row 0 [aQ q] 3 true]).set H.length (.row (i+1) (((qs.take (i+1)).map (· / d)).map aQ) 3 true)):=by
   rw[iC (f:=aQ) (xs:=(qs.take i).map (· / d)) (cF kC) (by simp;omega) dK (by decide) (by decide) (by omega),gU hq]
   simp only[List.map_append]
   rfl
  have s1:=Bc (lo:=lo) (H:=H1) (q:=q) (by omega)
  have s2:=Ki (H:=H1) (K:=[]) (q:=q)
  simp only[xL,g3,g5,g9,g10,g11,dB,a1,a2',e3,eL,eS,eP,s1,s2,wi,dF,dX,VX,Nat.reduceEqDiff,Nat.reduceAdd,Nat.reduceLeDiff,Nat.reduceLT,Nat.reduceSub]
  exact⟨i+1,by omega,by omega,kW (jN hp) (Nat.le_refl _),bZ (cF kC),by (repeat' apply And.intro)<;>first | rfl | trivial | assumption⟩
 ·have nY:i=qs.length:=by omega
  subst nY
  rw[List.take_length] at kC
  simp only[xL,g5,g10,g11,dB,dX,VX,Nat.reduceEqDiff,Nat.reduceAdd,Nat.reduceLeDiff,Nat.reduceLT,Nat.reduceSub]
  exact⟨hp,H.length,qs.length,qs.length,Nat.le_refl _,Cz,by rw[List.length_map],by rw[List.length_map];exact Nat.le_refl _,kC⟩
end Go.PM
namespace Go.PM
structure atH (s:Kn):Prop where
 b4:s.b.length≤400000000
 e4:s.e.length≤400000000
 g4:s.g.length≤400000000∧∀x∈s.g,x.length≤400000000
 bs:∀x∈s.b,x.size≤1000000000
 es:∀x∈s.e,x.size≤1000000000
 gs:∀x∈s.g,∀y∈x,y.size≤1000000000
theorem atH.g9 {s:Kn} (h:atH s):s.g.length≤1000000000∧∀x∈s.g,x.length≤1000000000:=⟨by have:=h.g4.1;omega,fun x hx=>by have:=h.g4.2 x hx;omega⟩
end Go.PM
namespace Go.PM
def qO {β:Type} (k:Int):List (List β)→List (List ByteArray)
 | []=>[]
 | x::xs=>lA k x.length::qO (k+x.length) xs
def cW {β:Type} (xs:List (List β)):Nat:=(xs.map List.length).sum
section
variable {β:Type}
theorem KF (xs:List (List β)) (k:Int):(qO k xs).length=xs.length:=by
 induction xs generalizing k with
 | nil=>rfl
 | cons x xs ih=>simp[qO,ih]
theorem Jn {xs:List (List β)} {i:Nat} {x:List β} (h:xs[i]? = some x):cW (xs.take (i+1))=cW (xs.take i)+x.length:=by
 rw[List.take_add_one,h]
 simp[cW]
theorem FJ {xs:List (List β)} {i:Nat} {x:List β} {k:Int} (h:xs[i]? = some x):(qO k xs)[i]? = some (lA (k+cW (xs.take i)) x.length):=by
 induction xs generalizing i k with
 | nil=>cases h
 |
  cons y ys ih =>
  cases i with
  | zero=>injection h with h;subst h;simp[qO,cW]
  |
   succ i =>
   simp only[qO,List.getElem?_cons_succ] at h ⊢
   rw[ih h]
   simp only[List.take_succ_cons,cW,List.map_cons,List.sum_cons,Int.natCast_add]
   rw[Int.add_assoc]
theorem Ot {xs:List (List β)} (i:Nat):cW (xs.take i)≤cW xs:=by
 induction xs generalizing i with
 | nil=>simp[cW]
 |
  cons x xs ih =>
  cases i with
  | zero=>simp[cW]
  |
   succ i =>
   have:=ih i
   simp only[List.take_succ_cons,cW,List.map_cons,List.sum_cons] at this ⊢
   omega
end
theorem Ea (k:Int) (xs:List (List ByteArray)) (hk:0≤k∧k≤10000000) (hn:xs.length≤10000000) (ht:cW xs≤10000000):TC 74 [rN (qO k xs),VI k] (VI (k+cW xs)):=by
 refine TC.walk ⟨true,false⟩ Eg rfl (Nat.le_of_ble_eq_true rfl) (HI (Bx _) rfl) rfl ?_
 simp only[zC,vU,VX,Nat.reduceEqDiff,Nat.reduceAdd]
 refine aS (fun(i:Nat) ρ H=>i≤xs.length∧H=[]∧ρ 0=rN (qO k xs)∧ρ 1=VI (k+cW (xs.take i))∧ρ 5=VI i) (fun i=>xs.length-i) 0 ⟨Nat.zero_le _,rfl,rfl,by simp only[VX,Nat.reduceEqDiff,Nat.reduceAdd];simp[cW],rfl⟩ ?_
 rintro i ρ H ⟨hi,rfl,h0,h1,h5⟩
 have hlen:=KF xs k
 by_cases dB:(i:Int)<(xs.length:Int)
 ·obtain⟨x,hx⟩:∃x,xs[i]? = some x:=⟨_,List.getElem?_eq_getElem (by omega)⟩
  have e1:=aK (f:=pU) (t := .op) (H:=[]) (size:=1) (k := .i64) (FJ (k:=k) hx) rfl
  have l1:=Jn hx
  have l2:=Ot (xs:=xs) (i+1)
  have e3:=FF (k+cW (xs.take i)) x.length (by omega) (by omega)
  have oU:¬(k+(cW (xs.take i):Int)+(x.length:Int))<0:=by omega
  have wi:IntKind.i64.wrap ((i:Int)+1)=((i+1:Nat):Int):=wrapN (i+1) (by omega) (by omega)
  simp only[oA,h0,h1,h5,dB,e1,e3,wi,hlen,oU,eq_self,VX,Nat.reduceEqDiff,Nat.reduceAdd]
  refine⟨i+1,by omega,by omega,?_⟩
  rw[l1,Int.natCast_add,←Int.add_assoc]
  (repeat' apply And.intro)<;>first | rfl | trivial
 ·have nY:i=xs.length:=by omega
  subst nY
  simp only[oA,h0,h1,h5,dB,hlen,VX,Nat.reduceEqDiff,Nat.reduceAdd]
  rw[List.take_of_length_le (Nat.le_refl _)]
  exact aF rfl
theorem Eb {lo b g c:Nat} {H:aA} (rs:List (vJ ByteArray)) (k:Int) (hr:aI H b g=some (rs.map nB,1,true)) (hR:NY sV 1 lo H.length b H rs) (dK:lo≤b) (hk:0≤k∧k≤10000000) (hn:rs.length≤10000000) (ht:cW (rs.map (·.xs))≤10000000) :
  gV 21 [.ref b g 0 rs.length c,VI k] lo H fun r H'=>r=VI (k+cW (rs.map (·.xs)))∧H'.length=H.length∧(∀b' g' x,(∀r∈rs,r.b≠b')→aI H b' g'=some x→aI H' b' g'=some x) ∧
   ∀i r,rs[i]? = some r→aI H' r.b r.g=some ((lA (k+cW ((rs.map (·.xs)).take i)) r.xs.length).map sV,1,true):=by
 refine gV.walk ⟨true,false⟩ vV (Nat.le_of_ble_eq_true rfl) ?_
 simp only[rS,pO,VX,Nat.reduceEqDiff,Nat.reduceAdd]
 refine aS (fun(i:Nat) ρ H1=>i≤rs.length∧H1.length=H.length∧(∀b' g' x,(∀r∈rs,r.b≠b')→aI H b' g'=some x→aI H1 b' g'=some x) ∧
   (∀j r,rs[j]? = some r→aI H1 r.b r.g=some ((if j<i then lA (k+cW ((rs.map (·.xs)).take j)) r.xs.length else r.xs).map sV,1,true))∧ρ 0 = .ref b g 0 rs.length c∧ρ 1=VI (k+cW ((rs.map (·.xs)).take i))∧ρ 5=VI i) (fun i=>rs.length-i) 0
  ⟨Nat.zero_le _,rfl,fun _ _ _ _ h=>h,fun j r h=>by rw[if_neg (by omega)];exact(hR.row r (List.mem_of_getElem? h)).2.2.2.2,rfl,by simp only[VX,Nat.reduceEqDiff,Nat.reduceAdd];simp[cW],rfl⟩ ?_
 rintro i ρ H1 ⟨hi,hH1,hold,acE,h0,h1,h5⟩
 have hR1:=hold b g _ (fun r hr=>(hR.row r hr).2.2.1) hr
 have el:=fQ (o:=0) (n:=rs.length) (c:=c) hR1
 by_cases dB:(i:Int)<(rs.length:Int)
 ·obtain⟨r,T9⟩:∃r,rs[i]? = some r:=⟨_,List.getElem?_eq_getElem (by omega)⟩
  have CC:=hR.row r (List.mem_of_getElem? T9)
  have hxi:(rs.map (·.xs))[i]? = some r.xs:=by simp[T9]
  have l1:=Jn hxi
  have l2:=Ot (xs:=rs.map (·.xs)) (i+1)
  have e1:=bE (o:=0) (n:=rs.length) (c:=c) (i:=i) (k := .i64) hR1 (by omega)
  have e2:bT false 1 (.ptr b g i 0) H1=some (nB r):=by rw[oV (f:=nB) hR1 T9];rfl
  have wi:IntKind.i64.wrap ((i:Int)+1)=((i+1:Nat):Int):=wrapN (i+1) (by omega) (by omega)
  simp only[kQ,h0,h1,h5,dB,el,e1,e2,Nat.zero_add,VX,Nat.reduceEqDiff,Nat.reduceAdd]
  have kC:=acE i r T9
  rw[if_neg (by omega)] at kC
  refine gI rfl ((Fa r.xs _ kC (Nat.le_refl _) CC.1 (by omega) (by omega)).mono ?_)
  rintro v H2 ⟨rfl,rfl⟩
  simp only[h5,wi,VX,Nat.reduceEqDiff,Nat.reduceAdd]
  refine⟨i+1,by omega,by omega,by simpa using hH1,fun b' g' x uC h=>cD (uC r (List.mem_of_getElem? T9)) (hold b' g' x uC h),fun j r' hj => ?_,h0,?_,rfl⟩
  ·by_cases HD:j=i
   ·subst HD
    rw[T9] at hj
    injection hj with hj
    subst hj
    rw[if_pos (by omega),bZ kC,List.drop_length,List.append_nil]
   ·have fC:r.b≠r'.b:=fun he=>HD (by
     have h1:(rs.map (·.b))[i]? = some r.b:=by simp[T9]
     have h2:(rs.map (·.b))[j]? = some r.b:=by simp[hj,he]
     exact RW hR.nd h2 h1)
    rw[cD fC (acE j r' hj)]
    by_cases bF:j<i
    ·rw[if_pos bF,if_pos (by omega)]
    ·rw[if_neg bF,if_neg (by omega)]
  ·rw[l1,Int.natCast_add,←Int.add_assoc]
 ·have nY:i=rs.length:=by omega
  subst nY
  simp only[kQ,h0,h1,h5,dB,el,VX,Nat.reduceEqDiff,Nat.reduceAdd]
  rw[List.take_of_length_le (by simp)]
  refine⟨rfl,hH1,hold,fun j r hj => ?_⟩
  have:=acE j r hj
  rw[if_pos (List.getElem?_eq_some_iff.1 hj).1] at this
  exact this
theorem Cs {lo:Nat} {H:aA} (k:Int):gV 21 [.tree [] .nil,VI k] lo H fun r H'=>r=VI k∧H'=H:=by
 refine gV.walk ⟨true,false⟩ vV (Nat.le_of_ble_eq_true rfl) ?_
 simp only[rS,pO,VX,Nat.reduceEqDiff,Nat.reduceAdd]
 refine aS (fun(_:Unit) ρ H1=>H1=H∧ρ 0 = .tree [] .nil∧ρ 1=VI k∧ρ 5=VI 0) (fun _=>0) () ⟨rfl,rfl,rfl,rfl⟩ ?_
 rintro _ ρ H1 ⟨rfl,h0,h1,h5⟩
 simp only[kQ,h0,h1,h5,List.length_nil,Int.natCast_zero,Int.lt_irrefl,Int.reduceLT,VX,Nat.reduceEqDiff,Nat.reduceAdd]
theorem ahN {lo hi gO:Nat} {bJ:List (List ByteArray)} {H:aA} {v:VV} {k:Int} {K:VV→aA→Prop} (hv:RG sV 1 bJ lo hi H v) (dK:gO≤lo) (hk:0≤k∧k≤10000000) (hn:bJ.length≤10000000) (ht:cW bJ≤10000000)
  (hK:∀H',H'.length=H.length→RG sV 1 (qO k bJ) lo hi H' v→(∀b g x,b<lo∨hi≤b→aI H b g=some x→aI H' b g=some x)→K (VI (k+cW bJ)) H') :
  cS 21 [v,VI k] gO H K:=by
 rcases hv with⟨rfl,rfl⟩ | ⟨b,g,c,rs,h1,h2,rfl,h4,h5,rfl,h7⟩
 ·refine gI rfl ((Cs k).mono ?_)
  rintro r H' ⟨rfl,rfl⟩
  have:=hK H' rfl (.inl ⟨rfl,rfl⟩) fun _ _ _ _ h=>h
  simpa[cW] using this
 ·have h7':NY sV 1 gO H.length b H rs:=⟨h7.nd,fun r hr=>⟨Nat.le_trans dK (h7.row r hr).1,gN (h7.row r hr).2.2.2.2,(h7.row r hr).2.2⟩⟩
  rw[List.length_map] at h4 hn ⊢
  refine gI rfl ((Eb (lo:=gO) (c:=c) rs k h5 h7' (Nat.le_trans dK h1) hk hn ht).mono ?_)
  rintro r H' ⟨rfl,hl,hold,sH⟩
  refine hK _ hl ?_ fun b' g' x uC h=>hold b' g' x (fun r hr=>by have:=h7.row r hr;omega) h
  have T9:∀i,i<rs.length→∃r,rs[i]? = some r:=fun i hi=>⟨_,List.getElem?_eq_getElem hi⟩
  have hml:(qO k (rs.map (·.xs))).length=rs.length:=by rw[KF,List.length_map]
  let Wx:List (vJ ByteArray):=rs.zipWith (fun r x=>{ r with xs:=x }) (qO k (rs.map (·.xs)))
  have rG:∀(i:Nat) (r:vJ ByteArray),rs[i]? = some r→Wx[i]? = some { r with xs:=lA (k+cW ((rs.map (·.xs)).take i)) r.xs.length }:=fun i r hr=>by
   have hm:=FJ (k:=k) (xs:=rs.map (·.xs)) (i:=i) (x:=r.xs) (by simp[hr])
   show (List.zipWith _ _ _)[i]? = _
   rw[List.getElem?_zipWith,hr,hm]
  have BV:Wx.length=rs.length:=by simp[Wx,hml]
  have hex:∀ {γ:Type} (F G:vJ ByteArray→γ),(∀(i:Nat) (r:vJ ByteArray),rs[i]? = some r→F { r with xs:=lA (k+cW ((rs.map (·.xs)).take i)) r.xs.length }=G r)→Wx.map F=rs.map G:=fun F G hFG=>by
   apply List.ext_getElem?
   intro i
   rcases Nat.lt_or_ge i rs.length with h | h
   ·obtain⟨r,hr⟩:=T9 i h
    rw[List.getElem?_map,List.getElem?_map,rG i r hr,hr]
    simp only[Option.map_some,hFG i r hr]
   ·rw[List.getElem?_eq_none (by rw[List.length_map,BV];exact h),List.getElem?_eq_none (by rw[List.length_map];exact h)]
  have ayZ:Wx.map (·.b)=rs.map (·.b):=hex _ _ fun _ _ _=>rfl
  have Ud:Wx.map nB=rs.map nB:=hex _ _ fun i r _=>by simp[nB,Sz]
  have ayT:Wx.map (·.xs)=qO k (rs.map (·.xs)):=by
   apply List.ext_getElem?
   intro i
   rcases Nat.lt_or_ge i rs.length with h | h
   ·obtain⟨r,hr⟩:=T9 i h
    rw[List.getElem?_map,rG i r hr,FJ (x:=r.xs) (by simp[hr])]
    rfl
   ·rw[List.getElem?_eq_none (by rw[List.length_map,BV];exact h),List.getElem?_eq_none (by rw[hml];exact h)]
  refine .inr ⟨b,g,c,Wx,h1,h2,by rw[hml,List.length_map],by rw[hml];exact h4,?_,ayT,by rw[ayZ];exact h7.nd,fun r' Eu => ?_⟩
  ·rw[Ud]
   exact hold _ _ _ (fun r hr=>(h7.row r hr).2.2.1) h5
  ·obtain⟨i,hi⟩:=List.getElem?_of_mem Eu
   obtain⟨r,hr⟩:=T9 i (by rw[←BV];exact(List.getElem?_eq_some_iff.1 hi).1)
   rw[rG i r hr] at hi
   injection hi with hi
   subst hi
   have hm:=h7.row r (List.mem_of_getElem? hr)
   exact⟨hm.1,hm.2.1,hm.2.2.1,by rw[wX];exact hm.2.2.2.1,sH i r hr⟩
theorem Lt (xs ys:List (List ByteArray)) (hn:xs.length≤1000000000) (U8:∀x∈xs,x.length≤1000000000):TC 19 [chV xs,chV ys] (VB (decide (xs=ys))):=by
 refine TC.walk ⟨true,false⟩ KS rfl (Nat.le_of_ble_eq_true rfl) (HI (AQ _) (AQ _)) rfl ?_
 have e1:=Ha xs ys hn U8
 by_cases h:xs=ys
 ·rw[decide_eq_true h] at e1 ⊢
  simp only[BP,yE,e1,PL,VX,Nat.reduceEqDiff,Nat.reduceAdd]
  exact aF rfl
 ·rw[decide_eq_false h] at e1 ⊢
  simp only[BP,yE,e1,PL,VX,Nat.reduceEqDiff,Nat.reduceAdd]
  exact aF rfl
theorem IN (k:Int) (xs:List (List ByteArray)) (hk:0≤k∧k≤10000000) (hn:xs.length≤10000000) (ht:cW xs≤10000000):TC 23 [chV (qO k xs),VI k] (VI (k+cW xs)):=by
 refine TC.walk ⟨true,false⟩ HN rfl (Nat.le_of_ble_eq_true rfl) (HI (AQ _) rfl) rfl ?_
 have e1:=Ea k xs hk hn ht
 have h:¬(k+(cW xs:Int))<0:=by omega
 simp only[CV,AJ,e1,PL,h,VX,Nat.reduceEqDiff,Nat.reduceAdd]
 exact aF rfl
theorem aiM {lo hi gO:Nat} {bJ:List (List ByteArray)} {H:aA} {v:VV} {k:Int} {K:VV→aA→Prop} (hv:CG bJ lo hi H v) (dK:gO≤lo) (hk:0≤k∧k≤10000000) (hn:bJ.length≤10000000) (ht:cW bJ≤10000000)
  (hK:∀H',H'.length=H.length→CG (qO k bJ) lo hi H' v→(∀b g x,b<lo∨hi≤b→aI H b g=some x→aI H' b g=some x)→K (VI (k+cW bJ)) H') :
  cS 22 [v,VI k] gO H K:=by
 obtain⟨c,rfl,hv⟩:=hv
 refine gI rfl (gV.walk ⟨true,false⟩ Hz (Nat.le_of_ble_eq_true rfl) ?_)
 simp only[C5,Av,Qj,List.getElem?_cons_zero,VX,Nat.reduceEqDiff,Nat.reduceAdd]
 have adQ:aB c=[c]∧bP c=true:=by
  rcases hv with⟨rfl,rfl⟩ | ⟨b,g,c,rs,h1,h2,rfl,h3⟩<;>exact⟨rfl,rfl⟩
 simp only[adQ.2,List.all_cons,List.all_nil,E3,Qj,List.getElem?_cons_zero,VX,Nat.reduceEqDiff,Nat.reduceAdd]
 refine ahN hv dK hk hn ht fun H' h1 h2 h3 => ?_
 simp only[VX,Nat.reduceEqDiff,Nat.reduceAdd]
 exact hK H' h1 ⟨c,rfl,h2⟩ h3
def svN (s:Kn):Nat:=s.b.length+cW s.g+s.e.length
theorem Tt.cell {α:Type} {f:α→VV} {e lo hi:Nat} {H:aA} {v:VV} {bJ:List α} (h:Tt f e bJ lo hi H v):bP v=true:=by
 rcases h with⟨rfl,rfl⟩ | ⟨b,g,c,h1,h2,rfl,h3⟩<;>rfl
theorem RG.cell {α:Type} {f:α→VV} {e lo hi:Nat} {H:aA} {v:VV} {bJ:List (List α)} (h:RG f e bJ lo hi H v):bP v=true:=by
 rcases h with⟨rfl,rfl⟩ | ⟨b,g,c,rs,h1,h2,rfl,h3⟩<;>rfl
end Go.PM
namespace Go.PM
open Go.Lib
section
variable {α:Type} {f:α→VV} {e:Nat}
def NS (f:α→VV) (e:Nat) (bJ:List (List α)) (lo hi:Nat) (H:aA) (v:VV):Prop :=
 (v = .tree [] .nil∧bJ=[])∨∃b g rs,lo≤b∧b<hi∧v = .ref b g 0 bJ.length bJ.length∧aI H b g=some (rs.map nB,1,true)∧rs.map (·.xs)=bJ∧NY f e lo hi b H rs
theorem NS.rg {bJ:List (List α)} {lo hi:Nat} {H:aA} {v:VV} (h:NS f e bJ lo hi H v):RG f e bJ lo hi H v:=by
 rcases h with h | ⟨b,g,rs,h1,h2,h3,h5,h6,h7⟩
 ·exact .inl h
 ·exact .inr ⟨b,g,_,rs,h1,h2,h3,Nat.le_refl _,h5,h6,h7⟩
theorem NS.cJ {bJ:List (List α)} {lo hi:Nat} {H H':aA} {v:VV} (h:NS f e bJ lo hi H v) (hk:dH lo hi H H'):NS f e bJ lo hi H' v:=by
 rcases h with h | ⟨b,g,rs,h1,h2,h3,h5,h6,h7⟩
 ·exact .inl h
 ·exact .inr ⟨b,g,rs,h1,h2,h3,hk _ _ _ h1 h2 h5,h6,h7.nd,fun r hr=>by
   obtain⟨k1,k2,k3,k4,k5⟩:=h7.row r hr
   exact⟨k1,k2,k3,k4,hk _ _ _ k1 k2 k5⟩⟩
theorem NS.wide {bJ:List (List α)} {lo hi gO kX:Nat} {H:aA} {v:VV} (h:NS f e bJ lo hi H v) (hl:gO≤lo) (hh:hi≤kX):NS f e bJ gO kX H v:=by
 rcases h with h | ⟨b,g,rs,h1,h2,h3,h5,h6,h7⟩
 ·exact .inl h
 ·exact .inr ⟨b,g,rs,by omega,by omega,h3,h5,h6,h7.nd,fun r hr=>by
   obtain⟨k1,k2,k3,k4,k5⟩:=h7.row r hr
   exact⟨by omega,by omega,k3,k4,k5⟩⟩
theorem NS.fS {bJ:List (List α)} {lo hi:Nat} {H:aA} {v:VV} (h:NS f e bJ lo hi H v):bP v=true∧aB v=[v]∧isAny v=false:=by
 rcases h with⟨rfl,rfl⟩ | ⟨b,g,rs,h1,h2,rfl,h3⟩<;>exact⟨rfl,rfl,rfl⟩
theorem NS.anC {bJ:List (List α)} {lo hi:Nat} {H:aA} {v:VV} (h:NS f e bJ lo hi H v):oI v H=some (VI bJ.length):=by
 rcases h with⟨rfl,rfl⟩ | ⟨b,g,rs,h1,h2,rfl,h5,h6,h7⟩
 ·rfl
 ·exact fQ h5
theorem NS.snoc {bJ:List (List α)} {lo gO hi:Nat} {H:aA} {v:VV} (h:NS f e bJ lo hi H v) (dK:gO≤lo) (hn:bJ.length≤1000000000) (r:vJ α) (hhi:hi≤r.b) (yS:lo≤r.b) (hc:r.xs.length≤r.c) (hr:aI H r.b r.g=some (r.xs.map f,e,true)) :
  ∃v' H3,eW gO 1 24 v [.ref r.b r.g 0 r.xs.length r.c] H=some (v',H3)∧NS f e (bJ++[r.xs]) lo H3.length H3 v'∧(∀b' g' x,b'<lo→aI H b' g'=some x→aI H3 b' g'=some x)∧H.length≤H3.length ∧
   (∀n,n≤lo→BA n H→BA n H3)∧(∀H0:aA,H0.length≤lo→H0 <+: H→H0 <+: H3)∧(∀b' g' x,aI H b' g'=some x→(∀g0 n0 c0,v ≠ .ref b' g0 0 n0 c0)→aI H3 b' g'=some x):=by
 have hb:=gN hr
 rcases h with⟨rfl,rfl⟩ | ⟨b,g,rs,h1,h2,rfl,h5,h6,h7⟩
 ·refine⟨.ref H.length 0 0 1 1,H++[.row 0 [nB r] 1 true],by simp[eW,nB],.inr ⟨H.length,0,[r],by omega,by simp,rfl,fN,rfl,by simp,fun s hs => ?_⟩,fun _ _ _ _ h=>cF h,by simp,fun n hn hO=>hO.app (by simp[nX,fB,nB];omega),fun H0 _ hp=>jN hp,fun _ _ _ h _=>cF h⟩
  rw[List.mem_singleton] at hs
  subst hs
  exact⟨yS,by simp;omega,by omega,hc,cF hr⟩
 ·subst h6
  rw[List.length_map] at hn ⊢
  have rL:=iC (f:=nB) (xs:=rs) (x:=r) (lo:=gO) (bytes:=24) h5 rfl (by omega) (by decide) (by decide) (by omega)
  refine⟨_,_,rL,.inr ⟨b,g+1,rs++[r],h1,by rw[List.length_set];exact gN h5,by simp,bZ h5,by simp,?_,fun s hs => ?_⟩,fun b' g' x uC h=>cD (by omega) h,by simp,fun n hn hO=>hO.set (by omega) ?_,fun H0 hl hp=>kW hp (by omega),fun b' g' x h fC=>cD (fun he=>fC g _ _ (by rw[he])) h⟩
  ·rw[List.map_append,List.nodup_append]
   refine⟨h7.nd,by simp,fun a ha c T1 => ?_⟩
   obtain⟨s,hs,rfl⟩:=List.mem_map.1 ha
   have:=h7.row s hs
   simp only[List.map_cons,List.map_nil,List.mem_singleton] at T1
   omega
  ·rcases List.mem_append.1 hs with hs | hs
   ·obtain⟨k1,k2,k3,k4,k5⟩:=h7.row s hs
    exact⟨k1,by rw[List.length_set];exact gN k5,k3,k4,cD (by omega) k5⟩
   ·rw[List.mem_singleton] at hs
    subst hs
    exact⟨yS,by rw[List.length_set];exact hb,by omega,hc,cD (by omega) hr⟩
  ·rw[Dd]
   intro x hx
   obtain⟨s,hs,rfl⟩:=List.mem_map.1 hx
   rcases List.mem_append.1 hs with hs | hs
   ·have:=h7.row s hs
    simp[nB,fB];omega
   ·rw[List.mem_singleton] at hs
    subst hs
    simp[nB,fB];omega
end
def Y5 {α:Type} (f:α→VV) (e:Nat) (o:Option (List α)) (lo hi:Nat) (H:aA) (v:VV):Prop:=match o with
 | none=>v = .tree [] .nil
 | some ys=>Jc f e ys lo hi H v
theorem Jc.cJ {α:Type} {f:α→VV} {e:Nat} {ys:List α}:∀ {lo hi H H' v},Jc f e ys lo hi H v→dH lo hi H H'→Jc f e ys lo hi H' v:=by
 rintro lo hi H H' v ⟨b,g,c,h1,h2,h3,h4,h5⟩ hk
 exact⟨b,g,c,h1,h2,h3,h4,hk _ _ _ h1 h2 h5⟩
theorem Y5.cJ {α:Type} {f:α→VV} {e:Nat} {o:Option (List α)}:∀ {lo hi H H' v},Y5 f e o lo hi H v→dH lo hi H H'→Y5 f e o lo hi H' v:=by
 intro lo hi H H' v h hk
 cases o with
 | none=>exact h
 | some ys=>exact Jc.cJ h hk
theorem GJ {n n':Nat} {L:aA} (h:n≤n') (hL:eV n' L=true):eV n L=true:=by
 unfold eV at hL ⊢
 rw[List.all_eq_true] at hL ⊢
 intro x hx
 have:=hL x hx
 cases x with
 | dead=>rfl
 | row g es e w=>exact Bf h es this
theorem Az {n:Nat} {H:aA} (h:n≤H.length):G1 H (List.replicate n .dead++List.replicate (H.length-n) .dead):=by
 refine⟨by simp;omega,fun b g es e w hb => ?_⟩
 rw[List.replicate_append_replicate] at hb
 have:=List.eq_of_mem_replicate (List.mem_of_getElem? hb)
 cases this
theorem AK {n k:Nat}:eV n (List.replicate k .dead)=true:=by
 unfold eV
 rw[List.all_eq_true]
 intro x hx
 rw[List.eq_of_mem_replicate hx]
def JW (q:Rat):ByteArray:=⟨(EW q).toArray⟩
def Cm (qs:List Rat):Option (List ByteArray):=if qs.all vX=true then some (qs.map JW) else none
theorem RX {qs:List Rat} {q:Rat} (hq:q∈qs) (h:vX q=false):Cm qs=none:=if_neg (fun ha=>by
 rw[List.all_eq_true] at ha
 rw[ha q hq] at h
 cases h)
theorem N8 {qs:List Rat} (h:∀q∈qs,vX q=true):Cm qs=some (qs.map JW):=if_pos (List.all_eq_true.2 h)
set_option maxHeartbeats 1000000 in
theorem J9 (qs:List Rat) (hn:qs.length≤1000000) (hb:∀q∈qs,aU q≤1099511627776):FC 147 [aT aQ qs] (Vn (Y5 sV 1 (Cm qs)) (Cm qs).isSome):=by
 refine FC.I1 ⟨true,false⟩ Ka (Nat.le_of_ble_eq_true rfl) fun n => ?_
 have e0:∀K,jC false [.string ⟨#[]⟩] 0 [] K=some (.ref K.length 0 0 0 0,K++[.row 0 [] 1 true]):=fun K=>iE rfl
 simp only[Ew,Cf,e0,List.length_replicate,dX,VX,Nat.reduceEqDiff,Nat.reduceAdd,Nat.reduceLeDiff,Nat.reduceLT,Nat.reduceSub]
 refine Sy (fun(i:Nat) ρ H=>i≤qs.length∧(∀q∈qs.take i,vX q=true)∧H=List.replicate n cO.dead++[cO.row i (((qs.take i).map JW).map sV) 1 true]∧ρ 4 = .ref n i 0 i i∧ρ 10=aT aQ qs∧ρ 11=VI qs.length∧ρ 12=VI i) (fun i=>qs.length-i) 0 ⟨Nat.zero_le _,by simp,rfl,rfl,rfl,rfl,rfl⟩ ?_
 rintro i ρ H ⟨hi,sZ,rfl,g4,g10,g11,g12⟩
 have kC:aI (List.replicate n cO.dead++[cO.row i (((qs.take i).map JW).map sV) 1 true]) n i=some (((qs.take i).map JW).map sV,1,true):=by rw[Bz,bA]
 by_cases dB:(i:Int)<(qs.length:Int)
 ·obtain⟨q,hq⟩:∃q,qs[i]? = some q:=⟨_,List.getElem?_eq_getElem (by omega)⟩
  have hqm:=List.mem_of_getElem? hq
  have a1:=fun H=>aK (f:=aQ) (t := .op) (H:=H) (size:=3) (k := .i64) hq rfl
  have wi:IntKind.i64.wrap ((i:Int)+1)=((i+1:Nat):Int):=wrapN (i+1) (by omega) (by omega)
  have e2:=JK q (hb q hqm)
  have s1:=Bc (lo:=n) (H:=List.replicate n cO.dead++[cO.row i (((qs.take i).map JW).map sV) 1 true]) (q:=q) (by simp)
  have s2:=Ki (H:=List.replicate n cO.dead++[cO.row i (((qs.take i).map JW).map sV) 1 true]) (K:=[]) (q:=q)
  cases hf:vX q with
  |
   false =>
   rw[hf] at e2
   rw[RX hqm hf]
   simp only[pH,g4,g10,g11,g12,dB,a1,e2,s1,s2,dF,dX,VX,Nat.reduceEqDiff,Nat.reduceAdd,Nat.reduceLeDiff,Nat.reduceLT,Nat.reduceSub]
   exact⟨_,Az (by simp),rfl,AK,.tree [] .nil,rfl,rfl⟩
  |
   true =>
   rw[hf] at e2
   have eL:∀H,jC false [.string ⟨#[]⟩] 1 [(0,bB (EW q))] H=some (.tree [sV (JW q)] (.cl 1),H):=fun H=>gE rfl rfl rfl
   have eS:∀H,cU 1 (.tree [sV (JW q)] (.cl 1)) H=some [sV (JW q)]:=fun H=>dQ rfl rfl
   have eP:eW n 1 16 (.ref n i 0 i i) [sV (JW q)] (List.replicate n cO.dead++[cO.row i (((qs.take i).map JW).map sV) 1 true]++[.row 0 [aQ q] 3 true])=some (.ref n (i+1) 0 (i+1) (i+1),(List.replicate n cO.dead++[cO.row (i+1) (((qs.take (i+1)).map JW).map sV) 1 true])++[.row 0 [aQ q] 3 true]):=by
    rw[iC (f:=sV) (xs:=(qs.take i).map JW) (cF kC) (by simp;omega) (Nat.le_refl _) (by decide) (by decide) (by omega),gU hq]
    simp only[List.map_append,List.append_assoc,BI]
    rfl
   simp only[pH,g4,g10,g11,g12,dB,a1,e2,s1,s2,eL,eS,eP,wi,dF,dX,VX,Nat.reduceEqDiff,Nat.reduceAdd,Nat.reduceLeDiff,Nat.reduceLT,Nat.reduceSub]
   rw[List.take_left' (by simp)]
   refine⟨i+1,by omega,by rw[aiC,DK (oM _ (gP fun _=>rfl)),OL],by omega,fun p hp => ?_,rfl,?_⟩
   ·rw[gU hq] at hp
    rcases List.mem_append.1 hp with h | h
    ·exact sZ p h
    ·rw[List.mem_singleton] at h;subst h;exact hf
   ·simp only[BN,g10,g11,G0 (Fg _),Oe (show n<(List.replicate n cO.dead++[cO.row i (((qs.take i).map JW).map sV) 1 true]).length by simp),VX,Nat.reduceEqDiff,Nat.reduceAdd,List.take_zero,kL,List.all_nil,List.length_nil,BN,QV,G0]
 ·have nY:i=qs.length:=by omega
  subst nY
  rw[List.take_length] at sZ kC
  rw[N8 sZ]
  simp only[pH,g4,g10,g11,g12,dB,List.take_length,dX,VX,Nat.reduceEqDiff,Nat.reduceAdd,Nat.reduceLeDiff,Nat.reduceLT,Nat.reduceSub]
  refine⟨_,⟨rfl,fun _ _ _ _ _ h=>h⟩,by simp[fB,nX,kB],by simp only[eV,List.all_cons,List.all_nil,Bool.and_true];exact Rn (fun _=>rfl) _,.ref n qs.length 0 qs.length qs.length,rfl,⟨n,qs.length,qs.length,Nat.le_refl _,by simp,by simp,by simp,kC⟩⟩
def vP (m:List (List Rat)):Option (List (List ByteArray)):=m.mapM Cm
theorem OT {n lo:Nat} {args iI:List VV} {F:Nat} {P:Nat→Nat→aA→VV→Prop} {ok:Bool} {H:aA} {K:VV→aA→Prop} (h:FC F iI (Vn P ok)) (xE:Cy.contains F=true) (hf:args.mapM (PM.fz depth H)=some iI) (hO:BA n H)
  (hP:∀ {lo hi H H' v},P lo hi H v→dH lo hi H H'→P lo hi H' v) (hk:∀v H',H <+: H'→BA n H'→fB n v=true→P H.length H'.length H' v→K (.dT [v,.sc (.bool ok)]) H'):cS F args lo H K:=by
 refine h.Z2 xE hf ?_
 rintro r L ⟨v,rfl,hv⟩ hr hL
 have hvo:fB H.length v=true:=by
  simp only[fB,nX,Bool.and_eq_true] at hr
  exact hr.1
 refine hk v _ (List.prefix_append _ _) (hO.pre ?_) (Oc hO.len v hvo) ?_
 ·exact GJ hO.len hL
 ·rw[List.length_append]
  exact hP hv dH.move
set_option maxHeartbeats 2000000 in
theorem HP (m:List (List Rat)) (hn:m.length≤1000000) (hb:∀r∈m,r.length≤1000000∧∀q∈r,aU q≤1099511627776):FC 71 [aT (aT aQ) m] (Vn (CG ((vP m).getD [])) (vP m).isSome):=by
 refine FC.I1 ⟨true,false⟩ H8 (Nat.le_of_ble_eq_true rfl) fun n => ?_
 have s0:bR n 1 (.ptr (n+1) 0 0 0) (.agg [.tree [] .nil]) (List.replicate n cO.dead++[cO.row 0 [.tree [] .nil] 1 true,.row 0 [.tree [] .nil] 1 true])=some (List.replicate n cO.dead++[cO.row 0 [.tree [] .nil] 1 true,.row 0 [.agg [.tree [] .nil]] 1 true]):=by
  rw[bU (e:=1) (g:=0) (j:=0) (by rw[DJ,lL,bA]) (by exact Nat.zero_lt_one) (by omega) rfl rfl,Us]
  rfl
 simp only[CW,AA,s0,Es,List.length_replicate,List.length_cons,List.length_nil,List.append_assoc,List.cons_append,List.nil_append,gH,dX,VX,Nat.reduceEqDiff,Nat.reduceAdd,Nat.reduceLeDiff,Nat.reduceLT,Nat.reduceSub]
 refine aS (fun(i:Nat) ρ H=>i≤m.length∧BA n H∧(∃x v bJ,aI H n 0=some ([.tree [] .nil],1,true)∧aI H (n+1) 0=some ([x],1,true)∧aB x=[v]∧vP (m.take i)=some bJ∧NS sV 1 bJ (n+2) H.length H v)∧ρ 2 = .ptr n 0 0 0∧ρ 4 = .ptr (n+1) 0 0 0∧ρ 10=aT (aT aQ) m∧ρ 11=VI m.length∧ρ 12=VI i) (fun i=>m.length-i) 0
  ⟨Nat.zero_le _,⟨[.row 0 [.tree [] .nil] 1 true,.row 0 [.agg [.tree [] .nil]] 1 true],rfl,rfl⟩,⟨.agg [.tree [] .nil],.tree [] .nil,[],by rw[Bz,bA],by rw[DJ,lL,bA],rfl,rfl,.inl ⟨rfl,rfl⟩⟩,rfl,rfl,rfl,rfl,rfl⟩ ?_
 rintro i ρ H ⟨hi,hO,⟨x,v,bJ,Cv,FQ,hx,F7,hv⟩,g2,g4,g10,g11,g12⟩
 have Cz:=gN FQ
 by_cases dB:(i:Int)<(m.length:Int)
 ·obtain⟨r,hr⟩:∃r,m[i]? = some r:=⟨_,List.getElem?_eq_getElem (by omega)⟩
  have CC:=hb r (List.mem_of_getElem? hr)
  have a1:=fun H=>aK (f:=aT aQ) (t := .op) (H:=H) (size:=1) (k := .i64) hr rfl
  have wi:IntKind.i64.wrap ((i:Int)+1)=((i+1:Nat):Int):=wrapN (i+1) (by omega) (by omega)
  simp only[rV,g2,g4,g10,g11,g12,dB,a1,dX,VX,Nat.reduceEqDiff,Nat.reduceAdd,Nat.reduceLeDiff,Nat.reduceLT,Nat.reduceSub]
  refine OT (n:=n) (J9 r CC.1 CC.2) rfl (fz1 (aF (Fg _))) hO Y5.cJ fun u H2 p2 hO2 _ hu => ?_
  cases ht:Cm r with
  |
   none =>
   rw[ht] at hu
   have hu:u = .tree [] .nil:=hu
   subst hu
   have anI:vP m=none:=mapM_none ht (List.mem_of_getElem? hr)
   rw[anI]
   have s1:bR n 1 (.ptr n 0 0 0) (.agg [.tree [] .nil]) H2=some (H2.set n (.row 0 [.agg [.tree [] .nil]] 1 true)):=by
    rw[bU (cT p2 Cv) (by exact Nat.zero_lt_one) (Nat.le_refl _) rfl rfl]
    rfl
   have s2:bT true 1 (.ptr n 0 0 0) (H2.set n (.row 0 [.agg [.tree [] .nil]] 1 true))=some (.agg [.tree [] .nil]):=by
    rw[bQ,bZ (cT p2 Cv)]
    rfl
   simp only[g2,g4,s1,s2,Option.isSome_none,dX,VX,Nat.reduceEqDiff,Nat.reduceAdd,Nat.reduceLeDiff,Nat.reduceLT,Nat.reduceSub]
   exact⟨_,Az (by rw[List.length_set];have:=p2.length_le;omega),rfl,AK,.agg [.tree [] .nil],rfl,_,rfl,.inl ⟨rfl,rfl⟩⟩
  |
   some ys =>
   rw[ht] at hu
   obtain⟨b,g,c,k1,k2,rfl,k3,k4⟩:=hu
   ·have eL:∀K,jC false [.slice none 0 0] 1 [(0,.ref b g 0 ys.length c)] K=some (.tree [.ref b g 0 ys.length c] (.cl 1),K):=fun K=>gE rfl rfl rfl
    have eS:∀K,cU 1 (.tree [.ref b g 0 ys.length c] (.cl 1)) K=some [.ref b g 0 ys.length c]:=fun K=>dQ rfl rfl
    obtain⟨v',H3,ap,YR,cJ,hlen,Ny,yQ,_⟩:=(hv.cJ (dH.pre p2)).snoc (gO:=n) (by omega) (by rw[sX F7,List.length_take];omega) ⟨b,g,c,ys⟩ k1 (by simp only;omega) k3 k4
    have UR:=cJ _ _ _ (by omega) (cT p2 FQ)
    have l1:bT false 1 (.ptr (n+1) 0 0 0) H2=some v:=by
     rw[bQ,cT p2 FQ]
     simp[dD,hx]
    have l2:aI H2 (n+1) 0=some ([x],1,true):=cT p2 FQ
    have uW:=YR.fS
    have s1:bR n 1 (.ptr (n+1) 0 0 0) v' H3=some (H3.set (n+1) (.row 0 [v'] 1 true)):=by
     rw[bU UR (by exact Nat.zero_lt_one) (by omega) (by rw[uW.2.1];rfl) (by rw[uW.2.1];simp[uW.1])]
     rfl
    have hO3:=(Ny n (by omega) hO2).set (b:=n+1) (g:=0) (e:=1) (es:=[v']) (w:=true) (by omega) (by
     rcases YR with⟨rfl,_⟩ | ⟨b',g',Wx,q1,q2,rfl,_⟩
     ·rfl
     ·simp[nX,fB];omega)
    simp only[g4,g12,wi,eL,eS,l1,ap,s1,UR,l2,yT,Nat.add_zero,Option.isSome_some,dX,VX,Nat.reduceEqDiff,Nat.reduceAdd,Nat.reduceLeDiff,Nat.reduceLT,Nat.reduceSub]
    refine⟨i+1,by omega,by omega,hO3,⟨v',v',bJ++[ys],cD (by omega) (cJ _ _ _ (by omega) (cT p2 Cv)),bZ UR,uW.2.1,?_,?_⟩,by (repeat' apply And.intro)<;>first | rfl | trivial | assumption⟩
    ·rw[gU hr]
     exact HK F7 ht
    ·rw[List.length_set]
     exact YR.cJ (dH.set (by omega))
 ·have nY:i=m.length:=by omega
  subst nY
  rw[List.take_length] at F7
  rw[F7]
  have uW:=hv.fS
  have l1:bT true 1 (.ptr (n+1) 0 0 0) H=some (.agg [v]):=by
   rw[bQ,FQ]
   simp[dD,hx]
  have s1:bR n 1 (.ptr n 0 0 0) (.agg [v]) H=some (H.set n (.row 0 [.agg [v]] 1 true)):=by
   rw[bU Cv (by exact Nat.zero_lt_one) (Nat.le_refl _) rfl (by simp[aB,uW.1])]
   rfl
  have s2:bT true 1 (.ptr n 0 0 0) (H.set n (.row 0 [.agg [v]] 1 true))=some (.agg [v]):=by
   rw[bQ,bZ Cv]
   rfl
  simp only[rV,g2,g4,g10,g11,g12,dB,l1,s1,s2,Option.isSome_some,dX,VX,Nat.reduceEqDiff,Nat.reduceAdd,Nat.reduceLeDiff,Nat.reduceLT,Nat.reduceSub]
  have Ny:fB n v=true:=by
   rcases hv with⟨rfl,_⟩ | ⟨b',g',Wx,q1,q2,rfl,_⟩
   ·rfl
   ·simp[fB];omega
  obtain⟨L,rfl,hL⟩:=hO
  refine⟨L.set 0 (.row 0 [.agg [v]] 1 true),⟨by simp,fun _ _ _ _ _ h=>by rw[BI];exact h⟩,by simp[fB,nX,Ny,kB],?_,.agg [v],rfl,v,rfl,?_⟩
  ·have:=(BA.set (n:=n) (b:=n) (g:=0) (e:=1) (es:=[.agg [v]]) (w:=true) ⟨L,rfl,hL⟩ (Nat.le_refl _) (by simp[nX,fB,Ny]))
   rw[BI] at this
   obtain⟨L',h1,h2⟩:=this
   rw[List.append_cancel_left h1]
   exact h2
  ·rw[←BI,List.length_set]
   have:=hv.rg.cJ (H':=(List.replicate n cO.dead++L).set n (.row 0 [.agg [v]] 1 true)) (dH.set (by omega))
   rw[Es] at this
   exact this.wide (by omega) (Nat.le_refl _)
end Go.PM
namespace Go.PM
open Go.Lib
section
variable {g:List (List Rat)} {e row:List Rat} {n i:Nat} {st:List Bool}
end
end Go.PM
namespace Go.PM
def qL:aD:=(LS [LO 2 (.new [(.bool false),(.slice none 0 0),(.slice none 0 0)]),LO 3 (.mv LF)] (LS [LM 7 0,LO 8 (.call 115 [(LT 7)]),LM 6 8,LO 9 (LX 6 0),LO 10 (LX 6 1),LO 4 (.new [(.bool false),(.slice none 0 0),(.slice none 0 0)]),LN (.store 3 (LT 4) (LT 9)),LM 5 10] (LS [LO 11 (LK 4),LM 12 5,LM 13 12,LY 13 14 (LK 4),⟨(some 15),(.call 68 [(LT 14)]),(some (13,true)),true,[]⟩,LY 13 16 (.bin .gtr (LT 15) (LI 0)),LO 17 (.pick (LT 13) (LT 16) LF),LN (.store 3 (LT 2) (LT 11)),LM 3 17] .ret)))
def uF:aR:=⟨18,[(.cell 2 true 3),(.tmp 3)],qL⟩
theorem JS:fR 159=some uF:=by kernel_rfl
end Go.PM