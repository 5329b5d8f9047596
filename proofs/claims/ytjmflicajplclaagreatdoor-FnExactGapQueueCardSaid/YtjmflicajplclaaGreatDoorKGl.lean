/- Texts of a claim, in one: part 12. -/
import Derived.KernelRfl
import Derived.Test.YtjmflicajplclaaGreatDoorKGk
set_option linter.unusedSimpArgs false
set_option linter.unusedVariables false
namespace Go.PM
open Go.Lib
section
variable {α:Type} {f:α→VV} {e:Nat}
structure RdT (f:α→VV) (e:Nat) (m:List (List α)) (H:aA) (v:VV):Prop where
 len:∀H',H <+: H'→oC v H'=some (VI m.length)
 get:∀H',H <+: H'→∀(i:Nat) r,m[i]? = some r→∃p w,bH 1 v (VI i) H'=some p∧cI false 1 p H'=some w∧Rd f e r H' w
theorem RdT.pre {m:List (List α)} {H H':aA} {v:VV} (h:RdT f e m H v) (hh:H <+: H'):RdT f e m H' v:=⟨fun H2 h2=>h.len H2 (hh.trans h2),fun H2 h2=>h.get H2 (hh.trans h2)⟩
theorem RdT.tree {m:List (List α)} {H:aA} {t:TK} (hs:∀x,(aB (f x)).length=e):RdT f e m H (.tree (m.map (aO f)) t) :=
 ⟨fun _ _=>dQ,fun _ _ i x hx=>⟨_,_,aI hx rfl,by rw[JV];rfl,Rd.tree hs⟩⟩
theorem RdT.row {m:List (List α)} {H:aA} {b g n c:Nat} {w:Bool} (h:aH H b g=some (m.map (aO f),1,w)) (hn:n=m.length) (hs:∀x,(aB (f x)).length=e):RdT f e m H (.ref b g 0 n c):=by
 subst hn
 refine⟨fun H' hh=>dR (cC hh h),fun H' hh i x hx => ?_⟩
 have hi:=(List.getElem?_eq_some_iff.1 hx).1
 have e1:=aY (o:=0) (n:=m.length) (c:=c) (i:=i) (k := .i64) (cC hh h) hi
 rw[Nat.zero_add] at e1
 exact⟨_,_,e1,by rw[oP (f:=aO f) (cC hh h) hx];rfl,Rd.tree hs⟩
theorem MG.snoc {lo hi jI b g:Nat} {H:aA} {rs:List (vM α)} (h:MG f e lo hi b g H rs) (hg:g=rs.length) (eQ:jI≤lo) (hn:g≤1000000000) (r:vM α) (hhi:hi≤r.b) (hc:r.xs.length≤r.c) (hr:aH H r.b r.g=some (r.xs.map f,e,true)) :
  eO jI 1 24 (.ref b g 0 g g) [.ref r.b r.g 0 r.xs.length r.c] H=some (.ref b (g+1) 0 (g+1) (g+1),H.set b (.row (g+1) ((rs++[r]).map mK) 1 true))∧MG f e lo H.length b (g+1) (H.set b (.row (g+1) ((rs++[r]).map mK) 1 true)) (rs++[r]):=by
 have aBe:=h.blo
 have aCX:=h.bhi
 have Cp:=iR hr
 have rE:=gY (f:=mK) (xs:=rs) (x:=r) (lo:=jI) (bytes:=24) h.out hg (by omega) (by decide) (by decide) (by omega)
 refine⟨rE,cS h.out,h.blo,iR h.out,?_,fun s hs => ?_⟩
 ·rw[List.map_append,List.nodup_append]
  refine⟨h.rows.nd,by simp,fun a ha c YV => ?_⟩
  obtain⟨s,hs,rfl⟩:=List.mem_map.1 ha
  have:=h.rows.row s hs
  simp only[List.map_cons,List.map_nil,List.mem_singleton] at YV
  omega
 ·rcases List.mem_append.1 hs with hs | hs
  ·obtain⟨k1,k2,k3,k4,k5⟩:=h.rows.row s hs
   exact⟨k1,by omega,k3,k4,cG (by omega) k5⟩
  ·rw[List.mem_singleton] at hs
   subst hs
   exact⟨by omega,Cp,by omega,hc,cG (by omega) hr⟩
end
def oG (m:List (List Rat)) (i:Nat):Rat:=(m.take i).foldl (fun a r=>if a<gT r then gT r else a) 0
def Fp (m:List (List Rat)):Rat:=oG m m.length
theorem IE {m:List (List Rat)} {i:Nat} {r:List Rat} (h:m[i]? = some r):oG m (i+1)=if oG m i<gT r then gT r else oG m i:=by
 unfold oG
 rw[jU h,List.foldl_append]
 rfl
def VG (d:Rat) (i:Nat) (r:List Rat):List Rat:=(r.map (· / d)).set i (1-gT (r.map (· / d)))
def Rb (m:List (List Rat)):List (List Rat):=vec m.length fun i=>VG (Fp m) i (m.getD i [])
theorem K4 {qs:List Rat} {B n:Nat} (h:∀q∈qs,aZ q≤B) (hn:qs.length≤n):aZ (gT qs)≤n*(B+1)+1:=by
 have h1:=yK h qs.length
 rw[List.take_length] at h1
 have h2:qs.length*(B+1)≤n*(B+1):=Nat.mul_le_mul_right _ hn
 omega
theorem HS {m:List (List Rat)} {B n:Nat} (h:∀r∈m,r.length≤n∧∀q∈r,aZ q≤B):∀i,aZ (oG m i)≤n*(B+1)+1
 |
  0=>by
  show aZ 0≤_
  rw[xR]
  omega
 |
  i+1=>by
  cases hr:m[i]? with
  |
   none =>
   have:oG m (i+1)=oG m i:=by
    unfold oG
    rw[List.take_add_one,hr]
    simp
   rw[this]
   exact HS h i
  |
   some r =>
   rw[IE hr]
   have:=h r (List.mem_of_getElem? hr)
   split
   ·exact K4 this.2 this.1
   ·exact HS h i
theorem X9 {qs:List Rat} {d:Rat} {B D:Nat} (h:∀q∈qs,aZ q≤B) (hd:aZ d≤D):∀q∈qs.map (· / d),aZ q≤B+D+1:=fun q hq=>by
 obtain⟨p,hp,rfl⟩:=List.mem_map.1 hq
 have h1:=h p hp
 have h2:=WQ p d
 omega
end Go.PM
namespace Go.PM
open Go.Lib
theorem ahA {lo hi:Nat} {H:aA}:CG [] lo hi H (.agg [.tree [] .nil]):=⟨_,rfl,.inl ⟨rfl,rfl⟩⟩
abbrev Sw:bT := .row 0 [.tree [] .nil] 1 true
theorem sY {n:Nat} {K:aA}:aH (List.replicate n bT.dead++Sw::K) n 0=some ([.tree [] .nil],1,true):=by rw[BD,aS]
theorem UN {n t:Nat} {F:Nat} {args hC:List VV} {bB:List (List ByteArray)} {ok:Bool} {H:aA} {K:VV→aA→Prop} (h:FC F hC (Xw (CG bB) ok)) (sT:AN.contains F=true) (hf:args.mapM (PM.fz depth H)=some hC) (hr:aH H t 0=some ([.tree [] .nil],1,true)) (hnt:n≤t)
  (hk:∀v H2 H3,bX n 1 (.ptr t 0 0 0) v H2=some H3→cI true 1 (.ptr t 0 0 0) H3=some v→(∃L',Gm H3 (List.replicate n .dead++L')∧eT n (.eY [v,.sc (.bool ok)])=true∧dL n L'=true∧Xw (CG bB) ok n (.eY [v,.sc (.bool ok)]) L')→K (.eY [v,.sc (.bool ok)]) H2) :
  cT F args n H K:=by
 refine h.Z4 sT hf ?_
 rintro r L ⟨v,rfl,hv⟩ EP hL
 have hv:=hv.cB dC.move
 rw[←List.length_append] at hv
 have ht:=iR hr
 obtain⟨c,rfl,h1,h2,h3⟩:=hv.own (n:=n) (by omega)
 have hL':dL n L=true:=Gl (by omega) hL
 refine hk (.agg [c]) _ ((H++L).set t (.row 0 [.agg [c]] 1 true)) ?_ ?_ ?_
 ·rw[cF (fW hr) (by exact Nat.zero_lt_one) hnt rfl (by simp[aB,h1])]
  rfl
 ·rw[cD,cS (fW hr)]
  rfl
 ·exact amA (k:=H.length) (lo:=H.length) (hi:=(H++L).length) (by omega) (by rw[List.length_set,List.length_append];omega) ((BK.start.aoI hL').set (by omega)) (by simp[eT,nP,h3]) CG.cB CG.wide (hv.cB (dC.set (by omega))) (Nat.le_refl _) (by rw[List.length_set];exact Nat.le_refl _)
theorem L9 {n t:Nat} {H:aA} {bB:Option (List (List ByteArray))} (hr:aH H t 0=some ([.tree [] .nil],1,true)) (hnt:n≤t) (hv:bB=none) :
  bX n 1 (.ptr t 0 0 0) (.agg [.tree [] .nil]) H=some (H.set t (.row 0 [.agg [.tree [] .nil]] 1 true))∧cI true 1 (.ptr t 0 0 0) (H.set t (.row 0 [.agg [.tree [] .nil]] 1 true))=some (.agg [.tree [] .nil]) ∧
  ∃L,Gm (H.set t (.row 0 [.agg [.tree [] .nil]] 1 true)) (List.replicate n .dead++L)∧eT n (.eY [.agg [.tree [] .nil],.sc (.bool false)])=true∧dL n L=true∧Xw (CG (bB.getD [])) bB.isSome n (.eY [.agg [.tree [] .nil],.sc (.bool false)]) L:=by
 subst hv
 refine⟨?_,?_,_,A2 (by rw[List.length_set];have:=iR hr;omega),rfl,Av,_,rfl,ahA⟩
 ·rw[cF hr (by exact Nat.zero_lt_one) hnt rfl rfl]
  rfl
 ·rw[cD,cS hr]
  rfl
theorem HA {a:Nat} (h:a≤12):a*(665+1)+1≤7993:=by omega
theorem QC {qs:List Rat} (h:∀q∈qs,0≤q):0≤gT qs:=by
 have key:∀i,i≤qs.length→0≤gT (qs.take i):=by
  intro i
  induction i with
  | zero=>intro _;show (0:Rat)≤0;exact Rat.le_refl
  |
   succ i ih =>
   intro hi
   have hq:qs[i]? = some qs[i]:=List.getElem?_eq_getElem (by omega)
   rw[Ah hq]
   have h1:=ih (by omega)
   have h2:=h _ (List.getElem_mem (by omega:i<qs.length))
   grind
 have:=key qs.length (Nat.le_refl _)
 rwa [List.take_length] at this
theorem L5 {m:List (List Rat)} (h:∀r∈m,0≤gT r):∀i,0≤oG m i∧0≤gT ((m.map gT).take i)∧(gT ((m.map gT).take i)=0↔oG m i=0)∧(((m.take i).any fun r => !decide (gT r=0)) = !decide (oG m i=0))
 | 0=>⟨Rat.le_refl,Rat.le_refl,⟨fun _=>rfl,fun _=>rfl⟩,rfl⟩
 |
  i+1=>by
  obtain⟨h1,h2,h3,h4⟩:=L5 h i
  cases hr:m[i]? with
  |
   none =>
   have e1:oG m (i+1)=oG m i:=by unfold oG;rw[List.take_add_one,hr];simp
   have e2:(m.map gT).take (i+1)=(m.map gT).take i:=by rw[List.take_add_one,List.getElem?_map,hr];simp
   have e3:m.take (i+1)=m.take i:=by rw[List.take_add_one,hr];simp
   rw[e1,e2,e3]
   exact⟨h1,h2,h3,h4⟩
  |
   some r =>
   have h0:=h r (List.mem_of_getElem? hr)
   have EP:(m.map gT)[i]? = some (gT r):=by rw[List.getElem?_map,hr];rfl
   rw[IE hr,Ah EP,jU hr,List.any_append,h4]
   simp only[List.any_cons,List.any_nil,Bool.or_false]
   by_cases hc:oG m i<gT r
   ·rw[if_pos hc]
    have hp:¬gT r=0:=by grind
    have hs:¬gT ((m.map gT).take i)+gT r=0:=by grind
    refine⟨h0,by grind,⟨fun h=>absurd h hs,fun h=>absurd h hp⟩,by simp[hp]⟩
   ·rw[if_neg hc]
    refine⟨h1,by grind,?_,?_⟩
    ·constructor
     ·intro h;exact h3.1 (by grind)
     ·intro h;have:=h3.2 h;grind
    ·by_cases hz:oG m i=0
     ·have:gT r=0:=by grind
      simp[hz,this]
     ·simp[hz]
theorem Yi {m:List (List Rat)} {n B:Nat} (hm:m.length=n) (hb:∀r∈m,r.length=n∧∀q∈r,aZ q≤B) (hn:n≤100) (hB:B≤1000000):(Rb m).length=n∧∀r∈Rb m,r.length=n∧∀q∈r,aZ q≤100000000000:=by
 refine⟨by rw[Rb,yT,hm],fun r hr => ?_⟩
 obtain⟨i,hi,rfl⟩:=DB.1 hr
 have hgi:m[i]? = some m[i]:=List.getElem?_eq_getElem hi
 have MX:=hb _ (List.getElem_mem hi)
 rw[List.getD_eq_getElem?_getD,hgi,Option.getD_some]
 have bm:=HS (n:=n) (B:=B) (fun r hr=>⟨Nat.le_of_eq (hb r hr).1,(hb r hr).2⟩) m.length
 rw[←Fp] at bm
 have qb:=X9 MX.2 bm
 have hl:(m[i].map (· / Fp m)).length=n:=by rw[List.length_map];exact MX.1
 have b3:=K4 qb (Nat.le_of_eq hl)
 have m1:n*(B+1)≤100*(B+1):=Nat.mul_le_mul_right _ hn
 have m2:n*(B+(n*(B+1)+1)+1+1)≤100*(B+(n*(B+1)+1)+1+1):=Nat.mul_le_mul_right _ hn
 have b4:=Xc 1 (gT (m[i].map (· / Fp m)))
 rw[HM] at b4
 refine⟨by rw[VG,List.length_set,hl],YL (fun q hq => ?_) (by omega)⟩
 have:=qb q hq
 omega
end Go.PM
namespace Go.PM
abbrev Mn:=Nat×Nat×Rat
def Jy (F:Nat→Nat→Rat) (i j:Nat) (q:Rat) (a b:Nat):Rat:=if i≠j∧a=i∧b=j then F a b+q else F a b
theorem Ww {F:Nat→Nat→Rat} {i:Nat} {q:Rat}:Jy F i i q=F:=by
 funext a b
 exact if_neg fun h=>h.1 rfl
def FU (F:Nat→Nat→Rat) (L:List Mn):Nat→Nat→Rat:=L.foldl (fun F t=>Jy F t.1 t.2.1 t.2.2) F
def jM (L:List Mn):Nat→Nat→Rat:=FU (fun _ _=>0) L
theorem E8 {F:Nat→Nat→Rat} {t:Mn} {L:List Mn}:FU F (t::L)=FU (Jy F t.1 t.2.1 t.2.2) L:=rfl
theorem GJ {F:Nat→Nat→Rat} {L M:List Mn}:FU F (L++M)=FU (FU F L) M:=List.foldl_append
theorem UA {L:List Mn} {i j:Nat} {q:Rat}:jM (L++[(i,j,q)])=Jy (jM L) i j q:=GJ
theorem Tt {L:List Mn} {i:Nat} {q:Rat}:jM (L++[(i,i,q)])=jM L:=by rw[UA,Ww]
theorem Md {Q:Nat}:∀(L:List Mn) (F:Nat→Nat→Rat) (B:Nat),(∀t∈L,aZ t.2.2≤Q)→(∀a b,aZ (F a b)≤B)→∀a b,aZ (FU F L a b)≤B+L.length*(Q+1)
 |
  [],F,B,_,hF,a,b=>by
  have:=hF a b
  show aZ (F a b)≤_
  omega
 |
  t::L,F,B,hL,hF,a,b=>by
  rw[E8]
  have ht:=hL t List.mem_cons_self
  have:=Md L (Jy F t.1 t.2.1 t.2.2) (B+(Q+1)) (fun s hs=>hL s (List.mem_cons_of_mem _ hs)) (fun a b=>by
   unfold Jy
   have h1:=hF a b
   have h2:=DY (F a b) t.2.2
   split<;>omega) a b
  rw[List.length_cons,Nat.succ_mul]
  omega
theorem Lh {Q:Nat} {L:List Mn} (h:∀t∈L,aZ t.2.2≤Q) (a b:Nat):aZ (jM L a b)≤1+L.length*(Q+1) :=
 Md L _ 1 h (fun _ _=>by show aZ 0≤1;rw[xR];exact Nat.le_refl _) a b
theorem Kh:∀(L:List Mn) (F:Nat→Nat→Rat),(∀t∈L,0≤t.2.2)→∀a b,F a b≤FU F L a b
 | [],F,_,a,b=>Rat.le_refl
 |
  t::L,F,hL,a,b=>by
  rw[E8]
  have ht:=hL t List.mem_cons_self
  have h1:=Kh L (Jy F t.1 t.2.1 t.2.2) (fun s hs=>hL s (List.mem_cons_of_mem _ hs)) a b
  have h2:F a b≤Jy F t.1 t.2.1 t.2.2 a b:=by
   unfold Jy
   split<;>grind
  exact Rat.le_trans h2 h1
theorem GL {L:List Mn} (h:∀t∈L,0≤t.2.2) (a b:Nat):0≤jM L a b:=Kh L _ h a b
theorem X2 {L:List Mn} {i j:Nat} {q:Rat} (h:∀t∈L,0≤t.2.2) (ht:(i,j,q)∈L) (OA:i≠j) (hq:0<q):0<jM L i j:=by
 obtain⟨s,r,rfl⟩:=List.append_of_mem ht
 have hs:∀t∈s,0≤t.2.2:=fun t ht=>h t (List.mem_append_left _ ht)
 have hr:∀t∈r,0≤t.2.2:=fun t ht=>h t (List.mem_append_right _ (List.mem_cons_of_mem _ ht))
 have h1:=Kh r (Jy (jM s) i j q) hr i j
 have h2:jM (s++(i,j,q)::r)=FU (Jy (jM s) i j q) r:=by
  unfold jM
  rw[GJ,E8]
 rw[h2]
 have h3:=GL hs i j
 have h4:Jy (jM s) i j q i j=jM s i j+q:=if_pos ⟨OA,rfl,rfl⟩
 rw[h4] at h1
 grind
theorem aeI {qs:List Rat} (h:∀q∈qs,0≤q) {q:Rat} (hq:q∈qs):q≤gT qs:=by
 have key:∀i,i≤qs.length→0≤gT (qs.take i)∧∀p∈qs.take i,p≤gT (qs.take i):=by
  intro i
  induction i with
  | zero=>intro _;exact⟨by show (0:Rat)≤0;exact Rat.le_refl,by simp⟩
  |
   succ i ih =>
   intro hi
   have hq:qs[i]? = some qs[i]:=List.getElem?_eq_getElem (by omega)
   obtain⟨h1,h2⟩:=ih (by omega)
   have h3:=h _ (List.getElem_mem (by omega:i<qs.length))
   rw[Ah hq]
   refine⟨by grind,fun p hp => ?_⟩
   rw[jU hq] at hp
   rcases List.mem_append.1 hp with hp | hp
   ·have:=h2 p hp
    grind
   ·rw[List.mem_singleton] at hp
    subst hp
    grind
 have:=(key qs.length (Nat.le_refl _)).2
 rw[List.take_length] at this
 exact this q hq
theorem Uo {N:Nat} {L:List Mn} {i j:Nat} {q:Rat} (h:∀t∈L,0≤t.2.2) (ht:(i,j,q)∈L) (OA:i≠j) (hq:0<q) (hi:i<N) (hj:j<N):Fp (JL N N (jM L))≠0:=by
 have hnn:∀r∈JL N N (jM L),∀q∈r,0≤q:=fun r hr q hq=>by
  obtain⟨a,_,rfl⟩:=JM hr
  obtain⟨b,_,rfl⟩:=DB.1 hq
  exact GL h a b
 obtain⟨_,_,_,h4⟩:=L5 (fun r hr=>QC (hnn r hr)) (JL N N (jM L)).length
 rw[List.take_length] at h4
 intro h0
 rw[←Fp,h0,decide_eq_true rfl,Bool.not_true] at h4
 have pL:=List.mem_of_getElem? (Vb (m:=N) (F:=jM L) hi)
 have h5:=List.any_eq_false.1 h4 _ pL
 have h6:=aeI (hnn _ pL) (q:=jM L i j) (DB.2 ⟨j,hj,rfl⟩)
 have h7:=X2 h ht OA hq
 simp only[Bool.not_eq_true',decide_eq_false_iff_not,not_true_eq_false,Classical.not_not] at h5
 rw[h5] at h6
 grind
theorem SO {Q N:Nat} {L:List Mn} (h:∀t∈L,aZ t.2.2≤Q):∀r∈JL N N (jM L),r.length=N∧∀q∈r,aZ q≤1+L.length*(Q+1):=fun r hr=>by
 obtain⟨a,_,rfl⟩:=JM hr
 refine⟨yT ..,fun q hq => ?_⟩
 obtain⟨b,_,rfl⟩:=DB.1 hq
 exact Lh h a b
end Go.PM
namespace Go.PM
def J1 (p:Nat×List Mn):List (List Rat):=JL p.1 p.1 (jM p.2)
structure QOk (p:Nat×List Mn):Prop where
 n:p.1≤12
 l:p.2.length≤400
 t:∀t∈p.2,aZ t.2.2≤1331∧0≤t.2.2
 s:∃i j q,(i,j,q)∈p.2∧i≠j∧0<q∧i<p.1∧j<p.1
theorem QOk.aCc {p:Nat×List Mn} (h:QOk p):Fp (J1 p)≠0:=by
 obtain⟨i,j,q,h1,h2,h3,h4,h5⟩:=h.s
 exact Uo (fun t ht=>(h.t t ht).2) h1 h2 h3 h4 h5
theorem QOk.rows {p:Nat×List Mn} (h:QOk p):∀r∈J1 p,r.length=p.1∧∀q∈r,aZ q≤600000:=fun r hr=>by
 obtain⟨h1,h2⟩:=SO (Q:=1331) (fun t ht=>(h.t t ht).1) r hr
 have h3:p.2.length*(1331+1)≤400*(1331+1):=Nat.mul_le_mul_right _ h.l
 exact⟨h1,fun q hq=>by have:=h2 q hq;omega⟩
theorem Ta {p:Nat×List Mn}:(J1 p).length=p.1:=DG ..
theorem afB {ws:List Rat} {Q:Nat} (hw:∀q∈ws,aZ q≤Q) (hQ:1≤Q) (k:Nat):aZ (ws.getD k 0)≤Q:=by
 rw[List.getD_eq_getElem?_getD]
 cases h:ws[k]? with
 | none=>show aZ 0≤Q;rw[xR];exact hQ
 | some q=>exact hw q (List.mem_of_getElem? h)
end Go.PM
namespace Go.PM
theorem abP (q:Rat):(aB (bK q)).all bP=true:=rfl
def afZ (F:Nat→Nat→Rat) (i j:Nat) (y:Rat) (a b:Nat):Rat:=if a=i∧b=j then y else F a b
def Tb (f:Rat→VV) (lo hi N M b g:Nat) (F:Nat→Nat→Rat) (H:aA):Prop:=∃rs,MG f 3 lo hi b g H rs∧rs.map (·.xs)=JL N M F
def alF (lo hi:Nat) (H H':aA):Prop:=H'.length=H.length∧∀b g x,b<lo∨hi≤b→aH H b g=some x→aH H' b g=some x
theorem alF.refl {lo hi:Nat} {H:aA}:alF lo hi H H:=⟨rfl,fun _ _ _ _ h=>h⟩
section
variable {f:Rat→VV} {lo hi N M b g:Nat} {F:Nat→Nat→Rat} {H H':aA}
theorem Tb.cB (h:Tb f lo hi N M b g F H) (hk:dC lo hi H H'):Tb f lo hi N M b g F H':=by
 obtain⟨rs,h1,h2⟩:=h
 exact⟨rs,h1.cB hk,h2⟩
theorem Tb.pre (h:Tb f lo hi N M b g F H) (hh:H <+: H'):Tb f lo hi N M b g F H':=h.cB (dC.pre hh)
theorem Tb.congr {G:Nat→Nat→Rat} (h:Tb f lo hi N M b g F H) (hF:∀a c,a<N→c<M→F a c=G a c):Tb f lo hi N M b g G H:=by
 obtain⟨rs,h1,h2⟩:=h
 exact⟨rs,h1,h2.trans (On hF)⟩
theorem Tb.lt (h:Tb f lo hi N M b g F H):lo≤b∧b<hi∧b<H.length:=by
 obtain⟨rs,h1,_⟩:=h
 exact⟨h1.blo,h1.bhi,iR h1.out⟩
theorem Tb.addr {c i:Nat} (h:Tb f lo hi N M b g F H) (oJ:i<N):bH 1 (.ref b g 0 N c) (VI i) H=some (.ptr b g i 0):=by
 obtain⟨rs,h1,_⟩:=h
 exact h1.addr oJ
theorem Tb.len {c:Nat} (h:Tb f lo hi N M b g F H):oC (.ref b g 0 N c) H=some (VI N):=by
 obtain⟨rs,h1,_⟩:=h
 exact h1.len
theorem Tb.fz {d c:Nat} (h:Tb f lo hi N M b g F H) (hc:N≤c) (hp:∀x,aN (f x)=true):PM.fz (d+3) H (.ref b g 0 N c)=some (aO (aO f) (JL N M F)):=by
 obtain⟨rs,h1,h2⟩:=h
 have hl:=congrArg List.length h2
 rw[List.length_map,DG] at hl
 rw[←h2,←hl]
 exact h1.fz (by omega) hp
theorem TabIs.tb {v:VV} (h:TabIs f 3 (JL N M F) lo hi H v):∃b g c,v = .ref b g 0 N c∧N≤c∧Tb f lo hi N M b g F H:=by
 obtain⟨b,g,c,rs,h1,h2,h3,h4⟩:=h
 rw[DG] at h1 h2
 exact⟨b,g,c,h1,h2,rs,h3,h4⟩
theorem Tb.spot {i j:Nat} (h:Tb f lo hi N M b g F H) (oJ:i<N) (hj:j<M) (hfs:∀x,(aB (f x)).length=3) (hfa:∀x,(aB (f x)).all bP=true) :
  ∃rb rg rc,cI false 1 (.ptr b g i 0) H=some (.ref rb rg 0 M rc)∧bH 3 (.ref rb rg 0 M rc) (VI j) H=some (.ptr rb rg j 0)∧(∀ag,cI ag 3 (.ptr rb rg j 0) H=dA ag 3 (f (F i j)) 0) ∧
  ∀jI y,jI≤lo→∃H',bX jI 3 (.ptr rb rg j 0) (f y) H=some H'∧alF lo hi H H'∧Tb f lo hi N M b g (afZ F i j y) H'∧∀k,cI false 1 (.ptr b g k 0) H'=cI false 1 (.ptr b g k 0) H:=by
 obtain⟨rs,hM,hx⟩:=h
 have hl:=congrArg List.length hx
 rw[List.length_map,DG] at hl
 obtain⟨r,hr⟩:∃r,rs[i]? = some r:=⟨_,List.getElem?_eq_getElem (by omega)⟩
 have Ml:r.xs=vec M (F i):=by
  have h1:(rs.map (·.xs))[i]? = some r.xs:=by rw[List.getElem?_map,hr];rfl
  rw[hx,Vb oJ] at h1
  exact(Option.some.inj h1).symm
 have Cp:r.xs.length=M:=by rw[Ml,yT]
 have hgj:r.xs[j]? = some (F i j):=by rw[Ml,Ga hj]
 refine⟨r.b,r.g,r.c,?_,hM.at hr hj,fun ag=>hM.get hr hgj,fun jI y eQ => ?_⟩
 ·have:=hM.cell hr
  rw[Cp] at this
  exact this
 ·have h1:=hM.put (j:=j) (jI:=jI) (y:=y) hr (by omega) eQ (hfs y) (hfa y)
  have h2:=hM.set (ys:=r.xs.set j y) hr (by rw[List.length_set])
  have MX:=hM.rows.row r (List.mem_of_getElem? hr)
  refine⟨_,h1,⟨by rw[List.length_set],fun b' g' x vJ Pa=>cG (by have h7:=MX.1;have h8:=MX.2.1;omega) Pa⟩,⟨_,h2,?_⟩,fun k => ?_⟩
  ·have e:(rs.set i { r with xs:=r.xs.set j y }).map (fun r:vM Rat=>r.xs)=(rs.map (fun r:vM Rat=>r.xs)).set i (r.xs.set j y):=List.map_set
   rw[e,hx,Ml,V4,adX]
   exact On fun a c _ _=>by unfold afZ;by_cases ha:a=i<;>by_cases hc:c=j<;>simp[ha,hc]
  ·rw[cD,cD,cG MX.2.2.1 hM.out,hM.out]
end
theorem Q3 {N:Nat}:List.replicate N (List.replicate N (0:Rat))=JL N N fun _ _=>0:=Xa
end Go.PM
namespace Go.PM
open Go.Lib
end Go.PM
namespace Go.PM
structure Lin where
 u:List ByteArray
 d:List ByteArray
 deriving Inhabited
end Go.PM
namespace Go.PM
end Go.PM
namespace Go.PM
open Go.Lib
theorem Zv (d:Nat) (h:d≤9223372036854775807):TC 219 [VI (d:Int)] (aU (decDigits d)):=by
 have:=MB (d:Int) (by omega) (by omega)
 rw[if_neg (by omega),List.nil_append,Int.natAbs_natCast] at this
 exact this
theorem abD {n i:Nat} (hi:i+1=(aC 1000000000 n).length):n / 1000000000^i=n / 1000000000^i % 1000000000:=by
 have h1:=XJ (b:=1000000000) (by decide) n (i+1)
 rw[List.drop_of_length_le (by omega)] at h1
 have h2:=(kU (b:=1000000000) (by decide)).1 h1.symm
 rw[sK] at h2
 rcases Nat.div_eq_zero_iff.1 h2 with h | h
 ·exact absurd h (by decide)
 ·exact(Nat.mod_eq_of_lt h).symm
theorem Iw (l:List UInt8) (a b:Nat):(⟨l.toArray⟩:ByteArray).extract a b=⟨((l.drop a).take (b-a)).toArray⟩:=by
 rw[ByteArray.ext_iff,ByteArray.data_extract]
 simp[List.extract_toArray,List.extract_eq_take_drop]
theorem Zh (l:List UInt8) {a b:Nat} (h:a≤b) (hb:b≤l.length):uL (aU l) (some (VI (a:Int))) (some (VI (b:Int)))=some (aU ((l.drop a).take (b-a))):=by
 have hs:(⟨l.toArray⟩:ByteArray).size=l.length:=by simp[ByteArray.size]
 have e1:(0:Int)≤b∧(b:Int)≤(l.length:Int):=by omega
 have e2:(0:Int)≤a∧(a:Int)≤(b:Int):=by omega
 simp only[uL,E2,zE,hs,eH,e1,e2,and_self,if_true,Int.toNat_natCast,Iw]
theorem Nt (l:List UInt8) {a:Nat} (h:a≤l.length):uL (aU l) (some (VI (a:Int))) none=some (aU (l.drop a)):=by
 have hs:(⟨l.toArray⟩:ByteArray).size=l.length:=by simp[ByteArray.size]
 have e2:(0:Int)≤a∧(a:Int)≤(l.length:Int):=by omega
 simp only[uL,E2,zE,hs,eH,e2,and_self,if_true,Int.toNat_natCast,Iw]
 rw[List.take_of_length_le (by simp)]
theorem aoL (l:List UInt8) (h:1≤l.length):uL (aU l) (some (VI 1)) none=some (aU (l.drop 1)):=Nt l h
theorem Xq {a:Nat} (h:a<1000000000):IntKind.i64.wrap ((a:Int)+1000000000)=((a+1000000000:Nat):Int):=wrapN _ (by omega) (by omega)
theorem nE (n:Nat) (hn:bl n≤2199023255552):TC 208 [bS n] (aU (decDigits n)):=by
 refine TC.walk ⟨true,false⟩ Gk rfl (Nat.le_of_ble_eq_true rfl) (by simp[aL,cA]) rfl ?_
 by_cases h0:n=0
 ·subst h0
  have hl:(((aC 1000000000 0).length:Nat):Int)=0:=by rw[bY];rfl
  simp only[uP,rB,cZ,hl,VX,Nat.reduceEqDiff,Nat.reduceAdd]
  rw[iD (by decide)]
  exact aF rfl
 have hl:¬(((aC 1000000000 n).length:Nat):Int)=0:=by have:=(xK (n:=n)).2 h0;omega
 obtain⟨L,hL⟩:∃L,(aC 1000000000 n).length=L+1:=⟨(aC 1000000000 n).length-1,by omega⟩
 have Dq:=qM (n:=n) (by omega)
 have hlT:=ahJ n
 have hdl:=Au n
 have w1:IntKind.i64.wrap (((L+1:Nat):Int)-1)=(L:Int):=wrapN _ (by omega) (by omega)
 have w2:IntKind.i64.wrap (((L+1:Nat):Int)-2)=(L:Int)-1:=by rw[wrap64 (by omega) (by omega)];omega
 have at':∀i,i≤L→bH 1 (bS n) (VI (i:Int)) []=some (.cV (tV (n / 1000000000^i % 1000000000)) 0):=fun i hi=>aI (f:=tV) (t := .op) (H:=[]) (size:=1) (k := .i64) (J6 (b:=1000000000) (by decide) (n:=n) (i:=i) (by omega)) rfl
 have eL:=at' L (Nat.le_refl _)
 have ZH:=abD (n:=n) (i:=L) (by omega)
 rw[←ZH] at eL
 have PW:n / 1000000000^L≠0:=(DP (b:=1000000000) (by decide)).1 (by omega)
 have hqT:n / 1000000000^L<1000000000:=by rw[ZH];exact Nat.mod_lt _ (by decide)
 have c1:=Zv (n / 1000000000^L) (by omega)
 rw[hL] at hl
 simp only[uP,rB,cZ,hL,hl,w1,w2,eL,c1,VX,Nat.reduceEqDiff,Nat.reduceAdd]
 refine aQ (fun(j:Nat) ρ H=>j≤L∧H=[]∧ρ 0=bS n∧ρ 3=aU (decDigits (n / 1000000000^j))∧ρ 4=VI ((j:Int)-1)) (fun j=>j) L ⟨Nat.le_refl _,rfl,rfl,rfl,rfl⟩ ?_
 rintro j ρ H ⟨hj,rfl,g0,g3,g4⟩
 by_cases hz:(0:Int)≤(j:Int)-1
 ·obtain⟨i,rfl⟩:∃i,j=i+1:=⟨j-1,by omega⟩
  have Ec:((i+1:Nat):Int)-1=(i:Int):=by omega
  rw[Ec] at g4 hz
  have e1:=at' i (by omega)
  have hm:=Nat.mod_lt (n / 1000000000^i) (show 0<1000000000 by decide)
  have hq1:n / 1000000000^(i+1)≠0:=(DP (b:=1000000000) (by decide)).1 (by omega)
  have hdm:=Nat.mod_add_div (n / 1000000000^i) 1000000000
  rw[←sK] at hdm
  have hch:=GY (Nat.pos_of_ne_zero hq1) hm
  have hle:n / 1000000000^i≤n:=Nat.div_le_self _ _
  have Zb:=Au (n / 1000000000^i)
  have hbi:=nA hle
  rw[show n / 1000000000^(i+1)*1000000000+n / 1000000000^i % 1000000000=n / 1000000000^i by omega] at hch
  generalize hAA:n / 1000000000^i=A at *
  generalize n / 1000000000^(i+1)=B at *
  have w4:IntKind.i64.wrap ((i:Int)-1)=(i:Int)-1:=wrap64 (by omega) (by omega)
  have c2:=Zv (A % 1000000000+1000000000) (by omega)
  rw[afO hm] at c2
  have e2:=aoL (d10 1::Cg 9 (A % 1000000000)) (by simp)
  rw[List.drop_succ_cons,List.drop_zero] at e2
  have hlen:=congrArg List.length hch
  rw[List.length_append] at hlen
  have a1:=qD (decDigits B) (Cg 9 (A % 1000000000)) (by omega)
  rw[←hch] at a1
  have atV:i≤L:=by omega
  have hmu:i<i+1:=by omega
  have w3:=Xq hm
  simp only[qN,g0,g3,g4,hz,e1,w3,w4,c2,e2,a1,VX,Nat.reduceEqDiff,Nat.reduceAdd]
  refine⟨i,hmu,atV,?_⟩
  rw[hAA]
  exact⟨rfl,rfl⟩
 ·have T5:j=0:=by omega
  subst T5
  rw[Nat.pow_zero,Nat.div_one] at g3
  simp only[qN,g0,g3,g4,hz,VX,Nat.reduceEqDiff,Nat.reduceAdd]
  exact aF rfl
theorem KJ (q:Rat) (hk:aZ q≤1099511627776):TC 188 [bZ q] (VB (vI q)):=by
 refine TC.walk ⟨true,false⟩ L3 rfl (Nat.le_of_ble_eq_true rfl) (by simp[aL,A3]) rfl ?_
 have la:=BC hk
 have lb:=Bn hk
 have t1:=nE q.num.natAbs (by omega)
 have t2:=nE q.den (by omega)
 have hf:vI q=(decide (((decDigits q.num.natAbs).length:Int)≤200)&&decide (((decDigits q.den).length:Int)≤200)):=by
  unfold vI
  congr 1<;>exact decide_eq_decide.2 (by omega)
 rw[hf]
 by_cases hl:((decDigits q.num.natAbs).length:Int)≤200
 ·simp only[BI,xT,t1,t2,hl,bJ,dF,mO,pR,pU,aP,kQ,Nat.reduceLeDiff,Nat.reduceLT,Nat.reduceSub,VX,Nat.reduceEqDiff,Nat.reduceAdd]
  exact aF rfl
 ·simp only[BI,xT,t1,t2,hl,bJ,dF,mO,pR,pU,aP,kQ,Nat.reduceLeDiff,Nat.reduceLT,Nat.reduceSub,VX,Nat.reduceEqDiff,Nat.reduceAdd]
  exact aF rfl
theorem L6 (q:Rat) (hk:aZ q≤1099511627776):TC 189 [bZ q] (aU (EL q)):=by
 refine TC.walk ⟨true,false⟩ K2 rfl (Nat.le_of_ble_eq_true rfl) (by simp[aL,A3]) rfl ?_
 have la:=BC hk
 have lb:=Bn hk
 have t1:=nE q.num.natAbs (by omega)
 have t2:=nE q.den (by omega)
 have d1:=Au q.num.natAbs
 have d2:=Au q.den
 have c1:∀lo H K,_:=fun lo H K=>JQ (n:=q.den) (lo:=lo) (H:=H) (K:=K) (Nat.le_of_lt (qM (by omega)))
 have a1:dB .add (.string ⟨#[45]⟩) (.string ⟨(decDigits q.num.natAbs).toArray⟩)=some (.string ⟨(45::decDigits q.num.natAbs).toArray⟩):=qD [45] _ (by simp only[List.length_cons,List.length_nil];omega)
 have a2:dB .add (.string ⟨#[47]⟩) (.string ⟨(decDigits q.den).toArray⟩)=some (.string ⟨(47::decDigits q.den).toArray⟩):=qD [47] (decDigits q.den) (by simp only[List.length_cons,List.length_nil];omega)
 have a3:=qD (45::decDigits q.num.natAbs) (47::decDigits q.den) (by simp only[List.length_cons];omega)
 have a4:=qD (decDigits q.num.natAbs) (47::decDigits q.den) (by simp only[List.length_cons];omega)
 have hs:EL q=(if q.num<0 then (45::decDigits q.num.natAbs) else decDigits q.num.natAbs)++(if q.den=1 then [] else 47::decDigits q.den):=by
  unfold EL
  by_cases hn:q.num<0
  ·rw[if_pos hn,if_pos hn];rfl
  ·rw[if_neg hn,if_neg hn];rfl
 rw[hs]
 by_cases hd:eZ q.den 1=0
 ·rw[if_pos (wE.1 hd),List.append_nil]
  by_cases hn:q.num<0
  all_goals
   simp only[Bb,wL,t1,t2,a1,a2,a3,a4,c1,hd,hn,dP,dF,mO,pR,pU,aP,kQ,Nat.reduceLeDiff,Nat.reduceLT,Nat.reduceSub,VX,Nat.reduceEqDiff,Nat.reduceAdd]
   exact aF rfl
 ·rw[if_neg (mt wE.2 hd)]
  by_cases hn:q.num<0
  all_goals
   simp only[Bb,wL,t1,t2,a1,a2,a3,a4,c1,hd,hn,dP,dF,mO,pR,pU,aP,kQ,Nat.reduceLeDiff,Nat.reduceLT,Nat.reduceSub,VX,Nat.reduceEqDiff,Nat.reduceAdd]
   exact aF rfl
theorem Kl (q:Rat) (hk:aZ q≤1099511627776):TC 171 [bZ q] (R8 q):=by
 refine TC.walk ⟨true,false⟩ J4 rfl (Nat.le_of_ble_eq_true rfl) (by simp[aL,A3]) (XY q) ?_
 have t1:=KJ q hk
 have t2:=L6 q hk
 unfold R8
 by_cases h:vI q=true
 ·rw[h] at t1
  rw[if_pos h]
  simp only[Bp,yI,t1,t2,dF,jX,kD,aP,kQ,Nat.reduceLeDiff,Nat.reduceLT,Nat.reduceSub,VX,Nat.reduceEqDiff,Nat.reduceAdd]
  exact aF rfl
 ·have h':vI q=false:=by simpa using h
  rw[h'] at t1
  rw[if_neg h]
  simp only[Bp,yI,t1,dF,jX,kD,aP,kQ,Nat.reduceLeDiff,Nat.reduceLT,Nat.reduceSub,VX,Nat.reduceEqDiff,Nat.reduceAdd]
  exact aF rfl
end Go.PM
namespace Go.PM
open Go.Lib
def gL (c:UInt8):List UInt8→List (List UInt8)
 | []=>[[]]
 |
  x::r=>if x=c then []::gL c r else match gL c r with
  | []=>[[x]]
  | a::t=>(x::a)::t
theorem Ko {c:UInt8} {r:List UInt8}:∀ {a:List UInt8},c∉a→gL c (a++c::r)=a::gL c r:=by
 intro a
 induction a with
 | nil=>intro _;rw[List.nil_append,gL,if_pos rfl]
 |
  cons x a ih =>
  intro h
  rw[List.mem_cons,not_or] at h
  rw[List.cons_append,gL,if_neg (fun he=>h.1 he.symm),ih h.2]
theorem Fo {c:UInt8}:∀ {a:List UInt8},c∉a→gL c a=[a]:=by
 intro a
 induction a with
 | nil=>intro _;rfl
 |
  cons x a ih =>
  intro h
  rw[List.mem_cons,not_or] at h
  rw[gL,if_neg (fun he=>h.1 he.symm),ih h.2]
theorem Uq {c:UInt8} (l:List UInt8):gL c l≠[]:=by
 cases l with
 | nil=>simp[gL]
 |
  cons x r =>
  rw[gL]
  split
  ·simp
  ·split<;>simp
theorem PY {c:UInt8} {l:List UInt8} (h:(lH c l).2=none):gL c l=[l]:=Fo (AQ h).2.2
theorem IZ {c:UInt8} {l r:List UInt8} (h:(lH c l).2=some r):gL c l=(lH c l).1::gL c r:=by
 obtain⟨_,h2,h3⟩:=HH h
 have:=Ko (r:=r) h3
 rw[←h2] at this
 exact this
theorem Rg {c:UInt8} {l:List UInt8} (h:c∈l):2≤(gL c l).length:=by
 cases hc:(lH c l).2 with
 | none=>exact absurd h (AQ hc).2.2
 |
  some r =>
  rw[IZ hc,List.length_cons]
  have:=List.length_pos_iff.2 (Uq (c:=c) r)
  omega
theorem Xh {l:List UInt8} {i:Nat} (h:i<l.length):(l.take (i+1)).all gW=((l.take i).all gW&&gW (l.getD i 0)):=by
 rw[List.take_add_one,List.all_append]
 have:l[i]? = some (l.getD i 0):=by rw[List.getElem?_eq_getElem h,List.getD_eq_getElem?_getD,List.getElem?_eq_getElem h];rfl
 rw[this]
 simp
set_option maxHeartbeats 1000000 in
theorem oR (l:List UInt8) (hl:l.length≤1000000000000):TC 168 [aU l] (VB (gS l)):=by
 refine TC.walk ⟨true,false⟩ HZ rfl (Nat.le_of_ble_eq_true rfl) rfl rfl ?_
 simp only[Dt,A7,VX,Nat.reduceEqDiff,Nat.reduceAdd]
 refine aQ (fun(i:Nat) ρ H=>i≤l.length∧H=[]∧(l.take i).all gW=true∧ρ 0=aU l∧ρ 3=VI i) (fun i=>l.length-i) 0 ⟨Nat.zero_le _,rfl,rfl,rfl,rfl⟩ ?_
 rintro i ρ H ⟨hi,rfl,hd,g0,g3⟩
 by_cases cP:(i:Int)<(l.length:Int)
 ·have Ua:i<l.length:=by omega
  have e1:=CY l Ua
  have wi:IntKind.i64.wrap ((i:Int)+1)=((i+1:Nat):Int):=wrapN (i+1) (by omega) (by omega)
  have ht:=Xh Ua
  rw[hd,Bool.true_and] at ht
  have SM:gW (l.getD i 0)=(decide (48≤(l.getD i 0).toNat)&&decide ((l.getD i 0).toNat≤57)):=rfl
  have lF:gW (l.getD i 0)=false→gS l=false:=by
   intro h
   rw[h] at ht
   have:l.all gW=false:=by rw[←List.take_append_drop (i+1) l,List.all_append,ht,Bool.false_and]
   unfold gS
   rw[this]
   rfl
  generalize (l.getD i 0).toNat=c at *
  by_cases q1:(c:Int)<48
  ·rw[lF (by rw[SM,decide_eq_false (by omega)];rfl)]
   simp only[dM,g0,g3,bJ,cP,e1,q1,VX,Nat.reduceEqDiff,Nat.reduceAdd]
   exact aF rfl
  ·by_cases q2:(57:Int)<(c:Int)
   ·rw[lF (by rw[SM,decide_eq_false (show ¬c≤57 by omega),Bool.and_false])]
    simp only[dM,g0,g3,bJ,cP,e1,q1,q2,VX,Nat.reduceEqDiff,Nat.reduceAdd]
    exact aF rfl
   ·rw[SM,decide_eq_true (by omega),decide_eq_true (by omega),Bool.and_self] at ht
    simp only[dM,g0,g3,bJ,cP,e1,q1,q2,wi,VX,Nat.reduceEqDiff,Nat.reduceAdd]
    exact⟨i+1,by omega,by omega,ht,rfl⟩
 ·have nS:i=l.length:=by omega
  subst nS
  rw[List.take_length] at hd
  by_cases h1:(1:Int)≤(l.length:Int)
  ·by_cases h2:(l.length:Int)≤200
   ·by_cases h3:(l.length:Int)=1
    ·rw[iW.2 ⟨hd,by omega,by omega,.inl (by omega)⟩]
     simp only[dM,g0,g3,bJ,cP,ge_iff_le,h1,h2,h3,Int.reduceLE,Int.reduceLT,VX,Nat.reduceEqDiff,Nat.reduceAdd]
     exact aF rfl
    ·have e1:=G0 l (by omega)
     by_cases h4:(((l.getD 0 0).toNat:Int)=48)
     ·have hk:gS l=false:=by
       cases h:gS l with
       | false=>rfl
       |
        true =>
        rcases(iW.1 h).2.2.2 with h5 | h5
        ·omega
        ·exact absurd (UInt8.toNat_inj.1 (by rw[show (48:UInt8).toNat=48 from rfl];omega)) h5
      rw[hk]
      simp only[dM,g0,g3,bJ,cP,ge_iff_le,h1,h2,h3,h4,e1,VX,Nat.reduceEqDiff,Nat.reduceAdd]
      exact aF rfl
     ·have h5:l.getD 0 0≠48:=fun h=>h4 (by rw[h];rfl)
      rw[iW.2 ⟨hd,by omega,by omega,.inr h5⟩]
      simp only[dM,g0,g3,bJ,cP,ge_iff_le,h1,h2,h3,h4,e1,VX,Nat.reduceEqDiff,Nat.reduceAdd]
      exact aF rfl
   ·have hk:gS l=false:=by
     cases h:gS l with
     | false=>rfl
     | true=>have:=(iW.1 h).2.2.1;omega
    rw[hk]
    simp only[dM,g0,g3,bJ,cP,ge_iff_le,h1,h2,VX,Nat.reduceEqDiff,Nat.reduceAdd]
    exact aF rfl
  ·have hk:gS l=false:=by
    cases h:gS l with
    | false=>rfl
    | true=>have:=(iW.1 h).2.1;omega
   rw[hk]
   simp only[dM,g0,g3,bJ,cP,ge_iff_le,h1,VX,Nat.reduceEqDiff,Nat.reduceAdd]
   exact aF rfl
set_option maxHeartbeats 1000000 in
theorem Et (l:List UInt8) (c:UInt8) (hl:l.length≤1000000000000):TC 167 [aU l,.sc (.int .u8 (c.toNat:Int))] (aO aU (gL c l)):=by
 refine TC.walk ⟨true,false⟩ M3 rfl (Nat.le_of_ble_eq_true rfl) rfl (CJ (size:=1) (fun _=>rfl) (fun _=>rfl) fun _=>rfl) ?_
 have e3:∀lr,mF lr [.string ⟨#[]⟩] 0 [] []=some (.ref 0 0 0 0 0,[.row 0 (([]:List (List UInt8)).map aU) 1 true]):=fun lr=>kA (H:=[]) (lr:=lr) (z:=[.string ⟨#[]⟩]) rfl
 have e4:∀(x:List UInt8) (H:aA),mF false [.string ⟨#[]⟩] 1 [(0,aU x)] H=some (.tree [aU x] (.cl 1),H):=fun x H=>iJ (z:=[.string ⟨#[]⟩]) rfl rfl rfl
 have e5:∀(x:List UInt8) (H:aA),cW 1 (.tree [aU x] (.cl 1)) H=some [aU x]:=fun x H=>fK rfl rfl
 simp only[It,EH,e3,VX,Nat.reduceEqDiff,Nat.reduceAdd]
 refine aQ (fun(s:List (List UInt8)×Nat×Nat) ρ H=>H=[.row s.1.length (s.1.map aU) 1 true]∧s.2.1≤s.2.2∧s.2.2≤l.length+1∧s.1.length≤s.2.1 ∧
  ((s.2.2≤l.length∧gL c l=s.1++gL c (l.drop s.2.1)∧c∉(l.drop s.2.1).take (s.2.2-s.2.1))∨(s.2.2=l.length+1∧gL c l=s.1)) ∧
  ρ 0=aU l∧ρ 1 = .sc (.int .u8 (c.toNat:Int))∧ρ 5 = .ref 0 s.1.length 0 s.1.length s.1.length∧ρ 6=VI s.2.1∧ρ 7=VI s.2.2) (fun s=>l.length+1-s.2.2) ([],0,0) ⟨rfl,Nat.zero_le _,Nat.zero_le _,Nat.zero_le _,.inl ⟨Nat.zero_le _,rfl,by simp⟩,rfl,rfl,rfl,rfl,rfl⟩ ?_
 rintro⟨out,fr,i⟩ ρ H ⟨rfl,hfi,hi,iO,HX,g0,g1,g5,g6,g7⟩
 simp only at hfi hi iO HX g5 g6 g7
 by_cases cP:(i:Int)≤(l.length:Int)
 ·have Ua:i≤l.length:=by omega
  obtain⟨hp,hc⟩:gL c l=out++gL c (l.drop fr)∧c∉(l.drop fr).take (i-fr):=by
   rcases HX with⟨_,h1,h2⟩ | ⟨h,_⟩
   ·exact⟨h1,h2⟩
   ·omega
  have wi:IntKind.i64.wrap ((i:Int)+1)=((i+1:Nat):Int):=wrapN (i+1) (by omega) (by omega)
  have e2:=Zh l hfi Ua
  have eP:=gY (f:=aU) (xs:=out) (x:=(l.drop fr).take (i-fr)) (lo:=0) (b:=0) (g:=out.length) (n:=out.length) (e:=1) (bytes:=16) (H:=[.row out.length (out.map aU) 1 true]) aS rfl (Nat.zero_le _) (by decide) (by decide) (by omega)
  have G1:([.row out.length (out.map aU) 1 true]:aA).set 0 (.row (out.length+1) ((out++[(l.drop fr).take (i-fr)]).map aU) 1 true)=[.row (out.length+1) ((out++[(l.drop fr).take (i-fr)]).map aU) 1 true]:=rfl
  rw[G1] at eP
  by_cases q1:i=l.length
  ·subst q1
   have abS:gL c l=out++[(l.drop fr).take (l.length-fr)]:=by
    rw[hp]
    have:(l.drop fr).take (l.length-fr)=l.drop fr:=List.take_of_length_le (by rw[List.length_drop];omega)
    rw[this] at hc ⊢
    rw[Fo hc]
   simp only[oH,g0,g1,g5,g6,g7,bJ,cP,eq_self,e2,e4,e5,eP,wi,VX,Nat.reduceEqDiff,Nat.reduceAdd]
   refine⟨(out++[(l.drop fr).take (l.length-fr)],l.length+1,l.length+1),by simp only;omega,?_,by simp only;omega,by simp only;omega,?_,.inr ⟨rfl,abS⟩,?_⟩
   ·simp
   ·simp only[List.length_append,List.length_cons,List.length_nil];omega
   ·simp
  ·have agS:i<l.length:=by omega
   have q1':¬(i:Int)=(l.length:Int):=by omega
   have e1:=CY l agS
   have hgd:l.drop i=l.getD i 0::l.drop (i+1):=by rw[List.drop_eq_getElem_cons agS,List.getD_eq_getElem?_getD,List.getElem?_eq_getElem agS];rfl
   by_cases q2:l.getD i 0=c
   ·have q2':((l.getD i 0).toNat:Int)=(c.toNat:Int):=by rw[q2]
    have abS:gL c l=(out++[(l.drop fr).take (i-fr)])++gL c (l.drop (i+1)):=by
     have Rn:l.drop fr=(l.drop fr).take (i-fr)++c::l.drop (i+1):=by
      have h1:(l.drop fr).drop (i-fr)=l.drop i:=by rw[List.drop_drop];congr 1;omega
      conv=>lhs;rw[←List.take_append_drop (i-fr) (l.drop fr),h1,hgd,q2]
     rw[hp]
     conv=>lhs;rw[Rn]
     rw[Ko hc,List.append_assoc]
     rfl
    simp only[oH,g0,g1,g5,g6,g7,bJ,cP,q1',e1,q2',eq_self,e2,e4,e5,eP,wi,VX,Nat.reduceEqDiff,Nat.reduceAdd]
    refine⟨(out++[(l.drop fr).take (i-fr)],i+1,i+1),by simp only;omega,?_,by simp only;omega,by simp only;omega,?_,.inl ⟨by simp only;omega,abS,by simp⟩,?_⟩
    ·simp
    ·simp only[List.length_append,List.length_cons,List.length_nil];omega
    ·simp
   ·have q2':¬((l.getD i 0).toNat:Int)=(c.toNat:Int):=fun h=>q2 (UInt8.toNat_inj.1 (by omega))
    simp only[oH,g0,g1,g5,g6,g7,bJ,cP,q1',e1,q2',wi,VX,Nat.reduceEqDiff,Nat.reduceAdd]
    refine⟨(out,fr,i+1),by simp only;omega,rfl,by simp only;omega,by simp only;omega,iO,.inl ⟨by simp only;omega,hp,?_⟩,rfl,rfl,rfl⟩
    simp only
    rw[show i+1-fr=(i-fr)+1 by omega,List.take_add_one,List.mem_append,not_or]
    refine⟨hc,?_⟩
    have:(l.drop fr)[i-fr]? = some (l.getD i 0):=by
     rw[List.getElem?_drop,show fr+(i-fr)=i by omega,List.getD_eq_getElem?_getD,List.getElem?_eq_getElem agS]
     rfl
    rw[this]
    simp
    exact fun h=>q2 h.symm
 ·have abS:gL c l=out:=by
   rcases HX with⟨h,_⟩ | ⟨_,h⟩
   ·omega
   ·exact h
  rw[abS]
  simp only[oH,g0,g5,g7,bJ,cP,VX,Nat.reduceEqDiff,Nat.reduceAdd]
  exact Fb (es:=out.map aU) aS (by simp) (Nat.le_refl _) (eR fun _=>rfl)
theorem YS {l:List UInt8} (h:l.all gW=true) {i:Nat} (hi:i<l.length):48≤(l.getD i 0).toNat∧(l.getD i 0).toNat≤57:=by
 have:=List.all_eq_true.1 h (l.getD i 0) (by rw[List.getD_eq_getElem?_getD,List.getElem?_eq_getElem hi];exact List.getElem_mem hi)
 simpa[gW] using this
theorem Lx {l:List UInt8} (hd:l.all gW=true) (hl:l.length≤1000000000000) {fr tq:Nat} (hft:fr≤tq) (h9:tq-fr≤9) (htl:tq≤l.length) {H:aA} {lo:Nat} {ρ:dG} {Q:VQ} (h0:ρ 0=aU l) (h4:ρ 4=VI tq) (h6:ρ 6=VI 0) (h7:ρ 7=VI fr)
  (hQ:∀bC,(∀t,t<6→bC t=ρ t)→bC 6=VI (bQ ((l.drop fr).take (tq-fr)))→Q .normal bC H):VW ⟨true,false⟩ lo (.loop mA) (zV 2 Q) ρ H:=by
 refine aQ (fun(i:Nat) bC H'=>fr≤i∧i≤tq∧H'=H∧(∀t,t<6→bC t=ρ t)∧bC 6=VI (bQ ((l.drop fr).take (i-fr)))∧bC 7=VI i) (fun i=>tq-i) fr ⟨Nat.le_refl _,hft,rfl,fun _ _=>rfl,by rw[h6,Nat.sub_self];rfl,h7⟩ ?_
 rintro i bC H' ⟨hfi,hi,rfl,hk,g6,g7⟩
 have g0:=(hk 0 (by decide)).trans h0
 have g4:=(hk 4 (by decide)).trans h4
 by_cases cP:(i:Int)<(tq:Int)
 ·have Ua:i<l.length:=by omega
  have e1:=CY l Ua
  obtain⟨c1,c2⟩:=YS hd Ua
  have wi:IntKind.i64.wrap ((i:Int)+1)=((i+1:Nat):Int):=wrapN (i+1) (by omega) (by omega)
  have hcd:((l.drop fr).take (i-fr)).all gW=true:=by
   rw[List.all_eq_true] at hd ⊢
   exact fun x hx=>hd x (List.mem_of_mem_drop (List.mem_of_mem_take hx))
  have bA:=FK hcd
  rw[List.length_take,List.length_drop,Nat.min_eq_left (by omega)] at bA
  have hp9:10^(i-fr)≤10^8:=Nat.pow_le_pow_right (by decide) (by omega)
  have e8:(10:Nat)^8=100000000:=by decide
  have rO:bQ ((l.drop fr).take (i+1-fr))=bQ ((l.drop fr).take (i-fr))*10+dv (l.getD i 0):=by
   have:(l.drop fr)[i-fr]? = some (l.getD i 0):=by
    rw[List.getElem?_drop,show fr+(i-fr)=i by omega,List.getD_eq_getElem?_getD,List.getElem?_eq_getElem Ua]
    rfl
   rw[show i+1-fr=(i-fr)+1 by omega,List.take_add_one,this]
   exact WW _ _
  have hdv:dv (l.getD i 0)=(l.getD i 0).toNat-48:=rfl
  rw[hdv] at rO
  generalize (l.getD i 0).toNat=c at *
  generalize bQ ((l.drop fr).take (i-fr))=D at *
  have w1:IntKind.i64.wrap (10*(D:Int))=((10*D:Nat):Int):=wrapN _ (by omega) (by omega)
  have w2:IntKind.u8.wrap ((c:Int)-48)=((c-48:Nat):Int):=by
   simp[IntKind.wrap,IntKind.bits,IntKind.signed]
   omega
  have w3:IntKind.i64.wrap ((c-48:Nat):Int)=((c-48:Nat):Int):=wrapN _ rfl (by omega)
  have w4:IntKind.i64.wrap (((10*D:Nat):Int)+((c-48:Nat):Int))=((D*10+(c-48):Nat):Int):=wrapN _ (by omega) (by omega)
  simp only[mA,g0,g4,g6,g7,cP,e1,w1,w2,w3,w4,wi,VX,Nat.reduceEqDiff,Nat.reduceAdd]
  refine⟨i+1,by omega,by omega,by omega,fun t ht => ?_,by rw[rO],rfl⟩
  try simp only[uE]
  repeat rw[if_neg (by omega)]
  exact hk t ht
 ·have nS:i=tq:=by omega
  subst nS
  simp only[mA,g4,g7,cP,VX,Nat.reduceEqDiff,Nat.reduceAdd]
  refine hQ _ (fun t ht => ?_) ?_
  ·try simp only[uE]
   repeat rw[if_neg (by omega)]
   exact hk t ht
  ·simp only[g6,VX,Nat.reduceEqDiff,Nat.reduceAdd]
set_option maxHeartbeats 1000000 in
theorem sM (l:List UInt8) (hd:l.all gW=true) (hl:l.length≤1000000000):TC 169 [aU l] (bS (bQ l)):=by
 refine TC.walk ⟨true,false⟩ FM rfl (Nat.le_of_ble_eq_true rfl) rfl (mM _) ?_
 have e3:∀lr,mF lr [.int .i64 0] 0 [] []=some (.ref 0 0 0 0 0,[.row 0 (([]:List Nat).map tV) 1 true]):=fun lr=>kA (H:=[]) (lr:=lr) (z:=[.int .i64 0]) rfl
 have e4:∀(x:Nat) (H:aA),mF false [.int .i64 0] 1 [(0,tV x)] H=some (.tree [tV x] (.cl 1),H):=fun x H=>iJ (z:=[.int .i64 0]) rfl rfl rfl
 have e5:∀(x:Nat) (H:aA),cW 1 (.tree [tV x] (.cl 1)) H=some [tV x]:=fun x H=>fK rfl rfl
 simp only[BV,yR,e3,bJ,VX,Nat.reduceEqDiff,Nat.reduceAdd]
 refine aQ (fun(s:List Nat×Int) ρ H=>H=[.row s.1.length (s.1.map tV) 1 true]∧s.2≤l.length ∧ -9≤s.2∧s.1.length+s.2.toNat≤l.length∧(∀d∈s.1,d<1000000000)∧bQ l=val 1000000000 s.1+1000000000^s.1.length*bQ (l.take s.2.toNat) ∧
  ρ 0=aU l∧ρ 3 = .ref 0 s.1.length 0 s.1.length s.1.length∧ρ 4=VI s.2) (fun s=>s.2.toNat) ([],(l.length:Int)) ⟨rfl,Int.le_refl _,by simp only;omega,by simp,by simp,?_,rfl,rfl,rfl⟩ ?_
 ·simp only[Int.toNat_natCast,List.take_length,List.length_nil,Nat.pow_zero,Nat.one_mul,val,Nat.zero_add]
 rintro⟨out,z⟩ ρ H ⟨rfl,hz,hz9,iO,hds,hv,g0,g3,g4⟩
 simp only at hz hz9 iO hds hv g3 g4
 by_cases kH:0<z
 ·obtain⟨tq,rfl⟩:∃tq:Nat,z=tq:=⟨z.toNat,by omega⟩
  rw[Int.toNat_natCast] at iO hv
  have hto:0<tq:=by omega
  have key:∀fr:Nat,fr≤tq→tq-fr≤9→bQ (l.take tq)=bQ (l.take fr)*10^(tq-fr)+bQ ((l.drop fr).take (tq-fr))∧bQ ((l.drop fr).take (tq-fr))<1000000000:=by
   intro fr h1 h2
   have hcd:((l.drop fr).take (tq-fr)).all gW=true:=by
    rw[List.all_eq_true] at hd ⊢
    exact fun x hx=>hd x (List.mem_of_mem_drop (List.mem_of_mem_take hx))
   have hlen:((l.drop fr).take (tq-fr)).length=tq-fr:=by rw[List.length_take,List.length_drop];omega
   constructor
   ·have:=List.take_add (l:=l) (i:=fr) (j:=tq-fr)
    rw[show fr+(tq-fr)=tq by omega] at this
    rw[this,Lt,hlen]
   ·have:=FK hcd
    rw[hlen] at this
    exact Nat.lt_of_lt_of_le this (Nat.le_trans (Nat.pow_le_pow_right (by decide) h2) (by decide))
  have eP:=fun X=>gY (f:=tV) (xs:=out) (x:=X) (lo:=0) (b:=0) (g:=out.length) (n:=out.length) (e:=1) (bytes:=8) (H:=[.row out.length (out.map tV) 1 true]) aS rfl (Nat.zero_le _) (by decide) (by decide) (by omega)
  have G1:∀X,([.row out.length (out.map tV) 1 true]:aA).set 0 (.row (out.length+1) ((out++[X]).map tV) 1 true)=[.row (out.length+1) ((out++[X]).map tV) 1 true]:=fun _=>rfl
  simp only[G1] at eP
  by_cases h9:(9:Int)<(tq:Int)
  ·obtain⟨k1,k2⟩:=key (tq-9) (by omega) (by omega)
   have wz:IntKind.i64.wrap ((tq:Int)-9)=((tq-9:Nat):Int):=wrapN _ (by omega) (by omega)
   rw[show tq-(tq-9)=9 by omega] at k1 k2
   rw[show (10:Nat)^9=1000000000 by decide] at k1
   simp only[mD,g0,g3,g4,kH,h9,wz,VX,Nat.reduceEqDiff,Nat.reduceAdd]
   refine Lx (l:=l) hd (by omega) (fr:=tq-9) (tq:=tq) (by omega) (by omega) (by omega) ?_ ?_ ?_ ?_ fun wB q q6 => ?_
   all_goals first | (simp only[g0,g4,VX,Nat.reduceEqDiff,Nat.reduceAdd];done) | skip
   rw[show tq-(tq-9)=9 by omega] at q6
   have u3:wB 3 = .ref 0 out.length 0 out.length out.length:=by rw[q 3 (by decide)];simp only[g3,VX,Nat.reduceEqDiff,Nat.reduceAdd]
   have u0:wB 0=aU l:=by rw[q 0 (by decide)];simp only[g0,VX,Nat.reduceEqDiff,Nat.reduceAdd]
   have u4:wB 4=VI tq:=by rw[q 4 (by decide)];simp only[g4,VX,Nat.reduceEqDiff,Nat.reduceAdd]
   generalize bQ ((l.drop (tq-9)).take 9)=X at *
   have e4:=e4 X
   have e5:=e5 X
   have eP:=eP X
   simp only[u0,u3,u4,q6,e4,e5,eP,wz,VX,Nat.reduceEqDiff,Nat.reduceAdd]
   refine⟨(out++[X],((tq-9:Nat):Int)),by simp only;omega,?_,by simp only;omega,by simp only;omega,?_,?_,?_,?_⟩
   ·simp
   ·simp only[List.length_append,List.length_cons,List.length_nil];omega
   ·intro d hdm
    rcases List.mem_append.1 hdm with h | h
    ·exact hds d h
    ·rw[List.mem_singleton] at h;omega
   ·simp only[Int.toNat_natCast]
    rw[hv,k1,rN,List.length_append,List.length_singleton,Nat.pow_succ]
    grind
   ·simp
  ·obtain⟨k1,k2⟩:=key 0 (by omega) (by omega)
   rw[List.take_zero,Lv,Nat.zero_mul,Nat.zero_add,Nat.sub_zero] at k1
   rw[Nat.sub_zero] at k2
   have wz:IntKind.i64.wrap ((tq:Int)-9)=(tq:Int)-9:=wrap64 (by omega) (by omega)
   simp only[mD,g0,g3,g4,kH,h9,VX,Nat.reduceEqDiff,Nat.reduceAdd]
   refine Lx (l:=l) hd (by omega) (fr:=0) (tq:=tq) (by omega) (by omega) (by omega) ?_ ?_ ?_ ?_ fun wB q q6 => ?_
   all_goals first | (simp only[g0,g4,VX,Nat.reduceEqDiff,Nat.reduceAdd];done) | (simp only[VX,Nat.reduceEqDiff,Nat.reduceAdd];rfl) | skip
   rw[Nat.sub_zero] at q6
   have u3:wB 3 = .ref 0 out.length 0 out.length out.length:=by rw[q 3 (by decide)];simp only[g3,VX,Nat.reduceEqDiff,Nat.reduceAdd]
   have u0:wB 0=aU l:=by rw[q 0 (by decide)];simp only[g0,VX,Nat.reduceEqDiff,Nat.reduceAdd]
   have u4:wB 4=VI tq:=by rw[q 4 (by decide)];simp only[g4,VX,Nat.reduceEqDiff,Nat.reduceAdd]
   generalize bQ ((l.drop 0).take tq)=X at *
   have e4:=e4 X
   have e5:=e5 X
   have eP:=eP X
   simp only[u0,u3,u4,q6,e4,e5,eP,wz,VX,Nat.reduceEqDiff,Nat.reduceAdd]
   refine⟨(out++[X],(tq:Int)-9),by simp only;omega,?_,by simp only;omega,by simp only;omega,?_,?_,?_,?_⟩
   ·simp
   ·simp only[List.length_append,List.length_cons,List.length_nil];omega
   ·intro d hdm
    rcases List.mem_append.1 hdm with h | h
    ·exact hds d h
    ·rw[List.mem_singleton] at h;omega
   ·simp only
    rw[show ((tq:Int)-9).toNat=0 by omega,List.take_zero,Lv,Nat.mul_zero,Nat.add_zero,hv,k1,rN]
   ·simp
 ·have h0:z.toNat=0:=by omega
  rw[h0,List.take_zero,Lv,Nat.mul_zero,Nat.add_zero] at hv
  rw[hv]
  have ct:=TC.agM (f:=tV) (xs:=out) (size:=1) (e:=1) (w:=true) (H:=[.row out.length (out.map tV) 1 true]) (b:=0) (gn:=out.length) (n:=out.length) (c:=out.length) (rQ out hds (by show out.length≤70368744177664;omega)) aS rfl (Nat.le_refl _) EX (fun _=>rfl) rfl rfl
  simp only[mD,g0,g3,g4,kH,ct,VX,Nat.reduceEqDiff,Nat.reduceAdd]
  exact aF (cA _)
end Go.PM
namespace Go.PM
open Go.Lib
def CS (l:List UInt8):VV:=match xZ l with
 | some q => .eY [bZ q,VB true]
 | none => .eY [KG,VB false]
theorem xW (q:Rat):aN (bZ q)=true:=by simp[bZ,aN,aL,cA,kE]
theorem Nq (q:Rat):gZ (bZ q)=true:=by simp[bZ,gZ,qZ,mM,kE]
theorem Uh (l:List UInt8):gZ (CS l)=true:=by
 unfold CS
 split<;>simp[gZ,qZ,Nq,Qd,kE]
theorem Kp {neg:Bool} {t b:Nat} (hb:b≠0) (hg:Nat.gcd t b=1) (hn:¬(neg=true∧t=0)):bZ (mkRat (pJ neg t) b) = .agg [VB neg,bS t,bS b]:=by
 obtain⟨e1,e2⟩:=IT (neg:=neg) hb hg
 refine O5 ?_ (by rw[e1,zJ]) e2
 rw[e1]
 cases neg with
 | false=>unfold pJ;simp
 |
  true =>
  have:t≠0:=fun h=>hn ⟨rfl,h⟩
  unfold pJ
  simp
  omega
theorem DQ {n:Nat}:(((aC 1000000000 n).length:Nat):Int)=0↔n=0:=by
 rw[←kU (b:=1000000000) (n:=n) (by decide),←List.length_eq_zero_iff]
 omega
theorem RA {neg:Bool} {d t:List UInt8} (h:(47:UInt8)∈t):nU neg d (some t)=none:=by
 have ht:gS t=false:=by
  cases hk:gS t with
  | false=>rfl
  | true=>exact absurd h (ZC (iW.1 hk).1)
 unfold nU
 split
 ·rfl
 ·simp only
  rw[if_neg (fun h=>by rw[ht] at h;exact absurd h.1 (by decide))]
theorem at_one (x:List UInt8) (H:aA):bH 1 (aO aU [x]) (VI 0) H=some (.cV (aU x) 0):=aI (f:=aU) (t := .op) (H:=H) (size:=1) (k := .i64) (xs:=[x]) (i:=0) rfl rfl
theorem ahD (x y:List UInt8) (H:aA):bH 1 (aO aU [x,y]) (VI 0) H=some (.cV (aU x) 0):=aI (f:=aU) (t := .op) (H:=H) (size:=1) (k := .i64) (xs:=[x,y]) (i:=0) rfl rfl
theorem agA (x y:List UInt8) (H:aA):bH 1 (aO aU [x,y]) (VI 1) H=some (.cV (aU y) 0):=aI (f:=aU) (t := .op) (H:=H) (size:=1) (k := .i64) (xs:=[x,y]) (i:=1) rfl rfl
theorem Vt (x:List UInt8) (H:aA):oC (aO aU [x]) H=some (VI 1):=dQ (f:=aU) (xs:=[x])
theorem aeV (x y:List UInt8) (H:aA):oC (aO aU [x,y]) H=some (VI 2):=dQ (f:=aU) (xs:=[x,y])
set_option maxRecDepth 100000 in
set_option maxHeartbeats 4000000 in
theorem JA (l:List UInt8) (hl:l.length≤1000000000):TC 110 [aU l] (CS l):=by
 refine TC.walk ⟨true,false⟩ Jr rfl (Nat.le_of_ble_eq_true rfl) rfl (Uh l) ?_
 by_cases Af:l=[]
 ·subst Af
  have eC:TC 167 [.sc (.string ⟨#[]⟩),.sc (.int .u8 47)] (aO aU [[]]):=Et [] 47 (by simp)
  have eD:TC 168 [.sc (.string ⟨#[]⟩)] (VB false):=oR [] (by simp)
  have e1:AU (.string ⟨#[]⟩)=some (.int .i64 0):=rfl
  have a1:=at_one []
  have a2:=Vt []
  simp only[bU,bI,e1,eC,eD,a1,a2,Int.reduceLT,Int.reduceLE,aK,kQ,Nat.reduceLeDiff,Nat.reduceLT,Nat.reduceSub,VX,Nat.reduceEqDiff,Nat.reduceAdd]
  exact bN (d:=6) fU (aJ (v:=VB false) rfl)
 have hp:0<l.length:=List.length_pos_iff.2 Af
 have kH:(0:Int)<(l.length:Int):=by omega
 have e0:=G0 l hp
 unfold CS
 unfold xZ
 have lU:isNeg l=decide (((l.getD 0 0).toNat:Int)=45):=by
  unfold isNeg
  rw[decide_eq_true (show 1≤l.length from hp),Bool.true_and]
  refine decide_eq_decide.2 ⟨fun h=>by rw[h];rfl,fun h=>UInt8.toNat_inj.1 (by rw[show (45:UInt8).toNat=45 from rfl];omega)⟩
 have SG:(if isNeg l=true then l.drop 1 else l).length≤l.length:=by split<;>simp
 have q0:isNeg l=false→¬((l.getD 0 0).toNat:Int)=45:=fun h=>by rw[lU] at h;exact of_decide_eq_false h
 have q9:isNeg l=true→((l.getD 0 0).toNat:Int)=45:=fun h=>by rw[lU] at h;exact of_decide_eq_true h
 have r0:isNeg l=false→(if isNeg l=true then l.drop 1 else l)=l:=fun h=>by rw[h];rfl
 have r9:isNeg l=true→uL (aU l) (some (VI 1)) none=some (aU (if isNeg l=true then l.drop 1 else l)):=fun h=>by rw[h];exact Nt l (a:=1) hp
 generalize (if isNeg l=true then l.drop 1 else l)=r at *
 generalize isNeg l=neg at *
 clear lU
 have eC:TC 167 [aU r,.sc (.int .u8 47)] (aO aU (gL 47 r)):=Et r 47 (by omega)
 obtain⟨l1,l2⟩:=SA (c:=47) (l:=r)
 cases hs:(lH 47 r).2 with
 |
  none =>
  have hd:=(AQ hs).2.1
  rw[PY hs] at eC
  rw[hd]
  have a1:=at_one r
  have a2:=Vt r
  have eD:=oR r (by omega)
  cases hk:gS r with
  |
   false =>
   rw[hk] at eD
   have Ys:nU neg r none=none:=if_pos (.inl hk)
   rw[Ys]
   cases neg with
   |
    false =>
    have q1:=q0 rfl
    have SG:=r0 rfl
    subst SG
    simp only[bU,bI,bJ,kH,e0,q1,eC,eD,a1,a2,Int.reduceLT,aK,bL,aP,bD,dP,fI,dO,fH,kQ,Nat.reduceLeDiff,Nat.reduceLT,Nat.reduceSub,VX,Nat.reduceEqDiff,Nat.reduceAdd]
    exact bN (d:=6) fU (aJ (v:=VB false) rfl)
   |
    true =>
    have q1:=q9 rfl
    have e9:=r9 rfl
    simp only[bU,bI,bJ,kH,e0,q1,eC,eD,a1,a2,Int.reduceLT,e9,aK,bL,aP,bD,dP,fI,dO,fH,kQ,Nat.reduceLeDiff,Nat.reduceLT,Nat.reduceSub,VX,Nat.reduceEqDiff,Nat.reduceAdd]
    exact bN (d:=6) fU (aJ (v:=VB false) rfl)
  |
   true =>
   rw[hk] at eD
   have hbt:=wO hk
   have eN:=sM r (iW.1 hk).1 (by omega)
   by_cases hz:neg=true∧bQ r=0
   ·have Ys:nU neg r none=none:=if_pos (.inr hz)
    rw[Ys]
    obtain⟨rfl,Ha⟩:=hz
    have q1:=q9 rfl
    have e9:=r9 rfl
    have Ih:(((aC 1000000000 (bQ r)).length:Nat):Int)=0:=DQ.2 Ha
    simp only[bU,bI,bJ,kH,e0,q1,eC,eD,a1,a2,eN,e9,cZ,Ih,Int.reduceLT,aK,bL,aP,bD,dP,fI,dO,fH,kQ,Nat.reduceLeDiff,Nat.reduceLT,Nat.reduceSub,VX,Nat.reduceEqDiff,Nat.reduceAdd]
    exact bN (d:=6) fU (aJ (v:=VB false) rfl)
   ·have D4:neg=true→¬(((aC 1000000000 (bQ r)).length:Nat):Int)=0:=fun h h0=>hz ⟨h,DQ.1 h0⟩
    have Ys:nU neg r none=some (mkRat (pJ neg (bQ r)) 1):=if_neg (by rw[hk];rintro(h | h);exact absurd h (by decide);exact hz h)
    rw[Ys]
    simp only[]
    rw[Kp (by decide) (Nat.gcd_one_right _) hz]
    cases neg with
    |
     false =>
     have q1:=q0 rfl
     have SG:=r0 rfl
     subst SG
     simp only[bU,bI,bJ,kH,e0,q1,eC,eD,a1,a2,eN,Int.reduceLT,Int.reduceEq,aK,bL,aP,bD,dP,fI,dO,fH,kQ,Nat.reduceLeDiff,Nat.reduceLT,Nat.reduceSub,VX,Nat.reduceEqDiff,Nat.reduceAdd]
     exact bN (d:=6) (qB (aJ (v:=VB false) rfl) (aJ (cA _)) Pt) (aJ (v:=VB true) rfl)
    |
     true =>
     have q1:=q9 rfl
     have e9:=r9 rfl
     have Ih:=D4 rfl
     simp only[bU,bI,bJ,kH,e0,q1,eC,eD,a1,a2,eN,Int.reduceLT,Int.reduceEq,e9,cZ,Ih,aK,bL,aP,bD,dP,fI,dO,fH,kQ,Nat.reduceLeDiff,Nat.reduceLT,Nat.reduceSub,VX,Nat.reduceEqDiff,Nat.reduceAdd]
     exact bN (d:=6) (qB (aJ (v:=VB true) rfl) (aJ (cA _)) Pt) (aJ (v:=VB true) rfl)
 |
  some t =>
  have ltt:=l2 t hs
  rw[IZ hs] at eC
  generalize (lH 47 r).1=d at *
  by_cases hm:(47:UInt8)∈t
  ·rw[RA hm]
   have hP:=Rg hm
   generalize hPP:gL 47 t=P at *
   have a2:∀H,oC (aO aU (d::P)) H=some (VI ((d::P).length:Int)):=fun H=>dQ (f:=aU) (xs:=d::P)
   have hq3:(2:Int)<((d::P).length:Int):=by rw[List.length_cons];omega
   generalize hQQ:d::P=PP at *
   clear hQQ hPP hP
   cases neg with
   |
    false =>
    have q1:=q0 rfl
    have SG:=r0 rfl
    subst SG
    simp only[bU,bI,bJ,kH,e0,q1,eC,a2,hq3,aK,bL,aP,bD,dP,fI,dO,fH,kQ,Nat.reduceLeDiff,Nat.reduceLT,Nat.reduceSub,VX,Nat.reduceEqDiff,Nat.reduceAdd]
    exact bN (d:=6) fU (aJ (v:=VB false) rfl)
   |
    true =>
    have q1:=q9 rfl
    have e9:=r9 rfl
    simp only[bU,bI,bJ,kH,e0,q1,eC,a2,hq3,e9,aK,bL,aP,bD,dP,fI,dO,fH,kQ,Nat.reduceLeDiff,Nat.reduceLT,Nat.reduceSub,VX,Nat.reduceEqDiff,Nat.reduceAdd]
    exact bN (d:=6) fU (aJ (v:=VB false) rfl)
  ·rw[Fo hm] at eC
   have a1:=ahD d t
   have a3:=agA d t
   have a2:=aeV d t
   have eD:=oR d (by omega)
   have eF:=oR t (by omega)
   cases hk:gS d with
   |
    false =>
    rw[hk] at eD
    have Ys:nU neg d (some t)=none:=if_pos (.inl hk)
    rw[Ys]
    cases neg with
    |
     false =>
     have q1:=q0 rfl
     have SG:=r0 rfl
     subst SG
     simp only[bU,bI,bJ,kH,e0,q1,eC,eD,a1,a2,Int.reduceLT,aK,bL,aP,bD,dP,fI,dO,fH,kQ,Nat.reduceLeDiff,Nat.reduceLT,Nat.reduceSub,VX,Nat.reduceEqDiff,Nat.reduceAdd]
     exact bN (d:=6) fU (aJ (v:=VB false) rfl)
    |
     true =>
     have q1:=q9 rfl
     have e9:=r9 rfl
     simp only[bU,bI,bJ,kH,e0,q1,eC,eD,a1,a2,Int.reduceLT,e9,aK,bL,aP,bD,dP,fI,dO,fH,kQ,Nat.reduceLeDiff,Nat.reduceLT,Nat.reduceSub,VX,Nat.reduceEqDiff,Nat.reduceAdd]
     exact bN (d:=6) fU (aJ (v:=VB false) rfl)
   |
    true =>
    rw[hk] at eD
    have hbt:=wO hk
    have eN:=sM d (iW.1 hk).1 (by omega)
    by_cases hz:neg=true∧bQ d=0
    ·have Ys:nU neg d (some t)=none:=if_pos (.inr hz)
     rw[Ys]
     obtain⟨rfl,Ha⟩:=hz
     have q1:=q9 rfl
     have e9:=r9 rfl
     have Ih:(((aC 1000000000 (bQ d)).length:Nat):Int)=0:=DQ.2 Ha
     simp only[bU,bI,bJ,kH,e0,q1,eC,eD,a1,a2,eN,e9,cZ,Ih,Int.reduceLT,aK,bL,aP,bD,dP,fI,dO,fH,kQ,Nat.reduceLeDiff,Nat.reduceLT,Nat.reduceSub,VX,Nat.reduceEqDiff,Nat.reduceAdd]
     exact bN (d:=6) fU (aJ (v:=VB false) rfl)
    ·have D4:neg=true→¬(((aC 1000000000 (bQ d)).length:Nat):Int)=0:=fun h h0=>hz ⟨h,DQ.1 h0⟩
     have Ys:nU neg d (some t)=if gS t=true∧1<bQ t∧Nat.gcd (bQ d) (bQ t)=1 then some (mkRat (pJ neg (bQ d)) (bQ t)) else none:=if_neg (by rw[hk];rintro(h | h);exact absurd h (by decide);exact hz h)
     rw[Ys]
     clear Ys
     cases ht:gS t with
     |
      false =>
      rw[ht] at eF
      rw[if_neg (fun h=>absurd h.1 (by decide))]
      cases neg with
      |
       false =>
       have q1:=q0 rfl
       have SG:=r0 rfl
       subst SG
       simp only[bU,bI,bJ,kH,e0,q1,eC,eD,eF,a1,a2,a3,eN,Int.reduceLT,Int.reduceEq,aK,bL,aP,bD,dP,fI,dO,fH,kQ,Nat.reduceLeDiff,Nat.reduceLT,Nat.reduceSub,VX,Nat.reduceEqDiff,Nat.reduceAdd]
       exact bN (d:=6) fU (aJ (v:=VB false) rfl)
      |
       true =>
       have q1:=q9 rfl
       have e9:=r9 rfl
       have Ih:=D4 rfl
       simp only[bU,bI,bJ,kH,e0,q1,eC,eD,eF,a1,a2,a3,eN,Int.reduceLT,Int.reduceEq,e9,cZ,Ih,aK,bL,aP,bD,dP,fI,dO,fH,kQ,Nat.reduceLeDiff,Nat.reduceLT,Nat.reduceSub,VX,Nat.reduceEqDiff,Nat.reduceAdd]
       exact bN (d:=6) fU (aJ (v:=VB false) rfl)
     |
      true =>
      rw[ht] at eF
      have J8:=wO ht
      have eM:=sM t (iW.1 ht).1 (by omega)
      have c2:∀lo H K,_:=fun lo H K=>JQ (n:=bQ t) (lo:=lo) (H:=H) (K:=K) (Nat.le_of_lt (qM (by omega)))
      have c3:=Eo (bQ d) (bQ t) (qM (by omega)) (qM (by omega))
      by_cases h1:eZ (bQ t) 1≤0
      ·have hle:¬1<bQ t:=fun h=>by unfold eZ at h1;rw[if_neg (by omega),if_neg (by omega)] at h1;exact absurd h1 (by decide)
       rw[if_neg (fun h=>hle h.2.1)]
       cases neg with
       |
        false =>
        have q1:=q0 rfl
        have SG:=r0 rfl
        subst SG
        simp only[bU,bI,bJ,kH,e0,q1,eC,eD,eF,a1,a2,a3,eN,eM,c2,h1,Int.reduceLT,Int.reduceEq,aK,bL,aP,bD,dP,fI,dO,fH,kQ,Nat.reduceLeDiff,Nat.reduceLT,Nat.reduceSub,VX,Nat.reduceEqDiff,Nat.reduceAdd]
        exact bN (d:=6) fU (aJ (v:=VB false) rfl)
       |
        true =>
        have q1:=q9 rfl
        have e9:=r9 rfl
        have Ih:=D4 rfl
        simp only[bU,bI,bJ,kH,e0,q1,eC,eD,eF,a1,a2,a3,eN,eM,c2,h1,Int.reduceLT,Int.reduceEq,e9,cZ,Ih,aK,bL,aP,bD,dP,fI,dO,fH,kQ,Nat.reduceLeDiff,Nat.reduceLT,Nat.reduceSub,VX,Nat.reduceEqDiff,Nat.reduceAdd]
        exact bN (d:=6) fU (aJ (v:=VB false) rfl)
      ·have bA:1<bQ t:=by
        rcases Nat.lt_or_ge 1 (bQ t) with h | h
        ·exact h
        ·exfalso
         apply h1
         unfold eZ
         split<;>(try split)<;>first | decide | omega
       have hgl:bl (Nat.gcd (bQ d) (bQ t))≤665:=Nat.le_trans (nA (Nat.le_of_dvd (by omega) (Nat.gcd_dvd_right _ _))) J8
       have c4:∀lo H K,_:=fun lo H K=>JQ (n:=Nat.gcd (bQ d) (bQ t)) (lo:=lo) (H:=H) (K:=K) (Nat.le_of_lt (qM (by omega)))
       by_cases hg:Nat.gcd (bQ d) (bQ t)=1
       ·have h4:eZ (Nat.gcd (bQ d) (bQ t)) 1=0:=by rw[hg];rfl
        rw[if_pos ⟨rfl,bA,hg⟩]
        simp only[]
        rw[Kp (by omega) hg hz]
        cases neg with
        |
         false =>
         have q1:=q0 rfl
         have SG:=r0 rfl
         subst SG
         simp only[bU,bI,bJ,kH,e0,q1,eC,eD,eF,a1,a2,a3,eN,eM,c2,c3,c4,h1,h4,Int.reduceLT,Int.reduceEq,aK,bL,aP,bD,dP,fI,dO,fH,kQ,Nat.reduceLeDiff,Nat.reduceLT,Nat.reduceSub,VX,Nat.reduceEqDiff,Nat.reduceAdd]
         exact bN (d:=6) (qB (aJ (v:=VB false) rfl) (aJ (cA _)) (aJ (cA _))) (aJ (v:=VB true) rfl)
        |
         true =>
         have q1:=q9 rfl
         have e9:=r9 rfl
         have Ih:=D4 rfl
         simp only[bU,bI,bJ,kH,e0,q1,eC,eD,eF,a1,a2,a3,eN,eM,c2,c3,c4,h1,h4,Int.reduceLT,Int.reduceEq,e9,cZ,Ih,aK,bL,aP,bD,dP,fI,dO,fH,kQ,Nat.reduceLeDiff,Nat.reduceLT,Nat.reduceSub,VX,Nat.reduceEqDiff,Nat.reduceAdd]
         exact bN (d:=6) (qB (aJ (v:=VB true) rfl) (aJ (cA _)) (aJ (cA _))) (aJ (v:=VB true) rfl)
       ·have h4:¬eZ (Nat.gcd (bQ d) (bQ t)) 1=0:=by
         unfold eZ
         split<;>(try split)<;>first | decide | omega
        rw[if_neg (fun h=>hg h.2.2)]
        cases neg with
        |
         false =>
         have q1:=q0 rfl
         have SG:=r0 rfl
         subst SG
         simp only[bU,bI,bJ,kH,e0,q1,eC,eD,eF,a1,a2,a3,eN,eM,c2,c3,c4,h1,h4,Int.reduceLT,Int.reduceEq,aK,bL,aP,bD,dP,fI,dO,fH,kQ,Nat.reduceLeDiff,Nat.reduceLT,Nat.reduceSub,VX,Nat.reduceEqDiff,Nat.reduceAdd]
         exact bN (d:=6) fU (aJ (v:=VB false) rfl)
        |
         true =>
         have q1:=q9 rfl
         have e9:=r9 rfl
         have Ih:=D4 rfl
         simp only[bU,bI,bJ,kH,e0,q1,eC,eD,eF,a1,a2,a3,eN,eM,c2,c3,c4,h1,h4,Int.reduceLT,Int.reduceEq,e9,cZ,Ih,aK,bL,aP,bD,dP,fI,dO,fH,kQ,Nat.reduceLeDiff,Nat.reduceLT,Nat.reduceSub,VX,Nat.reduceEqDiff,Nat.reduceAdd]
         exact bN (d:=6) fU (aJ (v:=VB false) rfl)
end Go.PM
namespace Go.PM
open Go.Lib
end Go.PM
namespace Go.PM
open Go.Lib
theorem Qt {l:List UInt8} {q:Rat} (h:xZ l=some q):CS l = .eY [bZ q,VB true]:=by unfold CS;rw[h]
theorem Rz {l:List UInt8} (h:xZ l=none):CS l = .eY [KG,VB false]:=by unfold CS;rw[h]
end Go.PM
namespace Go.PM
open Go.Lib
def Ss (o:Option (List Rat)):VV:=match o with
 | some qs => .eY [aO bZ qs,VB true]
 | none => .eY [aO bZ [],VB false]
theorem T4:Ss none = .eY [aO bZ [],VB false]:=rfl
theorem Ty (qs:List Rat):Ss (some qs) = .eY [aO bZ qs,VB true]:=rfl
theorem DC (q:Rat):(aB (bZ q)).length=3:=rfl
theorem BM (qs:List Rat):aN (aO bZ qs)=true:=jT DC xW
theorem Wt (q:Rat):zZ (bZ q)=true:=by simp[zZ,bZ,bS,gR]
theorem NI (qs:List Rat):gZ (aO bZ qs)=true:=CJ DC Nq Wt
theorem Wy (o:Option (List Rat)):gZ (Ss o)=true:=by
 unfold Ss
 split
 ·exact Gi (NI _) rfl
 ·exact Gi (NI []) rfl
set_option maxHeartbeats 1000000 in
theorem KR (xs:List ByteArray) (hn:xs.length≤1000000000) (hs:∀s∈xs,s.size≤1000000000):TC 57 [fM xs] (Ss (BO xs)):=by
 refine TC.walk ⟨true,false⟩ Lm rfl (Nat.le_of_ble_eq_true rfl) (by simp[aL,gO]) (Wy _) ?_
 unfold BO
 by_cases SY:(300:Int)<(xs.length:Int)
 ·rw[if_neg (by omega)]
  simp only[BL,wU,SY,VX,Nat.reduceEqDiff,Nat.reduceAdd]
  exact EW
 rw[if_pos (by omega)]
 have e0:=fun H=>kA (H:=H) (lr:=false) (z:=[.bool false,.slice none 0 0,.slice none 0 0]) rfl
 simp only[BL,wU,SY,e0,VX,Nat.reduceEqDiff,Nat.reduceAdd]
 refine Ls (fun(s:Nat×List Rat) ρ H=>s.1≤xs.length∧(xs.take s.1).mapM pQ=some s.2∧H=[.row s.1 (s.2.map bZ) 3 true]∧ρ 4 = .ref 0 s.1 0 s.1 s.1∧ρ 0=fM xs∧ρ 13=VI xs.length∧ρ 14=VI s.1) (fun s=>xs.length-s.1) (0,[]) ⟨Nat.zero_le _,rfl,rfl,rfl,rfl,rfl,rfl⟩ ?_
 rintro⟨i,out⟩ ρ H ⟨hi,Li,rfl,g4,g13,g14,g15⟩
 simp only at hi Li g4 g15
 have iO:out.length=i:=by rw[pM Li,List.length_take];omega
 by_cases cP:(i:Int)<(xs.length:Int)
 ·obtain⟨x,hx⟩:∃x,xs[i]? = some x:=⟨_,List.getElem?_eq_getElem (by omega)⟩
  have hxm:=List.mem_of_getElem? hx
  have e1:=fun H=>aI (f:=sV) (t := .op) (H:=H) (size:=1) (k := .i64) hx rfl
  have wi:IntKind.i64.wrap ((i:Int)+1)=((i+1:Nat):Int):=wrapN (i+1) (by omega) (by omega)
  have e2:=JA x.data.toList (by have:=hs x hxm;rw[Array.length_toList];show x.size≤_;omega)
  rw[←acX] at e2
  cases hp:pQ x with
  |
   none =>
   rw[Rz hp] at e2
   rw[mapM_none hp hxm]
   simp only[pZ,g4,g13,g14,g15,cP,e1,e2,IC,KS,Sf,bF,bE,aT,kQ,Nat.reduceLeDiff,Nat.reduceLT,Nat.reduceSub,CV,jB,kS,rM,yZ,Ad,bne_iff_ne,ne_eq,not_false_eq_true,not_true_eq_false,VX,Nat.reduceEqDiff,Nat.reduceAdd]
   exact EW
  |
   some q =>
   rw[Qt hp] at e2
   have eL:∀H,mF false [.bool false,.slice none 0 0,.slice none 0 0] 1 [(0,bZ q)] H=some (.tree [bZ q] (.cl 3),H):=fun H=>iJ rfl rfl rfl
   have eS:∀H,cW 3 (.tree [bZ q] (.cl 3)) H=some [bZ q]:=fun H=>fK rfl rfl
   have eP:eO 0 3 56 (.ref 0 i 0 i i) [bZ q] [.row i (out.map bZ) 3 true,.row 0 [bZ q] 3 true]=some (.ref 0 (i+1) 0 (i+1) (i+1),[.row (i+1) ((out++[q]).map bZ) 3 true,.row 0 [bZ q] 3 true]):=by
    rw[gY (f:=bZ) (xs:=out) (by rw[aS]) iO.symm (Nat.le_refl _) (by decide) (by decide) (by omega),List.set_cons_zero]
   simp only[pZ,g4,g13,g14,g15,cP,e1,e2,eL,eS,eP,wi,dF,kD,jX,aP,bL,bD,kQ,Nat.reduceLeDiff,Nat.reduceLT,Nat.reduceSub,CV,jB,kS,rM,yZ,Ad,bne_iff_ne,ne_eq,not_false_eq_true,not_true_eq_false,VX,Nat.reduceEqDiff,Nat.reduceAdd]
   refine⟨(i+1,out++[q]),by simp only;omega,?_,by simp only;omega,by simp only[jU hx];exact D0 Li hp,rfl,?_⟩
   ·rw[Ax (lL _ (eR xW)),Hs]
   ·simp only[tJ,g13,g14,Ay (gO _),HG (Nat.lt_succ_self 0),VX,Nat.reduceEqDiff,Nat.reduceAdd,List.take_zero,iV,List.all_nil,List.length_nil,tJ,KD,Ay]
 ·have nS:i=xs.length:=by omega
  subst nS
  rw[List.take_length] at Li
  rw[Li]
  simp only[pZ,g4,g13,g14,g15,cP,VX,Nat.reduceEqDiff,Nat.reduceAdd]
  refine bN (d:=6) ?_ (aJ (v:=VB true) rfl)
  have:=Ru (d:=5) (w:=true) (f:=bZ) (e:=3) (b:=0) (g:=xs.length) (c:=xs.length) (xs:=out) (H:=[.row xs.length (out.map bZ) 3 true]) xW (by rw[aS]) (by omega)
  rw[iO] at this
  exact this
set_option maxHeartbeats 1000000 in
theorem XT {lo:Nat} {H:aA} {q:Rat} (h:lo≤H.length):bX lo 3 (.ptr H.length 0 0 0) (bZ q) (H++[cell0])=some (H++[.row 0 [bZ q] 3 true]):=by
 rw[cF (g:=0) (e:=3) (j:=0) iZ (by exact Nat.zero_lt_one) h rfl rfl,GD]
 rfl
theorem Jv {lo:Nat} {H:aA} {v:VV} (qs:List Rat) {B:Nat} (hv:Rd bZ 3 qs H v) (eQ:lo≤H.length) (hb:∀q∈qs,aZ q≤B) (hk:qs.length*(B+1)+1≤1099511627776) (hB:B≤1099511627776) (hn:qs.length≤1000000000) :
  jO 60 [v] lo H (Qw (fun _ _ _ r=>r=bZ (gT qs)) H):=by
 refine jO.walk ⟨true,false⟩ Jl (Nat.le_of_ble_eq_true rfl) ?_
 have e1:=Cx
 have e2:=hv.len (H++[cell0,.row 0 [bZ 0] 3 true]) (List.prefix_append _ _)
 have s0:bX lo 3 (.ptr (H.length+1) 0 0 0) (bZ 0) (H++[cell0,cell0])=some (H++[cell0,.row 0 [bZ 0] 3 true]):=by
  have:=XT (lo:=lo) (H:=H++[cell0]) (q:=0) (by rw[List.length_append];omega)
  simpa only[List.length_append,List.length_cons,List.length_nil,Nat.zero_add,List.append_assoc,List.cons_append,List.nil_append] using this
 simp only[ED,Cc,e1,e2,s0,List.length_append,List.length_cons,List.length_nil,List.append_assoc,List.cons_append,List.nil_append,mH,VX,Nat.reduceEqDiff,Nat.reduceAdd,Nat.reduceLeDiff,Nat.reduceLT,Nat.reduceSub]
 refine aQ (fun(i:Nat) ρ H1=>i≤qs.length∧H <+: H1∧aH H1 H.length 0=some ([rz],3,true)∧aH H1 (H.length+1) 0=some ([bZ (gT (qs.take i))],3,true)∧ρ 2 = .ptr H.length 0 0 0∧ρ 3 = .ptr (H.length+1) 0 0 0∧ρ 0=v∧ρ 7=VI qs.length∧ρ 8=VI i) (fun i=>qs.length-i) 0 ⟨Nat.zero_le _,List.prefix_append _ _,Bh.trans aS,OC.trans (lB.trans aS),rfl,rfl,rfl,rfl,rfl⟩ ?_
 rintro i ρ H1 ⟨hi,hp,sN,Fy,g2,g3,g0,g7,g8⟩
 have Ds:=iR Fy
 have s3:cI true 3 (.ptr (H.length+1) 0 0 0) H1=some (bZ (gT (qs.take i))):=by
  rw[cD,Fy]
  exact jX _
 by_cases cP:(i:Int)<(qs.length:Int)
 ·obtain⟨q,hq⟩:∃q,qs[i]? = some q:=⟨_,List.getElem?_eq_getElem (by omega)⟩
  obtain⟨p,a1,a2⟩:=hv.get H1 hp i q hq
  have a2':=(a2 true).trans (jX _)
  have wi:IntKind.i64.wrap ((i:Int)+1)=((i+1:Nat):Int):=wrapN (i+1) (by omega) (by omega)
  have h1:=yK hb i
  have h2:=hb q (List.mem_of_getElem? hq)
  have h3:(i+1)*(B+1)≤qs.length*(B+1):=Nat.mul_le_mul_right _ (by omega)
  have e3:=Er (gT (qs.take i)) q (by omega) (by omega)
  rw[←Ah hq] at e3
  have s4:=cF (lo:=lo) (v:=bZ (gT (qs.take (i+1)))) (j:=0) Fy (by exact Nat.zero_lt_one) (by omega) rfl rfl
  rw[List.set_cons_zero] at s4
  simp only[sU,g2,g3,g0,g7,g8,cP,a1,a2',e3,s3,s4,wi,mH,VX,Nat.reduceEqDiff,Nat.reduceAdd,Nat.reduceLeDiff,Nat.reduceLT,Nat.reduceSub]
  exact⟨i+1,by omega,by omega,Ak hp (by omega),cG (by omega) sN,cS Fy,by (repeat' apply And.intro)<;>first | rfl | trivial | assumption⟩
 ·have nS:i=qs.length:=by omega
  subst nS
  rw[List.take_length] at s3
  have s4:=cF (lo:=lo) (v:=bZ (gT qs)) (j:=0) sN (by exact Nat.zero_lt_one) eQ rfl rfl
  rw[List.set_cons_zero] at s4
  have s5:cI true 3 (.ptr H.length 0 0 0) (H1.set H.length (.row 0 [bZ (gT qs)] 3 true))=some (bZ (gT qs)):=by
   rw[cD,cS sN]
   exact jX _
  simp only[sU,g2,g3,g7,g8,cP,s3,s4,s5,mH,VX,Nat.reduceEqDiff,Nat.reduceAdd,Nat.reduceLeDiff,Nat.reduceLT,Nat.reduceSub]
  exact⟨Ak hp (Nat.le_refl _),rfl⟩
theorem UX {q:Rat}:q.num<0↔q<0:=by rw[←Int.not_le,Rat.num_nonneg];constructor<;>intro h<;>grind
theorem E5 (qs:List Rat) (hn:qs.length≤1000000000):TC 58 [aO bZ qs] (VB (!(qs.any fun q=>decide (q<0)))):=by
 refine TC.walk ⟨true,false⟩ Fv rfl (Nat.le_of_ble_eq_true rfl) (by simp[aL,BM]) rfl ?_
 simp only[AV,xO,VX,Nat.reduceEqDiff,Nat.reduceAdd]
 refine aQ (fun(i:Nat) ρ H=>i≤qs.length∧H=[]∧(∀j x,j<i→qs[j]? = some x→¬x<0)∧ρ 0=aO bZ qs∧ρ 5=VI qs.length∧ρ 6=VI i) (fun i=>qs.length-i) 0 ⟨Nat.zero_le _,rfl,fun j x h=>by omega,rfl,rfl,rfl⟩ ?_
 rintro i ρ H ⟨hi,rfl,lF,g0,g5,g6⟩
 by_cases cP:(i:Int)<(qs.length:Int)
 ·obtain⟨q,hq⟩:∃q,qs[i]? = some q:=⟨_,List.getElem?_eq_getElem (by omega)⟩
  have e2:=fun H=>aI (f:=bZ) (t := .op) (H:=H) (size:=3) (k := .i64) hq rfl
  have wi:IntKind.i64.wrap ((i:Int)+1)=((i+1:Nat):Int):=wrapN (i+1) (by omega) (by omega)
  by_cases lU:q.num<0
  ·have Jj:qs.any (fun q=>decide (q<0))=true:=List.any_eq_true.2 ⟨q,List.mem_of_getElem? hq,decide_eq_true (UX.1 lU)⟩
   rw[Jj]
   simp only[kO,g0,g5,g6,cP,e2,lU,mO,dF,kD,jX,aP,bL,bD,kQ,Nat.reduceLeDiff,Nat.reduceLT,Nat.reduceSub,CV,jB,kS,rM,yZ,Ad,bne_iff_ne,ne_eq,not_false_eq_true,not_true_eq_false,VX,Nat.reduceEqDiff,Nat.reduceAdd]
   exact aF rfl
  ·simp only[kO,g0,g5,g6,cP,e2,lU,wi,mO,dF,kD,jX,aP,bL,bD,kQ,Nat.reduceLeDiff,Nat.reduceLT,Nat.reduceSub,CV,jB,kS,rM,yZ,Ad,bne_iff_ne,ne_eq,not_false_eq_true,not_true_eq_false,VX,Nat.reduceEqDiff,Nat.reduceAdd]
   refine⟨i+1,by omega,by omega,fun j y hj hy => ?_,rfl⟩
   rcases Nat.lt_or_ge j i with Ec | Ec
   ·exact lF j y Ec hy
   ·have:j=i:=by omega
    subst this
    rw[hq] at hy
    cases hy
    exact mt UX.2 lU
 ·have nS:i=qs.length:=by omega
  subst nS
  have Jj:qs.any (fun q=>decide (q<0))=false:=by
   rw[List.any_eq_false]
   intro x hx
   obtain⟨j,hj⟩:=List.getElem?_of_mem hx
   simpa using lF j x (List.getElem?_eq_some_iff.1 hj).1 hj
  rw[Jj]
  simp only[kO,g0,g5,g6,cP,VX,Nat.reduceEqDiff,Nat.reduceAdd]
  exact aF rfl
theorem TQ {a b:Rat}:a=b↔(decide (a.num<0)=decide (b.num<0)∧a.num.natAbs*b.den=b.num.natAbs*a.den):=by
 constructor
 ·rintro rfl
  exact⟨rfl,rfl⟩
 ·rintro⟨h1,h2⟩
  have h3:a.num<0↔b.num<0:=by simpa using h1
  have ha:=a.den_nz
  have hb:=b.den_nz
  have key:a.num*b.den=b.num*a.den→a=b:=fun h=>by
   have:=(Rat.mkRat_eq_iff (n₁:=a.num) (n₂:=b.num) ha hb).2 h
   rwa [Rat.mkRat_self,Rat.mkRat_self] at this
  refine key ?_
  have e1:(a.num.natAbs:Int)*b.den=b.num.natAbs*a.den:=by exact_mod_cast h2
  by_cases hn:a.num<0
  ·have hn2:=h3.1 hn
   have q1:a.num = -(a.num.natAbs:Int):=by omega
   have q2:b.num = -(b.num.natAbs:Int):=by omega
   rw[q1,q2,Int.neg_mul,Int.neg_mul,e1]
  ·have hn2:=mt h3.2 hn
   have q1:a.num=(a.num.natAbs:Int):=by omega
   have q2:b.num=(b.num.natAbs:Int):=by omega
   rw[q1,q2,e1]
set_option maxHeartbeats 1000000 in
theorem JD (a b:Rat) (Ze:aZ a≤1099511627776) (T3:aZ b≤1099511627776):TC 160 [bZ a,bZ b] (VB (decide (a=b))):=by
 refine TC.walk ⟨true,false⟩ Jz rfl (Nat.le_of_ble_eq_true rfl) (by simp only[aL,xW];rfl) rfl ?_
 have b1 := @qU a
 have b2 := @qU b
 have b3 := @oZ a
 have b4 := @oZ b
 have b5:=pG a.num.natAbs b.den
 have b6:=pG b.num.natAbs a.den
 have c1:=kR a.num.natAbs b.den (Nat.le_of_lt (qM (by omega))) (Nat.le_of_lt (qM (by omega)))
 have c2:=kR b.num.natAbs a.den (Nat.le_of_lt (qM (by omega))) (Nat.le_of_lt (qM (by omega)))
 have c3:=uA (a.num.natAbs*b.den) (b.num.natAbs*a.den) (Nat.le_of_lt (qM (by omega))) (Nat.le_of_lt (qM (by omega)))
 by_cases q1:decide (a.num<0)=decide (b.num<0)
 ·have q2:(decide (a.num<0) == decide (b.num<0))=true:=by simpa using q1
  have hz := @wE (a.num.natAbs*b.den) (b.num.natAbs*a.den)
  by_cases q3:eZ (a.num.natAbs*b.den) (b.num.natAbs*a.den)=0
  ·rw[decide_eq_true (TQ.2 ⟨q1,hz.1 q3⟩)]
   simp only[tU,qF,c1,c2,c3,q2,q3,uW,dF,mO,pR,pU,aP,kQ,Nat.reduceLeDiff,Nat.reduceLT,Nat.reduceSub,CV,jB,kS,rM,yZ,Ad,bne_iff_ne,ne_eq,not_false_eq_true,not_true_eq_false,VX,Nat.reduceEqDiff,Nat.reduceAdd]
   exact aF rfl
  ·rw[decide_eq_false (fun h=>q3 (hz.2 (TQ.1 h).2))]
   simp only[tU,qF,c1,c2,c3,q2,q3,uW,dF,mO,pR,pU,aP,kQ,Nat.reduceLeDiff,Nat.reduceLT,Nat.reduceSub,CV,jB,kS,rM,yZ,Ad,bne_iff_ne,ne_eq,not_false_eq_true,not_true_eq_false,VX,Nat.reduceEqDiff,Nat.reduceAdd]
   exact aF rfl
 ·have q2:(decide (a.num<0) == decide (b.num<0))=false:=by simpa using q1
  rw[decide_eq_false (fun h=>q1 (TQ.1 h).1)]
  simp only[tU,qF,q2,uW,dF,mO,pR,pU,aP,kQ,Nat.reduceLeDiff,Nat.reduceLT,Nat.reduceSub,CV,jB,kS,rM,yZ,Ad,bne_iff_ne,ne_eq,not_false_eq_true,not_true_eq_false,VX,Nat.reduceEqDiff,Nat.reduceAdd]
  exact aF rfl
theorem Gt (qs:List Rat) (hb:∀q∈qs,aZ q≤665) (hl:qs.length≤300):TC 96 [aO bZ qs] (VB (jP qs)):=by
 refine TC.walk ⟨true,false⟩ Gn rfl (Nat.le_of_ble_eq_true rfl) (by simp[aL,BM]) rfl ?_
 have e1:=E5 qs (by omega)
 have e2:=fun(K:aA)=>Jv (lo:=0) (H:=K) (v:=aO bZ qs) qs (Rd.tree DC) (Nat.zero_le _) hb (KW hl) (by omega) (by omega)
 have hsb:=yK hb qs.length
 rw[List.take_length] at hsb
 have e3:=MP
 have hsr:=KW hl
 have e4:=JD (gT qs) 1 (by omega) (by rw[HM];omega)
 unfold jP
 cases Jj:qs.any (fun q=>decide (q<0)) with
 |
  true =>
  rw[Jj] at e1
  simp only[Bool.not_true,Bool.false_and] at e1 ⊢
  simp only[uS,rI,e1,VX,Nat.reduceEqDiff,Nat.reduceAdd]
  exact aF rfl
 |
  false =>
  rw[Jj] at e1
  simp only[Bool.not_false,Bool.true_and] at e1 ⊢
  simp only[uS,rI,e1,VX,Nat.reduceEqDiff,Nat.reduceAdd]
  refine yC rfl (e2 _) fun r L hr => ?_
  subst hr
  simp only[e3,e4,VX,Nat.reduceEqDiff,Nat.reduceAdd]
  exact aF rfl
end Go.PM
namespace Go.PM
open Go.Lib
end Go.PM
namespace Go.PM
def uQ:aD:=(LS [LO 15 (.bin .lss (LT 14) (LT 13))] (.seq (.cond (LT 15) .skip (.exit 0)) (.seq (.block 1 (LS [LM 16 14,LM 5 16] (LS [LM 18 0,LO 19 (.chk (LT 18)),LO 20 (LA 0 19),LO 21 (LL 20),LM 22 5,LO 23 (.iaddr 1 (LT 21) (LT 22)),LO 24 (LL 23),LO 25 (.call 181 [(LT 24)]),LM 17 25,LO 26 (LX 17 0),LO 27 (LX 17 1),LM 6 26,LM 7 27] (.seq (LS [LM 28 7,LO 29 (.un .not (LT 28))] (.cond (LT 29) (LS [LO 30 (.build [(.slice none 0 0)] [(0,1)] []),LN (.store 1 (LT 2) (LT 30)),LO 3 (.mv LF)] .ret) .skip)) (.dH [LO 31 (LA 0 4),LO 32 (LL 31),LM 33 6,LO 34 (.lit [(.slice none 0 0)] 1 [(0,(LT 33))]),LO 35 (.app 1 24 (LT 32) (LT 34)),LO 36 (LA 0 4),LN (.store 1 (LT 36) (LT 35))]))))) (.dH [LO 37 (.bin .add (LT 14) (LI 1)),LM 14 37]))))
def Cq:aD:=(LS [LO 2 (.new [(.slice none 0 0)]),LO 3 (.mv LF)] (LS [LO 8 (.build [(.slice none 0 0)] [(0,1)] []),LO 4 (.new [(.slice none 0 0)]),LN (.store 1 (LT 4) (LT 8))] (.seq (LS [LM 9 0,LO 10 (.chk (LT 9)),LO 11 (LA 0 10),LO 12 (LL 11),LO 13 (.len (LT 12)),LO 14 (.mv (LI 0))] (.block 0 (.loop uQ))) (LS [LO 38 (.load true 1 (LT 4)),LN (.store 1 (LT 2) (LT 38)),LO 3 (.mv LG)] .ret))))
def Gg:aR:=⟨39,[(.cell 2 true 1),(.tmp 3)],Cq⟩
theorem KE:gD 138=some Gg:=by kernel_rfl
end Go.PM
namespace Go.PM
open Go.Lib
theorem TR (x:List Rat):(aB (aO bZ x)).length=1:=rfl
theorem Xp (m:List (List Rat)):aN (aO (aO bZ) m)=true:=jT TR BM
end Go.PM
namespace Go.PM
def tB:aD:=(.seq (LS [LM 14 6,LM 15 0,LO 16 (.bin .lss (LT 14) (LT 15))] (.cond (LT 16) .skip (.exit 2))) (.seq (.block 3 (.dH [LM 19 5,LO 20 (.call 77 []),LO 21 (.lit [(.bool false),(.slice none 0 0),(.slice none 0 0)] 1 [(0,(LT 20))]),LO 22 (.app 3 56 (LT 19) (LT 21)),LM 5 22])) (.dH [LM 17 6,LO 18 (.bin .add (LT 17) (LI 1)),LM 6 18])))
def tQ:aD:=(.seq (LS [LM 8 4,LM 9 0,LO 10 (.bin .lss (LT 8) (LT 9))] (.cond (LT 10) .skip (.exit 0))) (.seq (.block 1 (LS [LO 13 (.lit [(.bool false),(.slice none 0 0),(.slice none 0 0)] 0 []),LM 5 13] (.seq (LS [LO 6 (.mv (LI 0))] (.block 2 (.loop tB))) (.dH [LM 23 3,LM 24 5,LO 25 (.lit [(.slice none 0 0)] 1 [(0,(LT 24))]),LO 26 (.app 1 24 (LT 23) (LT 25)),LM 3 26])))) (.dH [LM 11 4,LO 12 (.bin .add (LT 11) (LI 1)),LM 4 12])))
def B1:aD:=(LS [LO 2 (.mv (.const (.slice none 0 0)))] (LS [LO 7 (.lit [(.slice none 0 0)] 0 []),LM 3 7] (.seq (LS [LO 4 (.mv (LI 0))] (.block 0 (.loop tQ))) (LS [LM 27 3,LM 2 27] .ret))))
def EI:aR:=⟨28,[(.tmp 2)],B1⟩
theorem Ji:gD 76=some EI:=by kernel_rfl
def B4:aD:=(LS [LO 2 (.new [(.slice none 0 0)]),LO 3 (.mv LF)] (LS [LM 7 0,LO 8 (.build [(.slice none 0 0)] [(0,1)] [(0,(LT 7))]),LO 4 (.new [(.slice none 0 0)]),LN (.store 1 (LT 4) (LT 8))] (LS [LO 10 (.call 138 [(LT 4)]),LM 9 10,LO 11 (LX 9 0),LO 12 (LX 9 1),LO 5 (.new [(.slice none 0 0)]),LN (.store 1 (LT 5) (LT 11)),LM 6 12] (.seq (LS [LM 13 6,LO 14 (.un .not (LT 13))] (.cond (LT 14) (LS [LO 15 (.build [(.slice none 0 0)] [(0,1)] []),LN (.store 1 (LT 2) (LT 15)),LO 3 (.mv LF)] .ret) .skip)) (LS [LO 16 (.load true 1 (LT 5)),LN (.store 1 (LT 2) (LT 16)),LO 3 (.mv LG)] .ret)))))
def En:aR:=⟨17,[(.cell 2 true 1),(.tmp 3)],B4⟩
theorem Jt:gD 61=some En:=by kernel_rfl
end Go.PM
namespace Go.PM
def tO:aD:=(.seq (LS [LM 37 10,LM 38 6,LO 39 (.len (LT 38)),LO 40 (.bin .lss (LT 37) (LT 39))] (.cond (LT 40) .skip (.exit 2))) (.seq (.block 3 (LS [LM 43 1,LO 44 (.bin .sub (LT 43) (LI 1)),LM 45 9,LO 46 (.bin .sub (LT 45) (LI 1)),LO 47 (.call 97 [(LI 0),(LT 46)]),LM 48 10,LO 49 (.bin .add (LT 47) (LT 48)),LO 50 (.call 91 [(LT 44),(LT 49)]),LM 11 50] (.dH [LM 51 8,LM 52 9,LO 53 (.iaddr 1 (LT 51) (LT 52)),LO 54 (LL 53),LM 55 11,LM 56 8,LM 57 9,LO 58 (.iaddr 1 (LT 56) (LT 57)),LO 59 (LL 58),LM 60 11,LO 61 (.iaddr 3 (LT 59) (LT 60)),LO 62 (LK 61),LM 63 6,LM 64 10,LO 65 (.iaddr 3 (LT 63) (LT 64)),LO 66 (LK 65),LQ 67 (.call 79 [(LT 62),(LT 66)]),LO 68 (.iaddr 3 (LT 54) (LT 55)),LN (.store 3 (LT 68) (LT 67))]))) (.dH [LM 41 10,LO 42 (.bin .add (LT 41) (LI 1)),LM 10 42])))
def tH:aD:=(.seq (LS [LM 32 9,LM 33 1,LO 34 (.bin .lss (LT 32) (LT 33))] (.cond (LT 34) .skip (.exit 0))) (.seq (.block 1 (LS [LO 10 (.mv (LI 0))] (.block 2 (.loop tO)))) (.dH [LM 35 9,LO 36 (.bin .add (LT 35) (LI 1)),LM 9 36])))
def mN:aD:=(LS [LO 4 (.new [(.slice none 0 0)]),LO 5 (.mv LF)] (LS [LM 13 0,LO 14 (.call 57 [(LT 13)]),LM 12 14,LO 15 (LX 12 0),LO 16 (LX 12 1),LM 6 15,LM 7 16] (.seq (LS [LM 17 7,LO 18 (.un .not (LT 17)),LM 19 18,LZ 19 20 (.mv (LT 6)),LZ 19 21 (.call 96 [(LT 20)]),LZ 19 22 (.un .not (LT 21)),LO 23 (.pick (LT 19) LG (LT 22)),LM 24 23,LZ 24 25 (.mv (LT 1)),LZ 24 26 (.call 88 [(LT 25),(LI 1),(LI 12)]),LZ 24 27 (.un .not (LT 26)),LO 28 (.pick (LT 24) LG (LT 27))] (.cond (LT 28) (LS [LO 29 (.build [(.slice none 0 0)] [(0,1)] []),LN (.store 1 (LT 4) (LT 29)),LO 5 (.mv LF)] .ret) .skip)) (LS [LM 30 1,LO 31 (.call 76 [(LT 30)]),LM 8 31] (.seq (LS [LO 9 (.mv (LI 0))] (.block 0 (.loop tH))) (LS [LM 69 8,LO 70 (.call 61 [(LT 69)]),LO 71 (LX 70 0),LO 72 (LX 70 1),LN (.store 1 (LT 4) (LT 71)),LM 5 72] .ret))))))
def pW:aR:=⟨73,[(.cell 4 true 1),(.tmp 5)],mN⟩
theorem JF:gD 33=some pW:=by kernel_rfl
end Go.PM
namespace Go.PM
open Go.Lib
theorem ajC {b g j o e:Nat} {H:aA} {es:List VV} {w:Bool} {x x':VV} (h:aH H b g=some (es,e,w)) (hx:es[j]? = some x) (hf:PM.fz 7 H x=some x'):PM.fz depth H (.ptr b g j o)=some (x'.cV o):=by
 show PM.fz (7+1) H _=_
 unfold PM.fz
 have:aN (.ptr b g j o)=false:=rfl
 simp[this,h,hx,hf]
end Go.PM