/- Texts of a claim, in one: part 10. -/
import Derived.ChangeMaps5
import Derived.KernelRfl
import Derived.Test.YtodamlihdkalfaaGreatDoorKVi
set_option linter.unusedSimpArgs false
set_option linter.unusedVariables false
namespace Go.PM
structure Lin where
 u:List ByteArray
 d:List ByteArray
 deriving Inhabited
end Go.PM
namespace Go.Proofs.YtodamlihdkalfaaGreatDoor
open Go.ChangeShapes Go.WideShapes Go.ChangeAt Go.RowKit Go.PM
set_option maxRecDepth 100000 in
theorem TL {T:Type} {anO:TypeId×Value→T} {W:World} {v:Value} {d:DataW T} {ps:List MemPlace} {base:Nat} (hv:Value.okWide Tryz.prog W .any base 9 v) (h:DataW.Trod anO Tryz.prog W 0 (fun _=>true) true 9 v d ps) :
 ∃s:ByteArray,v = .string s∧d = .lit (.string s.data.toList)∧ps=[]∧s.size≤maxLen:=Go.ChangeMaps.open_string Tryz.underlying9 hv h
end Go.Proofs.YtodamlihdkalfaaGreatDoor
namespace Go.PM
section
variable {α:Type} {f:α→VV} {e:Nat}
structure Rd (f:α→VV) (e:Nat) (xs:List α) (H:aA) (v:VV):Prop where
 len:∀H',H <+: H'→nP v H'=some (VI xs.length)
 get:∀H',H <+: H'→∀(i:Nat) x,xs[i]? = some x→∃p,bI e v (VI i) H'=some p∧∀ag,cO ag e p H'=dN ag e (f x) 0
 cell:aB v=[v]∧bA v=true∧isAny v=false
theorem Rd.pre {xs:List α} {H H':aA} {v:VV} (h:Rd f e xs H v) (hh:H <+: H'):Rd f e xs H' v:=⟨fun H2 h2=>h.len H2 (hh.trans h2),fun H2 h2=>h.get H2 (hh.trans h2),h.cell⟩
theorem Rd.tree {xs:List α} {H:aA} {t:TK} (hs:∀x,(aB (f x)).length=e):Rd f e xs H (.tree (xs.map f) t) :=
 ⟨fun _ _=>fI,fun _ _ i x hx=>⟨_,aK hx (hs x),fun ag=>MC⟩,rfl,rfl,rfl⟩
theorem Rd.row {xs:List α} {H:aA} {b g n c:Nat} {w:Bool} (h:aF H b g=some (xs.map f,e,w)) (hn:n=xs.length):Rd f e xs H (.ref b g 0 n c):=by
 subst hn
 refine⟨fun H' hh=>eZ (bT hh h),fun H' hh i x hx => ?_,rfl,rfl,rfl⟩
 have hi:=(List.getElem?_eq_some_iff.1 hx).1
 have e1:=aQ (o:=0) (n:=xs.length) (c:=c) (i:=i) (k := .i64) (bT hh h) hi
 rw[Nat.zero_add] at e1
 exact⟨_,e1,fun ag=>oX (f:=f) (bT hh h) hx⟩
structure MG (f:α→VV) (e lo hi b g:Nat) (H:aA) (rs:List (wA α)):Prop where
 out:aF H b g=some (rs.map nE,1,true)
 blo:lo≤b
 bhi:b<hi
 rows:KT f e lo hi b H rs
variable {lo hi b g:Nat} {H H':aA} {rs:List (wA α)}
theorem MG.bM (h:MG f e lo hi b g H rs) (hk:cP lo hi H H'):MG f e lo hi b g H' rs :=
 ⟨hk _ _ _ h.blo h.bhi h.out,h.blo,h.bhi,h.rows.nd,fun r hr=>by
  obtain⟨k1,k2,k3,k4,k5⟩:=h.rows.row r hr
  exact⟨k1,k2,k3,k4,hk _ _ _ k1 k2 k5⟩⟩
theorem MG.pre (h:MG f e lo hi b g H rs) (hh:H <+: H'):MG f e lo hi b g H' rs:=h.bM (cP.pre hh)
theorem MG.len {n c:Nat} (h:MG f e lo hi b g H rs):nP (.ref b g 0 n c) H=some (VI n):=eZ h.out
theorem MG.addr {i n c:Nat} (h:MG f e lo hi b g H rs) (hi:i<n):bI 1 (.ref b g 0 n c) (VI i) H=some (.ptr b g i 0):=by
 have:=aQ (o:=0) (n:=n) (c:=c) (i:=i) (k := .i64) h.out hi
 rwa [Nat.zero_add] at this
theorem MG.cell {i:Nat} {r:wA α} (h:MG f e lo hi b g H rs) (hr:rs[i]? = some r):cO false 1 (.ptr b g i 0) H=some (.ref r.b r.g 0 r.xs.length r.c):=by
 rw[oX (f:=nE) h.out hr]
 rfl
theorem MG.row {i:Nat} {r:wA α} (h:MG f e lo hi b g H rs) (hr:rs[i]? = some r):aF H r.b r.g=some (r.xs.map f,e,true):=(h.rows.row r (List.mem_of_getElem? hr)).2.2.2.2
theorem MG.at {i j n c:Nat} {r:wA α} (h:MG f e lo hi b g H rs) (hr:rs[i]? = some r) (hj:j<n):bI e (.ref r.b r.g 0 n c) (VI j) H=some (.ptr r.b r.g j 0):=by
 have:=aQ (o:=0) (n:=n) (c:=c) (i:=j) (k := .i64) (h.row hr) hj
 rwa [Nat.zero_add] at this
theorem MG.get {i j:Nat} {ag:Bool} {r:wA α} {x:α} (h:MG f e lo hi b g H rs) (hr:rs[i]? = some r) (hx:r.xs[j]? = some x):cO ag e (.ptr r.b r.g j 0) H=dN ag e (f x) 0:=oX (f:=f) (h.row hr) hx
theorem MG.inj {i j:Nat} {r s:wA α} (h:MG f e lo hi b g H rs) (hr:rs[i]? = some r) (hs:rs[j]? = some s) (he:r.b=s.b):i=j:=by
 have h1:(rs.map (·.b))[i]? = some r.b:=by simp[hr]
 have h2:(rs.map (·.b))[j]? = some r.b:=by simp[hs,he]
 exact PA h.rows.nd h1 h2
theorem Jy {β γ:Type} {F:β→γ} {l:List β} {i:Nat} {x y:β} (hx:l[i]? = some x) (he:F y=F x):(l.set i y).map F=l.map F:=by
 apply List.ext_getElem?
 intro j
 rw[List.getElem?_map,List.getElem?_map,List.getElem?_set]
 split
 ·rename_i QS
  subst QS
  split
  ·rw[hx,Option.map_some,Option.map_some,he]
  ·rename_i hn
   rw[(List.getElem?_eq_none (by omega))] at hx
   cases hx
 ·rfl
theorem MG.set {i:Nat} {r:wA α} {ys:List α} (h:MG f e lo hi b g H rs) (hr:rs[i]? = some r) (hl:ys.length=r.xs.length):MG f e lo hi b g (H.set r.b (.row r.g (ys.map f) e true)) (rs.set i { r with xs:=ys }):=by
 have R3:=h.rows.row r (List.mem_of_getElem? hr)
 refine⟨?_,h.blo,h.bhi,?_,fun s hs => ?_⟩
 ·rw[Jy hr (by simp[nE,hl])]
  exact aM R3.2.2.1 h.out
 ·rw[Jy (F:=fun r:wA α=>r.b) (y:={ r with xs:=ys }) hr rfl]
  exact h.rows.nd
 ·obtain⟨j,hj⟩:=List.getElem?_of_mem hs
  rw[List.getElem?_set] at hj
  split at hj
  ·rename_i QS
   split at hj
   ·cases hj
    exact⟨R3.1,R3.2.1,R3.2.2.1,by rw[hl];exact R3.2.2.2.1,dA R3.2.2.2.2⟩
   ·cases hj
  ·rename_i QS
   have Pp:=h.rows.row s (List.mem_of_getElem? hj)
   exact⟨Pp.1,Pp.2.1,Pp.2.2.1,Pp.2.2.2.1,aM (fun he=>QS (h.inj hr hj he)) Pp.2.2.2.2⟩
theorem MG.put {i j iZ:Nat} {r:wA α} {y:α} (h:MG f e lo hi b g H rs) (hr:rs[i]? = some r) (hj:j<r.xs.length) (eJ:iZ≤lo) (hv:(aB (f y)).length=e) (hs:(aB (f y)).all bA=true) :
  bY iZ e (.ptr r.b r.g j 0) (f y) H=some (H.set r.b (.row r.g ((r.xs.set j y).map f) e true)) :=
 dO (f:=f) (h.row hr) hj (Nat.le_trans eJ (h.rows.row r (List.mem_of_getElem? hr)).1) hv hs
theorem MG.lt {i:Nat} {r:wA α} (h:MG f e lo hi b g H rs) (hr:rs[i]? = some r):lo≤r.b∧r.b<hi∧r.b<H.length:=⟨(h.rows.row r (List.mem_of_getElem? hr)).1,(h.rows.row r (List.mem_of_getElem? hr)).2.1,jJ (h.row hr)⟩
theorem MG.aY {c:Nat} (h:MG f e lo hi b g H rs) (hc:rs.length≤c):RG f e (rs.map (·.xs)) lo hi H (.ref b g 0 rs.length c) := .inr ⟨b,g,c,rs,h.blo,h.bhi,by rw[List.length_map],by rw[List.length_map];exact hc,h.out,rfl,h.rows⟩
theorem MG.fz {d c:Nat} (h:MG f e lo hi b g H rs) (hc:rs.length≤c) (hp:∀x,aN (f x)=true):PM.fz (d+3) H (.ref b g 0 rs.length c)=some (bK (bK f) (rs.map (·.xs))):=RI hp h.out hc h.rows
theorem MG.wide {iZ nF:Nat} (h:MG f e lo hi b g H rs) (hl:iZ≤lo) (hh:hi≤nF):MG f e iZ nF b g H rs:=⟨h.out,by have:=h.blo;omega,by have:=h.bhi;omega,h.rows.nd,fun r hr=>by
 obtain⟨k1,k2,k3,k4,k5⟩:=h.rows.row r hr
 exact⟨by omega,by omega,k3,k4,k5⟩⟩
end
theorem gY:type_of% (And.intro @rI<|And.intro @uO<|And.intro @lT.eq_1<|And.intro @oF.eq_1<|And.intro @oF.eq_2<|And.intro @C0.eq_1<|And.intro @C0.eq_2<|And.intro @tZ.eq_1<|And.intro @tZ.eq_2<|And.intro @EO<|And.intro @Ad<|And.intro @Cn<|And.intro @Cf<|And.intro @List.take_zero.{0}<|And.intro @List.take_succ_cons.{0}<|And.intro @List.take_nil.{0}<|And.intro @List.drop_zero.{0}<|And.intro @List.drop_succ_cons.{0}<|And.intro @List.drop_nil.{0}<|And.intro @List.append_nil.{0} <| @Nat.le_refl):=And.intro @rI<|And.intro @uO<|And.intro @lT.eq_1<|And.intro @oF.eq_1<|And.intro @oF.eq_2<|And.intro @C0.eq_1<|And.intro @C0.eq_2<|And.intro @tZ.eq_1<|And.intro @tZ.eq_2<|And.intro @EO<|And.intro @Ad<|And.intro @Cn<|And.intro @Cf<|And.intro @List.take_zero.{0}<|And.intro @List.take_succ_cons.{0}<|And.intro @List.take_nil.{0}<|And.intro @List.drop_zero.{0}<|And.intro @List.drop_succ_cons.{0}<|And.intro @List.drop_nil.{0}<|And.intro @List.append_nil.{0} <| @Nat.le_refl
def RS (P:Nat→Nat→aA→VV→Prop) (H:aA) (r:VV) (H':aA):Prop:=H <+: H'∧P H.length H'.length H' r
theorem zN {F lo:Nat} {args:List VV} {P:Nat→Nat→aA→VV→Prop} {H:aA} {K:VV→aA→Prop} (vB:BJ.contains F=true) (h:iV F args lo H (RS P H)) (hk:∀r L,P H.length (H++L).length (H++L) r→K r (H++L)):cZ F args lo H K:=by
 refine eB vB (h.mono ?_)
 rintro r H' ⟨⟨L,rfl⟩,hP⟩
 exact hk r L hP
end Go.PM
namespace Go.PM
open Go.Lib
abbrev cell0:bU := .row 0 [.agg [VB false,.tree [] .nil,.tree [] .nil]] 3 true
set_option maxHeartbeats 1000000 in
abbrev rz:VV := .agg [VB false,.tree [] .nil,.tree [] .nil]
theorem IM {H H1:aA} {b:Nat} {x:bU} (h:H <+: H1) (hb:H.length≤b):H <+: H1.set b x:=by
 obtain⟨L,rfl⟩:=h
 rw[List.set_append_right _ _ hb]
 exact List.prefix_append _ _
theorem WL {H H1 L:aA} (h:H <+: H1):H <+: H1++L:=h.trans (List.prefix_append _ _)
theorem VC {lo:Nat} {H:aA} {q:Rat} (h:lo≤H.length):bY lo 3 (.ptr H.length 0 0 0) (bD q) (H++[cell0])=some (H++[.row 0 [bD q] 3 true]):=by
 rw[dC (g:=0) (e:=3) (j:=0) dY (by exact Nat.zero_lt_one) h rfl rfl,xZ]
 rfl
theorem YO {H K:aA} {q:Rat}:cO true 3 (.ptr H.length 0 0 0) (H ++ .row 0 [bD q] 3 true::K)=some (bD q):=by
 rw[cH,B7,aT]
 exact vX _
theorem Ky {q:Rat}:0<CF q↔0<q:=by
 have e:0<q.num↔0<q:=by
  constructor
  ·intro h
   have h1:0≤q:=Rat.num_nonneg.1 (by omega)
   have h2:q≠0:=fun h'=>by rw[h'] at h;exact absurd h (by decide)
   grind
  ·intro h
   have h1:0≤q.num:=Rat.num_nonneg.2 (by grind)
   have h2:q.num≠0:=fun h'=>by rw[Rat.num_eq_zero] at h';rw[h'] at h;exact absurd h (by decide)
   omega
 rw[←e]
 rcases Int.lt_trichotomy q.num 0 with h | h | h
 ·rw[Y1 h];omega
 ·rw[ZY h];omega
 ·rw[Zj h];omega
theorem QT:PD none = .dQ [bK bD [],VB false]:=rfl
theorem Q6 (qs:List Rat):PD (some qs) = .dQ [bK bD qs,VB true]:=rfl
end Go.PM
namespace Go.PM
open Go.Lib
end Go.PM
namespace Go.PM
def xH:aE:=(LS [LO 10 (.bin .lss (LT 9) (LT 8))] (.seq (.cond (LT 10) .skip (.exit 0)) (.seq (.block 1 (LS [LM 11 9,LM 4 11] (.eO [LM 12 3,LM 13 4,LO 14 (.call 97 [(LI 0)]),LO 15 (.lit [(.bool false),(.slice none 0 0),(.slice none 0 0)] 1 [(0,(LT 14))]),LM 16 0,LO 17 (.call 202 [(LT 15),(LT 16)]),LO 18 (.iaddr 1 (LT 12) (LT 13)),LN (.store 1 (LT 18) (LT 17))]))) (.eO [LO 19 (.bin .add (LT 9) (LI 1)),LM 9 19]))))
def EZ:aE:=(LS [LO 2 (.mv (.const (.slice none 0 0)))] (LS [LM 5 0,LO 6 (.make [(.slice none 0 0)] 24 (LT 5) (LT 5)),LM 3 6] (.seq (LS [LM 7 3,LO 8 (.len (LT 7)),LO 9 (.mv (LI 0))] (.block 0 (.loop xH))) (LS [LM 20 3,LM 2 20] .ret))))
def H9:aS:=⟨21,[(.tmp 2)],EZ⟩
theorem L4:iB 128=some H9:=by kernel_rfl
def pD:aE:=(LS [LO 13 (.bin .lss (LT 12) (LT 11))] (.seq (.cond (LT 13) .skip (.exit 0)) (.seq (.block 1 (LS [LO 14 (.iaddr 1 (LT 10) (LT 12)),LO 15 (LL 14),LM 6 15] (LS [LM 17 6,LO 18 (.call 111 [(LT 17)]),LM 16 18,LO 19 (LX 16 0),LO 20 (LX 16 1),LM 7 19,LM 8 20] (.seq (LS [LM 21 8,LO 22 (.un .not (LT 21))] (.cond (LT 22) (LS [LO 23 (.build [(.slice none 0 0)] [(0,1)] []),LN (.store 1 (LT 2) (LT 23)),LO 3 (.mv LF)] .ret) .skip)) (.eO [LO 24 (LA 0 4),LO 25 (LL 24),LM 26 7,LO 27 (.lit [(.slice none 0 0)] 1 [(0,(LT 26))]),LO 28 (.app 1 24 (LT 25) (LT 27)),LO 29 (LA 0 4),LN (.store 1 (LT 29) (LT 28))]))))) (.eO [LO 30 (.bin .add (LT 12) (LI 1)),LM 12 30]))))
def yD:aE:=(LS [LO 2 (.new [(.slice none 0 0)]),LO 3 (.mv LF)] (LS [LO 9 (.build [(.slice none 0 0)] [(0,1)] []),LO 4 (.new [(.slice none 0 0)]),LN (.store 1 (LT 4) (LT 9))] (.seq (LS [LM 10 0,LO 11 (.len (LT 10)),LO 12 (.mv (LI 0))] (.block 0 (.loop pD))) (LS [LO 31 (.load true 1 (LT 4)),LN (.store 1 (LT 2) (LT 31)),LO 3 (.mv LG)] .ret))))
def Bj:aS:=⟨32,[(.cell 2 true 1),(.tmp 3)],yD⟩
theorem Fa:iB 149=some Bj:=by kernel_rfl
end Go.PM
namespace Go.PM
open Go.Lib
theorem T0 (x:List Rat):(aB (bK bD x)).length=1:=rfl
theorem Ya (m:List (List Rat)):aN (bK (bK bD) m)=true:=lG T0 uP
end Go.PM
namespace Go.PM
theorem L5 (n:Nat) (h:n<18446744073709551616):dB .and (.int .u64 (n:Int)) (.int .u64 4294967295)=some (.int .u64 ((n % 4294967296:Nat):Int)):=by
 simp only[dB,if_true]
 have h1:(BitVec.ofInt IntKind.u64.bits (n:Int) &&& BitVec.ofInt IntKind.u64.bits 4294967295).toNat=n % 4294967296:=by
  rw[BitVec.toNat_and]
  have e1:(BitVec.ofInt IntKind.u64.bits (n:Int)).toNat=n:=by
   rw[BitVec.toNat_ofInt]
   simp only[IntKind.bits]
   omega
  have e2:(BitVec.ofInt IntKind.u64.bits 4294967295).toNat=2^32-1:=by
   rw[BitVec.toNat_ofInt]
   simp only[IntKind.bits]
   omega
  rw[e1,e2,Nat.and_two_pow_sub_one_eq_mod]
 rw[h1,dP _ (by omega)]
end Go.PM
namespace Go.PM
def JQ (cs:List iK) (i:Nat):Int:=((cs[i]?).map (·.t)).getD 0
def Vd (cs:List iK) (i:Nat):Int:=((cs[i]?).map (·.w)).getD 0
def klC (cs:List iK) (i:Nat):Int:=((cs[i]?).map (·.k)).getD 0
def Fe (st:List Int) (i:Nat):Int:=(st[i]?).getD 0
theorem Rh {cs:List iK} {i:Nat} {x:iK} (h:cs[i]? = some x):JQ cs i=x.t:=by simp[JQ,h]
theorem acL {cs:List iK} {i:Nat} {x:iK} (h:cs[i]? = some x):Vd cs i=x.w:=by simp[Vd,h]
theorem Xh {st:List Int} {i:Nat} {x:Int} (h:st[i]? = some x):Fe st i=x:=by simp[Fe,h]
def Y7 (cs:List iK) (st:List Int) (t:Int) (i:Nat):Bool:=decide (0≤Fe st i)&&decide (Fe st i≤t)&&decide (t<Fe st i+Vd cs i)
def bz (cs:List iK) (st:List Int) (t:Int):Nat:=(List.range cs.length).countP (Y7 cs st t)
def isW (cs:List iK) (st:List Int) (t:Int) (i:Nat):Bool:=decide (Fe st i<0)&&decide (JQ cs i≤t)
def wt (cs:List iK) (st:List Int) (t:Int):List Nat:=(List.range cs.length).filter (isW cs st t)
def Ho (bZ:Int) (cs:List iK) (i k:Nat):Bool :=
 if bZ=1 then true else if bZ=2 then decide (Vd cs i<Vd cs k) else if bZ=3 then decide (klC cs i<klC cs k) else false
def xA (bZ:Int) (cs:List iK) (b:Option Nat) (i:Nat):Option Nat:=match b with
 | none=>some i
 | some k=>if Ho bZ cs i k then some i else some k
def YQ (bZ:Int) (cs:List iK) (st:List Int) (t:Int):Option Nat:=(wt cs st t).foldl (xA bZ cs) none
def fill (bZ pI:Int) (cs:List iK) (t:Int):Nat→List Int→List Int
 | 0,st=>st
 |
  n+1,st=>if (bz cs st t:Int)<pI then (match YQ bZ cs st t with
  | none=>st
  | some k=>fill bZ pI cs t n (st.set k t)) else st
def full (bZ pI:Int) (cs:List iK) (st:List Int) (t:Int):Prop:=pI≤(bz cs st t:Int)∨YQ bZ cs st t=none
def runT (bZ pI:Int) (cs:List iK):Int→Nat→List Int→List Int
 | _,0,st=>st
 | t,n+1,st=>runT bZ pI cs (t+1) n (fill bZ pI cs t cs.length st)
def stL (bZ pI:Int) (cs:List iK):List Int:=runT bZ pI cs 0 100000 (List.replicate cs.length (-1))
section
variable {bZ pI:Int} {cs:List iK} {st:List Int} {t:Int}
theorem tO (h:full bZ pI cs st t) (n:Nat):fill bZ pI cs t n st=st:=by
 cases n with
 | zero=>rfl
 |
  succ n =>
  rw[fill]
  rcases h with h | h
  ·rw[if_neg (by omega)]
  ·split
   ·rw[h]
   ·rfl
theorem KH (m:Nat):∀(t:Int) (n:Nat),(∀u,t≤u→u<t+m→full bZ pI cs st u)→m≤n→runT bZ pI cs t n st=runT bZ pI cs (t+m) (n-m) st:=by
 induction m with
 | zero=>intro t n _ _;simp
 |
  succ m ih =>
  intro t n h hm
  obtain⟨n,rfl⟩:∃k,n=k+1:=⟨n-1,by omega⟩
  rw[runT,tO (h t (Int.le_refl _) (by omega)),ih (t+1) n (fun u h1 h2=>h u (by omega) (by omega)) (by omega)]
  congr 1
  ·omega
  ·omega
theorem U0 (n:Nat):∀(t:Int),(∀u,t≤u→full bZ pI cs st u)→runT bZ pI cs t n st=st:=by
 intro t h
 rw[KH n t n (fun u h1 _=>h u h1) (Nat.le_refl _),Nat.sub_self]
 rfl
theorem Sq {a b:Int} (ha:0≤a) (HN:a≤b) (hb:b≤100000) (h:∀u,a≤u→u<b→full bZ pI cs st u):runT bZ pI cs a (100000-a).toNat st=runT bZ pI cs b (100000-b).toNat st:=by
 rw[KH (b-a).toNat a _ (fun u h1 h2=>h u h1 (by omega)) (by omega)]
 congr 1
 ·omega
 ·omega
theorem WX {a:Int} (ha:0≤a) (hb:a<100000):runT bZ pI cs a (100000-a).toNat st=runT bZ pI cs (a+1) (100000-(a+1)).toNat (fill bZ pI cs a cs.length st):=by
 rw[show (100000-a).toNat=(100000-(a+1)).toNat+1 by omega,runT]
theorem Lg {ws:List Nat} {k:Nat}:∃j,(ws.foldl (xA bZ cs) (some k))=some j∧(j=k∨j∈ws):=by
 induction ws generalizing k with
 | nil=>exact⟨k,rfl,.inl rfl⟩
 |
  cons i ws ih =>
  rw[List.foldl_cons]
  have:∃q,xA bZ cs (some k) i=some q∧(q=k∨q=i):=by
   unfold xA
   simp only
   split
   ·exact⟨i,rfl,.inr rfl⟩
   ·exact⟨k,rfl,.inl rfl⟩
  obtain⟨q,hq,hqq⟩:=this
  rw[hq]
  obtain⟨j,h1,h2⟩:=ih (k:=q)
  refine⟨j,h1,?_⟩
  rcases h2 with rfl | h2
  ·rcases hqq with rfl | rfl
   ·exact .inl rfl
   ·exact .inr List.mem_cons_self
  ·exact .inr (List.mem_cons_of_mem _ h2)
theorem vD:YQ bZ cs st t=none↔wt cs st t=[]:=by
 unfold YQ
 cases h:wt cs st t with
 | nil=>exact⟨fun _=>rfl,fun _=>rfl⟩
 |
  cons i ws =>
  refine⟨fun h2 => ?_,fun h2=>(by cases h2)⟩
  rw[List.foldl_cons] at h2
  obtain⟨j,h3,_⟩:=Lg (bZ:=bZ) (cs:=cs) (ws:=ws) (k:=i)
  rw[show xA bZ cs none i=some i from rfl,h3] at h2
  cases h2
theorem MA {k:Nat} (h:YQ bZ cs st t=some k):k∈wt cs st t:=by
 unfold YQ at h
 cases hw:wt cs st t with
 | nil=>rw[hw] at h;cases h
 |
  cons i ws =>
  rw[hw,List.foldl_cons] at h
  obtain⟨j,h3,h4⟩:=Lg (bZ:=bZ) (cs:=cs) (ws:=ws) (k:=i)
  rw[show xA bZ cs none i=some i from rfl,h3] at h
  injection h with h
  subst h
  rcases h4 with rfl | h4
  ·exact List.mem_cons_self
  ·exact List.mem_cons_of_mem _ h4
theorem JL {k:Nat}:k∈wt cs st t↔k<cs.length∧Fe st k<0∧JQ cs k≤t:=by
 simp[wt,isW]
theorem Xn:(wt cs st t).Nodup:=List.Pairwise.filter _ List.nodup_range
theorem Ez {k i:Nat} (hk:k<st.length):Fe (st.set k t) i=if i=k then t else Fe st i:=by
 unfold Fe
 rw[List.getElem?_set]
 by_cases h:i=k
 ·subst h
  simp[hk]
 ·rw[if_neg (fun h'=>h h'.symm),if_neg h]
theorem Me {p q:Nat→Bool} {k:Nat} (hp:p k=false) (h:∀i,i≠k→q i=p i):∀n,(List.range n).countP q=(List.range n).countP p+if k<n∧q k=true then 1 else 0:=by
 intro n
 induction n with
 | zero=>simp
 |
  succ n ih =>
  rw[List.range_succ,List.countP_append,List.countP_append,ih]
  by_cases hk:n=k
  ·subst hk
   simp only[List.countP_singleton,hp]
   cases hq:q n<;>simp
  ·rw[List.countP_singleton,List.countP_singleton,h n hk]
   have:(k<n+1∧q k=true)↔(k<n∧q k=true):=by
    constructor
    ·rintro⟨h1,h2⟩;exact⟨by omega,h2⟩
    ·rintro⟨h1,h2⟩;exact⟨by omega,h2⟩
   simp only[this]
   omega
theorem adK {k:Nat} {u:Int} (hk:k<cs.length) (hl:st.length=cs.length) (hs:Fe st k<0) (h0:0≤t):bz cs (st.set k t) u=bz cs st u+if t≤u∧u<t+Vd cs k then 1 else 0:=by
 unfold bz
 rw[Me (p:=Y7 cs st u) (q:=Y7 cs (st.set k t) u) (k:=k)]
 ·congr 1
  have:(k<cs.length∧Y7 cs (st.set k t) u k=true)↔(t≤u∧u<t+Vd cs k):=by
   simp only[Y7,Ez (t:=t) (i:=k) (by omega:k<st.length),if_true,Bool.and_eq_true,decide_eq_true_eq]
   constructor
   ·rintro⟨_,⟨_,h1⟩,h2⟩;exact⟨h1,h2⟩
   ·rintro⟨h1,h2⟩;exact⟨hk,⟨h0,h1⟩,h2⟩
  simp only[this]
 ·simp only[Y7]
  rw[decide_eq_false (by omega)]
  rfl
 ·intro i hi
  simp only[Y7,Ez (t:=t) (i:=i) (by omega:k<st.length),if_neg hi]
theorem acB {k:Nat} {u:Int} (hl:st.length=cs.length) (hk:k<cs.length) (h0:0≤t):wt cs (st.set k t) u=(wt cs st u).filter (· != k):=by
 unfold wt
 rw[List.filter_filter]
 refine List.filter_congr fun i hi => ?_
 simp only[isW,Ez (t:=t) (i:=i) (by omega:k<st.length)]
 by_cases h:i=k
 ·subst h
  simp
  omega
 ·simp[h]
def DB (st:List Int):Nat:=st.countP (fun s=>decide (s<0))
theorem zA {k:Nat} (hk:k<st.length) (hs:Fe st k<0) (h0:0≤t):DB (st.set k t)+1=DB st:=by
 unfold DB
 rw[List.countP_set hk]
 have hx:st[k]=Fe st k:=by
  rw[Xh (x:=st[k]) (List.getElem?_eq_getElem hk)]
 have h1:decide (st[k]<0)=true:=by rw[hx];exact decide_eq_true hs
 have h2:decide (t<0)=false:=decide_eq_false (by omega)
 have h3:0<st.countP (fun s=>decide (s<0)):=by
  rw[List.countP_pos_iff]
  exact⟨st[k],List.getElem_mem hk,h1⟩
 simp only[h1,h2,if_true,Bool.false_eq_true,if_false]
 omega
theorem TW (hl:st.length=cs.length) (h0:0≤t):∀(n m:Nat),DB st≤n→DB st≤m→fill bZ pI cs t n st=fill bZ pI cs t m st:=by
 intro n
 induction n generalizing st with
 |
  zero =>
  intro m hn hm
  have hf:full bZ pI cs st t:=by
   right
   rw[vD]
   cases hw:wt cs st t with
   | nil=>rfl
   |
    cons i ws =>
    have h1:i∈wt cs st t:=by rw[hw];exact List.mem_cons_self
    obtain⟨h2,h3,_⟩:=JL.1 h1
    have:=zA (t:=t) (by omega:i<st.length) h3 h0
    omega
  rw[tO hf,tO hf]
 |
  succ n ih =>
  intro m hn hm
  cases m with
  |
   zero =>
   have hf:full bZ pI cs st t:=by
    right
    rw[vD]
    cases hw:wt cs st t with
    | nil=>rfl
    |
     cons i ws =>
     have h1:i∈wt cs st t:=by rw[hw];exact List.mem_cons_self
     obtain⟨h2,h3,_⟩:=JL.1 h1
     have:=zA (t:=t) (by omega:i<st.length) h3 h0
     omega
   rw[tO hf,tO hf]
  |
   succ m =>
   rw[fill,fill]
   split
   ·split
    ·rfl
    ·rename_i k hk
     obtain⟨h2,h3,_⟩:=JL.1 (MA hk)
     have:=zA (t:=t) (by omega:k<st.length) h3 h0
     exact ih (by simp[hl]) m (by omega) (by omega)
   ·rfl
theorem SC:DB st≤st.length:=List.countP_le_length
theorem UX {k:Nat} (hl:st.length=cs.length) (h0:0≤t) (hb:(bz cs st t:Int)<pI) (hk:YQ bZ cs st t=some k):fill bZ pI cs t cs.length (st.set k t)=fill bZ pI cs t cs.length st:=by
 obtain⟨h2,h3,_⟩:=JL.1 (MA hk)
 have h4:=zA (t:=t) (by omega:k<st.length) h3 h0
 have h5:=SC (st:=st)
 rw[TW (st:=st) hl h0 cs.length (cs.length+1) (by omega) (by omega)]
 conv=>rhs;rw[fill,if_pos hb,hk]
def evT (cs:List iK) (st:List Int) (i:Nat):Int:=if 0≤Fe st i then Fe st i+Vd cs i else JQ cs i
def aeX (cs:List iK) (st:List Int) (t:Int) (b:Int) (i:Nat):Int:=if t<evT cs st i∧(b<0∨evT cs st i<b) then evT cs st i else b
def later (cs:List iK) (st:List Int) (t:Int):Int:=(List.range cs.length).foldl (aeX cs st t) (-1)
structure Way (cs:List iK) (st:List Int) (t:Int):Prop where
 len:st.length=cs.length
 low:∀i,i<cs.length → -1≤Fe st i
 high:∀i,i<cs.length→Fe st i≤t
 bd:∀i,i<cs.length→Fe st i+1000*(DB st:Int)≤10000+1000*(cs.length:Int)
 tm:0≤t∧t+1000*(DB st:Int)≤11000+1000*(cs.length:Int)
theorem Way.set {k:Nat} (h:Way cs st t) (hk:k<cs.length) (hs:Fe st k<0):Way cs (st.set k t) t:=by
 have hl:=h.len
 have Vf:=h.tm
 have h4:=zA (t:=t) (by omega:k<st.length) hs Vf.1
 refine⟨by simp[hl],fun i hi => ?_,fun i hi => ?_,fun i hi => ?_,Vf.1,by omega⟩
 all_goals rw[Ez (by omega:k<st.length)]
 ·have:=h.low i hi
  split<;>omega
 ·have:=h.high i hi
  split<;>omega
 ·have:=h.bd i hi
  split<;>omega
theorem Way.le (h:Way cs st t) (hc:kV cs):t≤35000∧∀i,i<cs.length→Fe st i≤34000:=by
 have hlen:=hc.2
 have Vf:=h.tm
 refine⟨by omega,fun i hi => ?_⟩
 have:=h.bd i hi
 omega
theorem kV.bnd (hc:kV cs) {i:Nat} (hi:i<cs.length):(0≤JQ cs i∧JQ cs i≤10000)∧(1≤Vd cs i∧Vd cs i≤1000):=by
 have hx:cs[i]? = some cs[i]:=List.getElem?_eq_getElem hi
 have:=hc.at hx
 rw[Rh hx,acL hx]
 exact⟨this.1,this.2.1⟩
def JH (bZ:Int) (cs:List iK) (ws:List Nat):Nat :=
 if bZ=1 then ws.length-1 else if bZ=2∨bZ=3 then (List.range ws.length).foldl (fun b k=>if Ho bZ cs (ws.getD k 0) (ws.getD b 0) then k else b) 0 else 0
theorem Qz {ws:List Nat} {k:Nat} (h:∀i j,Ho bZ cs i j=false):ws.foldl (xA bZ cs) (some k)=some k:=by
 induction ws with
 | nil=>rfl
 |
  cons i ws ih =>
  rw[List.foldl_cons]
  have:xA bZ cs (some k) i=some k:=by
   unfold xA
   simp only[h]
   rfl
  rw[this,ih]
theorem Wi {ws:List Nat} (eT:ws≠[]) (hr:0≤bZ∧bZ≤3):JH bZ cs ws<ws.length∧ws[JH bZ cs ws]? = ws.foldl (xA bZ cs) none:=by
 have hlen:0<ws.length:=List.length_pos_iff.2 eT
 unfold JH
 by_cases h1:bZ=1
 ·rw[if_pos h1]
  rcases List.eq_nil_or_concat ws with rfl | ⟨xs,y,rfl⟩
  ·exact absurd rfl eT
  ·rw[List.concat_eq_append,List.foldl_append]
   refine⟨by simp,?_⟩
   simp only[List.length_append,List.length_cons,List.length_nil,Nat.zero_add,Nat.add_sub_cancel,List.foldl_cons,List.foldl_nil]
   rw[List.getElem?_append_right (Nat.le_refl _),Nat.sub_self]
   unfold xA
   split
   ·rfl
   ·simp only[Ho,if_pos h1,if_true]
    rfl
 ·rw[if_neg h1]
  by_cases h2:bZ=2∨bZ=3
  ·rw[if_pos h2]
   have anX:∀i,Ho bZ cs i i=false:=fun i=>by
    unfold Ho
    rw[if_neg h1]
    split
    ·exact decide_eq_false (by omega)
    ·split
     ·exact decide_eq_false (by omega)
     ·rfl
   have key:∀n,n<ws.length→(List.range (n+1)).foldl (fun b k=>if Ho bZ cs (ws.getD k 0) (ws.getD b 0) then k else b) 0<ws.length ∧
     ws[(List.range (n+1)).foldl (fun b k=>if Ho bZ cs (ws.getD k 0) (ws.getD b 0) then k else b) 0]? = (ws.take (n+1)).foldl (xA bZ cs) none:=by
    intro n
    induction n with
    |
     zero =>
     intro _
     have:(List.range (0+1)).foldl (fun b k=>if Ho bZ cs (ws.getD k 0) (ws.getD b 0) then k else b) 0=0:=by
      simp[List.range_succ,anX]
     rw[this]
     refine⟨hlen,?_⟩
     cases ws with
     | nil=>exact absurd rfl eT
     | cons i ws=>rfl
    |
     succ n ih =>
     intro hn
     obtain⟨g1,g2⟩:=ih (by omega)
     rw[List.range_succ,List.foldl_append,List.foldl_cons,List.foldl_nil]
     generalize (List.range (n+1)).foldl (fun b k=>if Ho bZ cs (ws.getD k 0) (ws.getD b 0) then k else b) 0=b at *
     obtain⟨x,hx⟩:∃x,ws[n+1]? = some x:=⟨_,List.getElem?_eq_getElem hn⟩
     obtain⟨y,hy⟩:∃y,ws[b]? = some y:=⟨_,List.getElem?_eq_getElem g1⟩
     rw[List.take_add_one,hx,List.foldl_append,←g2,hy]
     simp only[Option.toList_some,List.foldl_cons,List.foldl_nil,List.getD_eq_getElem?_getD,hx,hy,Option.getD_some,xA]
     split
     ·exact⟨hn,hx⟩
     ·exact⟨g1,hy⟩
   have:=key (ws.length-1) (by omega)
   rw[show ws.length-1+1=ws.length by omega,List.take_of_length_le (Nat.le_refl _)] at this
   exact this
  ·rw[if_neg h2]
   refine⟨hlen,?_⟩
   have hb:∀i j,Ho bZ cs i j=false:=fun i j=>by
    unfold Ho
    rw[if_neg h1,if_neg (by omega),if_neg (by omega)]
   cases ws with
   | nil=>exact absurd rfl eT
   |
    cons i ws =>
    rw[List.foldl_cons,show xA bZ cs none i=some i from rfl,Qz hb]
    rfl
end
end Go.PM
namespace Go.PM
def QG (st:List Int) (i:Nat):Bool:=decide (Fe st i<0)
def gtB (u e:Int):Bool:=decide (u<e)
section
variable {bZ pI:Int} {cs:List iK} {st:List Int} {t:Int}
theorem kV.sorted (hc:kV cs):∀ {i j:Nat},i≤j→j<cs.length→JQ cs i≤JQ cs j:=by
 intro i j QS hj
 induction j with
 |
  zero =>
  have:i=0:=by omega
  subst this
  exact Int.le_refl _
 |
  succ j ih =>
  rcases Nat.lt_or_ge i (j+1) with h | h
  ·have h1:=ih (by omega) (by omega)
   have hx:cs[j+1]? = some cs[j+1]:=List.getElem?_eq_getElem hj
   have hy:cs[j]? = some cs[j]:=List.getElem?_eq_getElem (by omega)
   have h2:=(hc.1 (j+1) _ hx).2 _ (by omega) (by rw[Nat.add_sub_cancel];exact hy)
   rw[Rh hx]
   rw[Rh hy] at h1
   omega
  ·have:i=j+1:=by omega
   subst this
   exact Int.le_refl _
theorem E0 {eK:Nat} (akM:eK≤cs.length) (past:∀i,i<eK→JQ cs i≤t) (ZS:∀i,eK≤i→i<cs.length→t<JQ cs i):wt cs st t=(List.range eK).filter (QG st):=by
 unfold wt
 rw[show cs.length=eK+(cs.length-eK) by omega,List.range_add,List.filter_append]
 have h1:(List.range eK).filter (isW cs st t)=(List.range eK).filter (QG st):=by
  refine List.filter_congr fun i hi => ?_
  rw[List.mem_range] at hi
  simp[isW,QG,past i hi]
 have h2:((List.range (cs.length-eK)).map fun x=>eK+x).filter (isW cs st t)=[]:=by
  rw[List.filter_eq_nil_iff]
  intro i hi
  obtain⟨j,hj,rfl⟩:=List.mem_map.1 hi
  rw[List.mem_range] at hj
  have:=ZS (eK+j) (by omega) (by omega)
  simp only[isW,Bool.and_eq_true,decide_eq_true_eq]
  omega
 rw[h1,h2,List.append_nil]
structure Md (bZ pI:Int) (cs:List iK) (st:List Int) (t:Int) (eK:Nat) (ws:List Nat) (ends:List Int):Prop where
 len:st.length=cs.length
 low:∀i,i<cs.length → -1≤Fe st i
 high:∀i,i<cs.length→Fe st i≤t
 bd:∀i,i<cs.length→Fe st i+1000*(DB st:Int)≤10000+1000*(cs.length:Int)
 tm : -1≤t
 K8:eK≤cs.length
 past:∀i,i<eK→JQ cs i≤t
 ZS:∀i,eK≤i→i<cs.length→t<JQ cs i∧Fe st i<0
 Y4:ws=wt cs st t
 cnt:∀u,t≤u→ends.countP (gtB u)=bz cs st u
 ef:∀e∈ends,t<e
 eb:∀e∈ends,e+1000*(DB st:Int)≤11000+1000*(cs.length:Int)
 fl:full bZ pI cs st t
 room:ws.length+ends.length≤eK
 es:(ends.length:Int)≤pI
 run:runT bZ pI cs (t+1) (100000-(t+1)).toNat st=stL bZ pI cs
theorem ES {n i:Nat} (h:i<n):Fe (List.replicate n (-1)) i = -1:=Xh (by rw[List.getElem?_replicate,if_pos h])
theorem Md.start (hc:kV cs) (hs:1≤pI):Md bZ pI cs (List.replicate cs.length (-1)) (-1) 0 [] []:=by
 have hw:wt cs (List.replicate cs.length (-1)) (-1)=[]:=by
  rw[E0 (Nat.zero_le _) (fun i hi=>by omega) fun i _ hi=>by have:=hc.bnd hi;omega]
  rfl
 have hu:DB (List.replicate cs.length (-1))=cs.length:=by simp[DB,List.countP_replicate]
 refine⟨by simp,fun i hi=>by rw[ES hi];decide,fun i hi=>by rw[ES hi];decide,fun i hi=>by rw[ES hi,hu];omega,by decide,Nat.zero_le _,fun i hi=>by omega,fun i _ hi=>⟨by have:=hc.bnd hi;omega,by rw[ES hi];decide⟩,hw.symm,fun u _ => ?_,fun e he=>(by cases he),fun e he=>(by cases he),.inr (vD.2 hw),Nat.le_refl _,by simp;omega,rfl⟩
 unfold bz
 rw[(List.countP_eq_zero (p:=Y7 cs (List.replicate cs.length (-1)) u)).2]
 ·rfl
 ·intro i hi
  rw[List.mem_range] at hi
  simp only[Y7,ES hi,Bool.and_eq_true,decide_eq_true_eq]
  omega
def M5 (w:Bool) (b e:Int):Int:=if b<0∨(w=true∧e<b) then e else b
theorem acN {es:List Int} {b:Int} (h:0≤b):es.foldl (M5 false) b=b:=by
 induction es with
 | nil=>rfl
 |
  cons e es ih =>
  rw[List.foldl_cons]
  have:M5 false b e=b:=by
   unfold M5
   rw[if_neg (by simp;omega)]
  rw[this,ih]
theorem Z7:∀ {es:List Int} {b:Int},(∀e∈es,0≤e)→(es.foldl (M5 true) b=b∨es.foldl (M5 true) b∈es)∧(∀e∈es,es.foldl (M5 true) b≤e)∧(0≤b→es.foldl (M5 true) b≤b)∧(es≠[]→0≤es.foldl (M5 true) b)
 | [],b,_=>⟨.inl rfl,fun e he=>(by cases he),fun _=>Int.le_refl _,fun h=>absurd rfl h⟩
 |
  e::es,b,h=>by
  rw[List.foldl_cons]
  have h1:=h e List.mem_cons_self
  have h2:∀e'∈es,0≤e':=fun e' he=>h e' (List.mem_cons_of_mem _ he)
  have hm:(M5 true b e=b∨M5 true b e=e)∧M5 true b e≤e∧(0≤b→M5 true b e≤b)∧0≤M5 true b e:=by
   unfold M5
   by_cases hc:b<0∨(true=true∧e<b)
   ·rw[if_pos hc]
    refine⟨.inr rfl,Int.le_refl _,fun hb => ?_,h1⟩
    rcases hc with hc | hc<;>omega
   ·rw[if_neg hc]
    simp at hc
    exact⟨.inl rfl,hc.2,fun _=>Int.le_refl _,hc.1⟩
  obtain⟨m1,m2,m3,m4⟩:=hm
  obtain⟨g1,g2,g3,g4⟩:=Z7 (es:=es) (b:=M5 true b e) h2
  have g3:=g3 m4
  refine⟨?_,?_,fun hb=>by have:=m3 hb;omega,fun _ => ?_⟩
  ·rcases g1 with g1 | g1
   ·rw[g1]
    rcases m1 with m1 | m1
    ·exact .inl m1
    ·rw[m1];exact .inr List.mem_cons_self
   ·exact .inr (List.mem_cons_of_mem _ g1)
  ·intro e' he
   rcases List.mem_cons.1 he with rfl | he
   ·omega
   ·exact g2 e' he
  ·rcases g1 with g1 | g1
   ·rw[g1];exact m4
   ·exact h2 _ g1
def LC (cs:List iK) (eK:Nat):Int:=if eK<cs.length then JQ cs eK else -1
def JB (cs:List iK) (eK:Nat) (ws:List Nat) (ends:List Int):Int:=ends.foldl (M5 (decide (0<ws.length))) (LC cs eK)
theorem Md.Xv {eK:Nat} {ws:List Nat} {ends:List Int} (h:Md bZ pI cs st t eK ws ends):ends.length=bz cs st t:=by
 rw[←h.cnt t (Int.le_refl _),List.countP_eq_length.2]
 intro e he
 exact decide_eq_true (h.ef e he)
theorem Md.time {eK:Nat} {ws:List Nat} {ends:List Int} (h:Md bZ pI cs st t eK ws ends) (hc:kV cs) (hs:1≤pI) (hg:eK<cs.length∨0<ws.length) :
  (t<JB cs eK ws ends∧JB cs eK ws ends+1000*(DB st:Int)≤11000+1000*(cs.length:Int))∧(∀i,eK≤i→i<cs.length→JB cs eK ws ends≤JQ cs i) ∧
   (eK<cs.length∧JQ cs eK=JB cs eK ws ends∨0<ws.length∧JB cs eK ws ends∈ends)∧runT bZ pI cs (JB cs eK ws ends) (100000-JB cs eK ws ends).toNat st=stL bZ pI cs:=by
 have Vf:=h.tm
 have M9:=SC (st:=st)
 have hlen:=h.len
 have he0:∀e∈ends,0≤e:=fun e he=>by have:=h.ef e he;omega
 have amM:=hc.2
 by_cases hw:0<ws.length
 ·have hbz:pI≤(bz cs st t:Int):=by
   rcases h.fl with hf | hf
   ·exact hf
   ·rw[vD,←h.Y4] at hf
    rw[hf] at hw
    simp at hw
  have eT:ends≠[]:=by
   intro he
   have:=h.Xv
   rw[he] at this
   simp at this
   omega
  obtain⟨g1,g2,g3,g4⟩:=Z7 (es:=ends) (b:=LC cs eK) he0
  have TE:JB cs eK ws ends=ends.foldl (M5 true) (LC cs eK):=by unfold JB;rw[decide_eq_true hw]
  rw[TE]
  generalize ends.foldl (M5 true) (LC cs eK)=w at *
  have g4:=g4 eT
  have Jr:(eK<cs.length∧JQ cs eK=w)∨w∈ends:=by
   rcases g1 with g1 | g1
   ·unfold LC at g1
    split at g1
    ·rename_i mN
     exact .inl ⟨mN,g1.symm⟩
    ·omega
   ·exact .inr g1
  have htw:t<w∧w+1000*(DB st:Int)≤11000+1000*(cs.length:Int):=by
   rcases Jr with⟨h1,h2⟩ | h1
   ·have:=h.ZS eK (Nat.le_refl _) h1
    have:=hc.bnd h1
    omega
   ·exact⟨h.ef _ h1,h.eb _ h1⟩
  refine⟨htw,fun i h1 h2 => ?_,Jr.imp id fun h1=>⟨hw,h1⟩,?_⟩
  ·have h3:=hc.sorted h1 h2
   have h4:=hc.bnd (i:=eK) (by omega)
   have h5:LC cs eK=JQ cs eK:=by unfold LC;rw[if_pos (by omega)]
   have:=g3 (by rw[h5];omega)
   omega
  ·rw[←h.run]
   refine(Sq (by omega) (by omega) (by omega) fun u h1 h2 => .inl ?_).symm
   rw[←h.cnt u (by omega),(List.countP_eq_length (p:=gtB u)).2 fun e he=>decide_eq_true (by have:=g2 e he;omega),h.Xv]
   exact hbz
 ·have mN:eK<cs.length:=by omega
  have h5:LC cs eK=JQ cs eK:=by unfold LC;rw[if_pos mN]
  have h4:=hc.bnd mN
  have hf:=(h.ZS eK (Nat.le_refl _) mN).1
  have TE:JB cs eK ws ends=JQ cs eK:=by unfold JB;rw[decide_eq_false hw,acN (by rw[h5];omega),h5]
  rw[TE]
  refine⟨⟨hf,by omega⟩,fun i h1 h2=>hc.sorted h1 h2,.inl ⟨mN,rfl⟩,?_⟩
  rw[←h.run]
  refine(Sq (by omega) (by omega) (by omega) fun u h1 h2 => .inr ?_).symm
  rw[vD,E0 h.K8 (fun i hi=>by have:=h.past i hi;omega) fun i h3 h4=>by have:=hc.sorted h3 h4;omega]
  have e1:=E0 (st:=st) h.K8 h.past fun i h3 h4=>(h.ZS i h3 h4).1
  rw[←e1,←h.Y4]
  exact List.eq_nil_of_length_eq_zero (by omega)
theorem Md.done {eK:Nat} {ws:List Nat} {ends:List Int} (h:Md bZ pI cs st t eK ws ends) (akM:¬eK<cs.length) (hw:¬0<ws.length):st=stL bZ pI cs:=by
 rw[←h.run]
 refine(U0 _ _ fun u hu => .inr ?_).symm
 have mN:=h.K8
 have e1:=E0 (st:=st) h.K8 h.past fun i h3 h4=>(h.ZS i h3 h4).1
 rw[vD,E0 h.K8 (fun i hi=>by have:=h.past i hi;omega) fun i h3 h4=>by omega,←e1,←h.Y4]
 exact List.eq_nil_of_length_eq_zero (by omega)
structure Ph4 (bZ pI:Int) (cs:List iK) (st0:List Int) (now:Int) (eK YA:Nat) (st:List Int) (ws:List Nat) (ends:List Int):Prop where
 Tn:Way cs st now
 Y4:ws=wt cs st now
 cnt:∀u,now≤u→ends.countP (gtB u)=bz cs st u
 ef:∀e∈ends,now<e
 eb:∀e∈ends,e+1000*(DB st:Int)≤11000+1000*(cs.length:Int)
 fl:fill bZ pI cs now cs.length st=fill bZ pI cs now cs.length st0
 past:∀i,i<eK→JQ cs i≤now
 ZS:∀i,eK≤i→i<cs.length→now<JQ cs i∧Fe st i<0
 YA:ws.length+ends.length=YA
 es:(ends.length:Int)≤pI
theorem Az:∀ {l:List Nat} {i k:Nat},l.Nodup→l[i]? = some k→l.eraseIdx i=l.filter (· != k)
 | [],_,_,_,h=>by cases h
 |
  x::l,0,k,hn,h=>by
  injection h with h
  subst h
  rw[List.nodup_cons] at hn
  rw[List.eraseIdx_cons_zero,List.filter_cons_of_neg (by simp),List.filter_eq_self.2]
  intro y hy
  have:y≠x:=fun he=>hn.1 (he▸hy)
  simpa using this
 |
  x::l,i+1,k,hn,h=>by
  rw[List.nodup_cons] at hn
  rw[List.getElem?_cons_succ] at h
  have hx:x≠k:=fun he=>hn.1 (he▸List.mem_of_getElem? h)
  rw[List.eraseIdx_cons_succ,List.filter_cons_of_pos (by simpa using hx),Az hn.2 h]
theorem Ph4.step {now:Int} {st0:List Int} {eK YA:Nat} {ws:List Nat} {ends:List Int} (h:Ph4 bZ pI cs st0 now eK YA st ws ends) (hc:kV cs) (hr:0≤bZ∧bZ≤3) (hb:(ends.length:Int)<pI) (eT:0<ws.length) :
  ∃k,ws[JH bZ cs ws]? = some k∧k<cs.length∧JH bZ cs ws<ws.length∧(0≤now∧now≤35000)∧Ph4 bZ pI cs st0 now eK YA (st.set k now) (ws.eraseIdx (JH bZ cs ws)) (ends++[now+Vd cs k]):=by
 have TU:ws≠[]:=fun he=>by rw[he] at eT;simp at eT
 obtain⟨g1,g2⟩:=Wi (cs:=cs) TU hr
 obtain⟨k,hk⟩:∃k,ws[JH bZ cs ws]? = some k:=⟨_,List.getElem?_eq_getElem g1⟩
 have hnx:YQ bZ cs st now=some k:=by
  unfold YQ
  rw[←h.Y4,←g2,hk]
 obtain⟨m1,m2,m3⟩:=JL.1 (MA hnx)
 have Vf:=h.Tn.tm
 have hle:=(h.Tn.le hc).1
 have hbz:(bz cs st now:Int)=ends.length:=by
  rw[←h.cnt now (Int.le_refl _),(List.countP_eq_length (p:=gtB now)).2 fun e he=>decide_eq_true (h.ef e he)]
 have Qd:k<st.length:=by rw[h.Tn.len];exact m1
 have hus:=zA (t:=now) Qd m2 Vf.1
 have hwk:=(hc.bnd m1).2
 refine⟨k,hk,m1,g1,⟨Vf.1,hle⟩,h.Tn.set m1 m2,?_,?_,?_,?_,?_,h.past,?_,?_,?_⟩
 ·rw[acB h.Tn.len m1 Vf.1,←h.Y4]
  exact Az (by rw[h.Y4];exact Xn) hk
 ·intro u hu
  rw[List.countP_append,h.cnt u hu,adK m1 h.Tn.len m2 Vf.1,List.countP_singleton]
  congr 1
  simp only[gtB,decide_eq_true_eq]
  by_cases hq:u<now+Vd cs k
  ·rw[if_pos hq,if_pos ⟨hu,hq⟩]
  ·rw[if_neg hq,if_neg fun h'=>hq h'.2]
 ·intro e he
  rcases List.mem_append.1 he with he | he
  ·exact h.ef e he
  ·rw[List.mem_singleton] at he
   omega
 ·intro e he
  rcases List.mem_append.1 he with he | he
  ·have:=h.eb e he
   omega
  ·rw[List.mem_singleton] at he
   omega
 ·rw[UX h.Tn.len Vf.1 (by rw[hbz];exact hb) hnx,h.fl]
 ·intro i h1 h2
  have h3:=h.ZS i h1 h2
  refine⟨h3.1,?_⟩
  rw[Ez Qd,if_neg (fun he=>by subst he;omega)]
  exact h3.2
 ·rw[List.length_eraseIdx_of_lt g1,List.length_append,List.length_cons,List.length_nil]
  have:=h.YA
  omega
 ·rw[List.length_append,List.length_cons,List.length_nil]
  omega
theorem Ph4.done {now:Int} {st0:List Int} {eK YA:Nat} {ws:List Nat} {ends:List Int} (h:Ph4 bZ pI cs st0 now eK YA st ws ends) (hc:kV cs) (mN:eK≤cs.length) (ht:YA≤eK) (hf:pI≤(ends.length:Int)∨ws=[])
  (hr:runT bZ pI cs now (100000-now).toNat st0=stL bZ pI cs):Md bZ pI cs st now eK ws ends:=by
 have Vf:=h.Tn.tm
 have hle:=(h.Tn.le hc).1
 have hbz:(bz cs st now:Int)=ends.length:=by
  rw[←h.cnt now (Int.le_refl _),(List.countP_eq_length (p:=gtB now)).2 fun e he=>decide_eq_true (h.ef e he)]
 have abK:full bZ pI cs st now:=by
  rcases hf with hf | hf
  ·exact .inl (by rw[hbz];exact hf)
  ·exact .inr (vD.2 (by rw[←h.Y4];exact hf))
 refine⟨h.Tn.len,h.Tn.low,h.Tn.high,h.Tn.bd,by omega,mN,h.past,h.ZS,h.Y4,h.cnt,h.ef,h.eb,abK,by rw[h.YA];exact ht,h.es,?_⟩
 have h1:=tO abK cs.length
 rw[h.fl] at h1
 rw[WX Vf.1 (by omega),h1] at hr
 exact hr
end
end Go.PM
namespace Go.PM
theorem Ct (n:Nat) (h:n<4294967296):TC 228 [VK .u64 1,VK .u64 (n:Int)] (.dQ [VK .u64 0,VK .u64 (n:Int)]):=by
 refine TC.walk ⟨true,false⟩ ET rfl (Nat.le_of_ble_eq_true rfl) rfl rfl ?_
 have a1:dB .and (.int .u64 1) (.int .u64 4294967295)=some (.int .u64 1):=L5 1 (by decide)
 have a2:dB .and (.int .u64 (n:Int)) (.int .u64 4294967295)=some (.int .u64 (n:Int)):=by rw[L5 n (by omega),Nat.mod_eq_of_lt h]
 have a0:dB .and (.int .u64 0) (.int .u64 4294967295)=some (.int .u64 0):=L5 0 (by decide)
 have s1:dB .shr (.int .u64 1) (.int .u64 32)=some (.int .u64 0):=lP 1 .u64
 have s0:dB .shr (.int .u64 0) (.int .u64 32)=some (.int .u64 0):=lP 0 .u64
 have s2:dB .shr (.int .u64 (n:Int)) (.int .u64 32)=some (.int .u64 0):=by rw[lP n .u64,Nat.div_eq_of_lt h];rfl
 have w0:IntKind.u64.wrap 0=0:=dP 0 (by decide)
 have wn:IntKind.u64.wrap (n:Int)=n:=dP n (by omega)
 simp only[AB,wO,a0,a1,a2,s0,s1,s2,w0,wn,Int.one_mul,Int.zero_mul,Int.mul_zero,Int.add_zero,VX,Nat.reduceEqDiff,Nat.reduceAdd]
 exact aI rfl
theorem E5 (n:Nat) (h:n<4294967296):TC 187 [VK .u64 1,VK .u64 (n:Int)] (.dQ [VK .u64 0,VK .u64 (n:Int)]):=by
 refine TC.walk ⟨true,false⟩ Hr rfl (Nat.le_of_ble_eq_true rfl) rfl rfl ?_
 simp only[C4,Ax,Ct n h,VX,Nat.reduceEqDiff,Nat.reduceAdd]
 exact aI rfl
end Go.PM
namespace Go.PM
section
variable {α:Type} {f:α→VV} {H:aA} {b g e lo:Nat} {X Y:List α}
theorem Ny {o:Nat}:cN (X.map f) o (Y.map f)=(X.take o++Y++X.drop (o+Y.length)).map f:=by
 simp[cN]
theorem Kp {o d cc:Nat} {y:VV} (h:aF H b g=some (X.map f,e,true)) (hy:cM e y H=some (Y.map f)) (eJ:lo≤b) (ho:o+(Y.take d).length≤X.length) :
  Ge lo e (.ref b g o d cc) y H=some (VI (Y.take d).length,H.set b (.row g ((X.take o++Y.take d++X.drop (o+(Y.take d).length)).map f) e true)):=by
 simp only[Ge,hy,h]
 rw[←List.map_take,Ny,if_pos ⟨trivial,eJ,by simpa using ho⟩,List.length_map]
end
end Go.PM
namespace Go.PM
def wP:aE:=(LS [LO 2 (.new [(.slice none 0 0),(.slice none 0 0),(.slice none 0 0)]),LO 3 (.mv LF)] (LS [LM 4 0,LO 5 (.lit [(.string ⟨#[]⟩)] 1 [(0,(LT 4))]),LO 6 (.call 49 [(LT 5)]),LO 7 (LX 6 0),LO 8 (LX 6 1),LN (.store 3 (LT 2) (LT 7)),LM 3 8] .ret))
def Aw:aS:=⟨9,[(.cell 2 true 3),(.tmp 3)],wP⟩
theorem Ei:iB 21=some Aw:=by kernel_rfl
def oP:aE:=(LS [LO 51 (.bin .lss (LT 50) (LT 49))] (.seq (.cond (LT 51) .skip (.exit 0)) (.seq (.block 1 (LS [LM 52 50,LM 8 52] (.eO [LO 53 (LA 1 7),LO 54 (LL 53),LM 55 8,LO 56 (.iaddr 1 (LT 54) (LT 55)),LO 57 (LL 56),LM 58 8,LO 59 (.bin .add (LT 58) (LI 1)),LM 60 4,LM 61 8,LO 62 (.iaddr 3 (LT 60) (LT 61)),LO 63 (LK 62),LO 64 (.iaddr 3 (LT 57) (LT 59)),LN (.store 3 (LT 64) (LT 63))]))) (.eO [LO 65 (.bin .add (LT 50) (LI 1)),LM 50 65]))))
def jL:aE:=(LS [LO 2 (.new [(.slice none 0 0),(.slice none 0 0),(.slice none 0 0)]),LO 3 (.mv LF)] (LS [LM 10 0,LO 11 (.call 126 [(LT 10)]),LM 9 11,LO 12 (LX 9 0),LO 13 (LX 9 1),LM 4 12,LM 5 13] (LS [LM 14 4,LO 15 (.len (LT 14)),LM 6 15] (.seq (LS [LM 16 5,LO 17 (.un .not (LT 16)),LM 18 17,LZ 18 19 (.mv (LT 6)),LZ 18 20 (.bin .lss (LT 19) (LI 1)),LO 21 (.pick (LT 18) LG (LT 20)),LM 22 21,LZ 22 23 (.mv (LT 6)),LZ 22 24 (.bin .gtr (LT 23) (LI 6)),LO 25 (.pick (LT 22) LG (LT 24))] (.cond (LT 25) (LS [LO 26 (.build [(.slice none 0 0),(.slice none 0 0),(.slice none 0 0)] [(0,1),(1,1),(2,1)] []),LN (.store 3 (LT 2) (LT 26)),LO 3 (.mv LF)] .ret) .skip)) (LS [LM 27 6,LO 28 (.call 127 [(LT 27)]),LM 29 6,LO 30 (.call 128 [(LT 29)]),LM 31 6,LO 32 (.call 127 [(LT 31)]),LO 33 (.build [(.slice none 0 0),(.slice none 0 0),(.slice none 0 0)] [(0,1),(1,1),(2,1)] [(0,(LT 28)),(1,(LT 30)),(2,(LT 32))]),LO 7 (.new [(.slice none 0 0),(.slice none 0 0),(.slice none 0 0)]),LN (.store 3 (LT 7) (LT 33))] (LS [LO 34 (LA 0 7),LO 35 (LL 34),LO 36 (LA 2 7),LO 37 (LL 36),LM 38 6,LO 39 (.bin .sub (LT 38) (LI 1)),LQ 40 (.call 97 [(LI 1)]),LM 41 4,LM 42 6,LO 43 (.bin .sub (LT 42) (LI 1)),LO 44 (.iaddr 3 (LT 41) (LT 43)),LO 45 (LK 44),LO 46 (.iaddr 3 (LT 35) (LI 0)),⟨none,(.store 3 (LT 46) (LT 40)),none,false,[((LT 36),(LT 46))]⟩,LO 47 (.iaddr 3 (LT 37) (LT 39)),LN (.store 3 (LT 47) (LT 45))] (.seq (LS [LM 48 6,LO 49 (.bin .sub (LT 48) (LI 1)),LO 50 (.mv (LI 0))] (.block 0 (.loop oP))) (LS [LO 66 (LK 7),LO 67 (.call 129 [(LT 66)]),LO 68 (LX 67 0),LO 69 (LX 67 1),LN (.store 3 (LT 2) (LT 68)),LM 3 69] .ret))))))))
def lC:aS:=⟨70,[(.cell 2 true 3),(.tmp 3)],jL⟩
theorem D2:iB 49=some lC:=by kernel_rfl
def A9:aE:=(LS [LO 2 (.mv (.const (.slice none 0 0)))] (LS [LO 3 (.call 97 [(LI 0)]),LO 4 (.lit [(.bool false),(.slice none 0 0),(.slice none 0 0)] 1 [(0,(LT 3))]),LM 5 0,LO 6 (.call 202 [(LT 4),(LT 5)]),LM 2 6] .ret))
def Ep:aS:=⟨7,[(.tmp 2)],A9⟩
theorem I9:iB 127=some Ep:=by kernel_rfl
def tS:aE:=(LS [LO 1 (.box (LT 0)),LO 2 (.new [(.slice none 0 0),(.slice none 0 0),(.slice none 0 0)]),LO 3 (.mv LF)] (LS [LO 11 (LA 0 1),LO 12 (LL 11),LO 13 (.call 111 [(LT 12)]),LM 10 13,LO 14 (LX 10 0),LO 15 (LX 10 1),LM 4 14,LM 5 15] (LS [LO 17 (LA 1 1),LO 18 (LL 17),LO 19 (.call 149 [(LT 18)]),LM 16 19,LO 20 (LX 16 0),LO 21 (LX 16 1),LO 6 (.new [(.slice none 0 0)]),LN (.store 1 (LT 6) (LT 20)),LM 7 21] (LS [LO 23 (LA 2 1),LO 24 (LL 23),LO 25 (.call 111 [(LT 24)]),LM 22 25,LO 26 (LX 22 0),LO 27 (LX 22 1),LM 8 26,LM 9 27] (.seq (LS [LM 28 5,LO 29 (.un .not (LT 28)),LM 30 29,LZ 30 31 (.mv (LT 7)),LZ 30 32 (.un .not (LT 31)),LO 33 (.pick (LT 30) LG (LT 32)),LM 34 33,LZ 34 35 (.mv (LT 9)),LZ 34 36 (.un .not (LT 35)),LO 37 (.pick (LT 34) LG (LT 36)),LM 38 37,LZ 38 39 (LA 0 1),LZ 38 40 (LL 39),LZ 38 41 (.len (LT 40)),LZ 38 42 (.bin .gtr (LT 41) (LI 6)),LO 43 (.pick (LT 38) LG (LT 42))] (.cond (LT 43) (LS [LO 44 (.build [(.slice none 0 0),(.slice none 0 0),(.slice none 0 0)] [(0,1),(1,1),(2,1)] []),LN (.store 3 (LT 2) (LT 44)),LO 3 (.mv LF)] .ret) .skip)) (LS [LM 45 4,LO 46 (LA 0 6),LO 47 (LL 46),LM 48 8,LO 49 (.build [(.slice none 0 0),(.slice none 0 0),(.slice none 0 0)] [(0,1),(1,1),(2,1)] [(0,(LT 45)),(1,(LT 47)),(2,(LT 48))]),LN (.store 3 (LT 2) (LT 49)),LO 3 (.mv LG)] .ret))))))
def yW:aS:=⟨50,[(.cell 2 true 3),(.tmp 3)],tS⟩
theorem DJ:iB 129=some yW:=by kernel_rfl
end Go.PM
namespace Go.PM
open Go.Lib
def Gu {α:Type} (f:α→VV) (e:Nat) (aY:List α) (lo hi:Nat) (H:aA) (v:VV):Prop :=
 ∃b g c,lo≤b∧b<hi∧v = .ref b g 0 aY.length c∧aY.length≤c∧aF H b g=some (aY.map f,e,true)
def TabIs {α:Type} (f:α→VV) (e:Nat) (m:List (List α)) (lo hi:Nat) (H:aA) (v:VV):Prop :=
 ∃b g c rs,v = .ref b g 0 m.length c∧m.length≤c∧MG f e lo hi b g H rs∧rs.map (·.xs)=m
theorem IT {α:Type} {f:α→VV} {lo b k e bytes:Nat} {H:aA} {xs:List α} {x:α} (h:aF H b k=some (xs.map f,e,true)) (hk:k=xs.length) (eJ:lo≤b) (he:1≤e) (hb:1≤bytes) (A0:(k+1)*bytes≤140737488355328) :
 eH lo e bytes (.ref b k 0 k k) [f x] H=some (.ref b (k+1) 0 (k+1) (k+1),H.set b (.row (k+1) ((xs++[x]).map f) e true)):=iF h hk eJ he hb A0
theorem Gu.rd {α:Type} {f:α→VV} {e lo hi:Nat} {aY:List α} {H:aA} {v:VV} (h:Gu f e aY lo hi H v):Rd f e aY H v:=by
 obtain⟨b,g,c,h1,h2,rfl,h3,h4⟩:=h
 exact Rd.row h4 rfl
theorem sM {lo:Nat} {H:aA} (q:Rat) (N:Nat) (hN:N≤1000000) (eJ:lo≤H.length) :
  iV 202 [.tree [bD q] (.cl 3),VI N] lo H fun r H'=>r = .ref H.length 0 0 N N∧H'=H++[.row 0 ((List.replicate N q).map bD) 3 true]:=by
 refine iV.walk ⟨true,false⟩ nL (Nat.le_of_ble_eq_true rfl) ?_
 have eM:=E5 N (by omega)
 have c1:IntKind.u64.wrap ((1:Nat):Int)=1:=dP 1 (by decide)
 have c2:IntKind.u64.wrap (N:Int)=(N:Int):=dP N (by omega)
 have c3:IntKind.i64.wrap (N:Int)=(N:Int):=wrap64 (by omega) (by omega)
 have g1:¬(N:Int)<0:=by omega
 have g2:¬(0:Int)<0:=by decide
 have g3:¬(9223372036854775807:Int)<(N:Int):=by omega
 have em:=fun H=>qY (H:=H) (f:=id) (x:=rz) (z:=[.bool false,.slice none 0 0,.slice none 0 0]) (bytes:=56) (n:=N) rfl (by omega) (by omega)
 have s1:cM 3 (.tree [bD q] (.cl 3)) (H++[.row 0 ((List.replicate N rz).map id) 3 true])=some ([bD q].map id):=eG (v:=bD q) rfl rfl
 have r1:aF (H++[.row 0 ((List.replicate N rz).map id) 3 true]) H.length 0=some ((List.replicate N rz).map id,3,true):=by rw[B7,aT]
 have s2:=Kp (f:=id) (Y:=[bD q]) (lo:=lo) (o:=0) (d:=N) (cc:=N) (y := .tree [bD q] (.cl 3)) r1 s1 eJ (by simp;omega)
 rw[Qv] at s2
 simp only[iR,hJ,eM,c1,c2,c3,g1,g2,g3,em,s2,gY,VX,Nat.reduceEqDiff,Nat.reduceAdd,Nat.reduceLeDiff,Nat.reduceLT,Nat.reduceSub]
 refine aR (fun(i:Nat) ρ H1=>i≤N∧(i=0→N=0)∧H1=H++[.row 0 ((List.replicate i (bD q)++List.replicate (N-i) rz).map id) 3 true]∧ρ 7 = .ref H.length 0 0 N N∧ρ 8=VI i) (fun i=>N-i) (min 1 N) ?_ ?_
 refine⟨by omega,by omega,?_,rfl,?_⟩
 ·congr 2
  cases N with
  | zero=>rfl
  |
   succ N =>
   have:min 1 (N+1)=1:=by omega
   rw[this]
   simp[List.replicate_succ]
 ·cases N with
  | zero=>rfl
  |
   succ N =>
   have:min 1 (N+1)=1:=by omega
   simp only[this,gY,VX,Nat.reduceEqDiff,Nat.reduceAdd,Nat.reduceLeDiff,Nat.reduceLT,Nat.reduceSub]
   try simp
 rintro i ρ H1 ⟨hi,h0,rfl,h7,h8⟩
 have hr:aF (H++[.row 0 ((List.replicate i (bD q)++List.replicate (N-i) rz).map id) 3 true]) H.length 0=some ((List.replicate i (bD q)++List.replicate (N-i) rz).map id,3,true):=by rw[B7,aT]
 have el:=eZ (o:=0) (n:=N) (c:=N) hr
 by_cases dK:(i:Int)<(N:Int)
 ·have hXl:(List.replicate i (bD q)++List.replicate (N-i) rz).length=N:=by simp;omega
  have sE:∀X:List VV,X=List.replicate i (bD q)++List.replicate (N-i) rz→(((X.map id).drop 0).take i).all (fun x=>(aB x).all bA)=true:=by
   rintro X rfl
   rw[List.map_id,List.drop_zero,List.take_append_of_le_length (by simp),List.take_of_length_le (by simp),List.all_eq_true]
   intro x hx
   rw[List.eq_of_mem_replicate hx]
   rfl
  have q1:=J6 (o:=0) (n:=N) (c:=N) (l:=i) (k1 := .i64) hr hi (Nat.le_refl _)
  have q2:=GI (o:=0) (n:=N) (c:=N) (h:=i) (k2 := .i64) hr hi
  have hY:((List.replicate i (bD q)++List.replicate (N-i) rz).drop 0).take i=List.replicate i (bD q):=by
   rw[List.drop_zero,List.take_append_of_le_length (by simp),List.take_of_length_le (by simp)]
  have q3:cM 3 (.ref H.length 0 0 i N) (H++[.row 0 ((List.replicate i (bD q)++List.replicate (N-i) rz).map id) 3 true])=some ((List.replicate i (bD q)).map id):=by
   have hs:=sE _ rfl
   simp only[cM,hr]
   rw[if_pos ⟨trivial,by rw[List.length_map,hXl];omega,hs⟩,List.map_id,List.map_id,hY]
  have hYd:(List.replicate i (bD q)).take (N-i)=List.replicate (min (N-i) i) (bD q):=List.take_replicate
  have q4:=Kp (f:=id) (lo:=lo) (o:=i) (d:=N-i) (cc:=N-i) hr q3 eJ (by rw[hYd,hXl];simp;omega)
  rw[Qv,hYd,List.length_replicate,List.take_append_of_le_length (by simp),List.take_of_length_le (by simp)] at q4
  have hX':List.replicate i (bD q)++List.replicate (min (N-i) i) (bD q)++(List.replicate i (bD q)++List.replicate (N-i) rz).drop (i+min (N-i) i)=List.replicate (i+min (N-i) i) (bD q)++List.replicate (N-(i+min (N-i) i)) rz:=by
   rw[List.replicate_append_replicate,List.drop_append,List.drop_of_length_le (by simp),List.nil_append,List.length_replicate,List.drop_replicate]
   congr 2
   omega
  rw[hX'] at q4
  have wi:IntKind.i64.wrap ((i:Int)+((min (N-i) i:Nat):Int))=((i+min (N-i) i:Nat):Int):=wrapN _ (by omega) (by omega)
  simp only[dZ,h7,h8,el,dK,q1,q2,q3,q4,wi,gY,VX,Nat.reduceEqDiff,Nat.reduceAdd,Nat.reduceLeDiff,Nat.reduceLT,Nat.reduceSub]
  exact⟨i+min (N-i) i,by omega,by omega,by omega,by (repeat' apply And.intro)<;>first | rfl | trivial | assumption⟩
 ·have qG:i=N:=by omega
  subst qG
  simp only[dZ,h7,h8,el,dK,gY,VX,Nat.reduceEqDiff,Nat.reduceAdd,Nat.reduceLeDiff,Nat.reduceLT,Nat.reduceSub]
  rw[Nat.sub_self,List.replicate_zero,List.append_nil,List.map_id,List.map_replicate]
theorem Bc {lo:Nat} {H:aA} (N:Nat) (hN:N≤1000000) (eJ:lo≤H.length) :
  iV 127 [VI N] lo H fun r H'=>r = .ref H.length 0 0 N N∧H'=H++[.row 0 ((List.replicate N (0:Rat)).map bD) 3 true]:=by
 refine iV.walk ⟨true,false⟩ I9 (Nat.le_of_ble_eq_true rfl) ?_
 have e1:TC 97 [VI 0] (bD 0):=Af 0 (by decide) (by decide)
 have eL:∀H,jM false [.bool false,.slice none 0 0,.slice none 0 0] 1 [(0,bD 0)] H=some (.tree [bD 0] (.cl 3),H):=fun H=>eW rfl rfl rfl
 simp only[Ep,A9,e1,eL,gY,VX,Nat.reduceEqDiff,Nat.reduceAdd,Nat.reduceLeDiff,Nat.reduceLT,Nat.reduceSub]
 refine eB rfl ((sM 0 N hN eJ).mono ?_)
 rintro r H' ⟨rfl,rfl⟩
 simp only[gY,VX,Nat.reduceEqDiff,Nat.reduceAdd,Nat.reduceLeDiff,Nat.reduceLT,Nat.reduceSub]
theorem Q3 (a n:Nat):((List.range n).map fun k=>a+k).Nodup:=List.pairwise_map.2 (List.nodup_range.imp fun h=>by omega)
theorem Mi {lo:Nat} {H:aA} (N:Nat) (hN:N≤1000) (eJ:lo≤H.length) :
  iV 128 [VI N] lo H (RS (TabIs bD 3 (List.replicate N (List.replicate N (0:Rat)))) H):=by
 refine iV.walk ⟨true,false⟩ L4 (Nat.le_of_ble_eq_true rfl) ?_
 have em:=fun H=>qY (H:=H) (f:=id) (x := .tree [] .nil) (z:=[.slice none 0 0]) (bytes:=24) (n:=N) rfl (by omega) (by omega)
 have el0:=eZ (H:=H++[.row 0 ((List.replicate N (VV.tree [] .nil)).map id) 1 true]) (b:=H.length) (g:=0) (o:=0) (n:=N) (c:=N) dY
 simp only[H9,EZ,em,el0,List.length_cons,List.length_nil,Nat.zero_add,gY,VX,Nat.reduceEqDiff,Nat.reduceAdd,Nat.reduceLeDiff,Nat.reduceLT,Nat.reduceSub]
 refine aR (fun(i:Nat) ρ H1=>i≤N∧H1=H ++ .row 0 (((List.range i).map fun k=>VV.ref (H.length+1+k) 0 0 N N)++List.replicate (N-i) (VV.tree [] TK.nil)) 1 true::List.replicate i (.row 0 ((List.replicate N (0:Rat)).map bD) 3 true)∧ρ 0=VI N∧ρ 3 = .ref H.length 0 0 N N∧ρ 8=VI N∧ρ 9=VI i) (fun i=>N-i) 0 ⟨Nat.zero_le _,by simp,rfl,rfl,rfl,rfl⟩ ?_
 rintro i ρ H1 ⟨hi,rfl,g0,g3,g8,g9⟩
 have e1:TC 97 [VI 0] (bD 0):=Af 0 (by decide) (by decide)
 have eL:∀H,jM false [.bool false,.slice none 0 0,.slice none 0 0] 1 [(0,bD 0)] H=some (.tree [bD 0] (.cl 3),H):=fun H=>eW rfl rfl rfl
 by_cases dK:(i:Int)<(N:Int)
 ·have wi:IntKind.i64.wrap ((i:Int)+1)=((i+1:Nat):Int):=wrapN (i+1) (by omega) (by omega)
  simp only[xH,g0,g3,g8,g9,dK,e1,eL,gY,VX,Nat.reduceEqDiff,Nat.reduceAdd,Nat.reduceLeDiff,Nat.reduceLT,Nat.reduceSub]
  refine eB rfl ((sM 0 N (by omega) (by rw[List.length_append];omega)).mono ?_)
  rintro r H' ⟨rfl,rfl⟩
  have hl:(H++bU.row 0 (((List.range i).map fun k=>VV.ref (H.length+1+k) 0 0 N N)++List.replicate (N-i) (VV.tree [] TK.nil)) 1 true::List.replicate i (.row 0 ((List.replicate N (0:Rat)).map bD) 3 true)).length=H.length+1+i:=by simp;omega
  rw[hl,List.append_assoc,List.cons_append]
  have hr:aF (H++bU.row 0 (((List.range i).map fun k=>VV.ref (H.length+1+k) 0 0 N N)++List.replicate (N-i) (VV.tree [] TK.nil)) 1 true::(List.replicate i (.row 0 ((List.replicate N (0:Rat)).map bD) 3 true)++[.row 0 ((List.replicate N (0:Rat)).map bD) 3 true])) H.length 0=some ((((List.range i).map fun k=>VV.ref (H.length+1+k) 0 0 N N)++List.replicate (N-i) (VV.tree [] TK.nil)),1,true):=by rw[B7,aT]
  have a1:=aQ (o:=0) (n:=N) (c:=N) (i:=i) (k := .i64) hr (by omega)
  have a2:=dC (lo:=lo) (v := .ref (H.length+1+i) 0 0 N N) (j:=i) hr (by simp;omega) eJ rfl rfl
  rw[Qv,List.set_cons_zero] at a2
  have hs:(((List.range i).map fun k=>VV.ref (H.length+1+k) 0 0 N N)++List.replicate (N-i) (VV.tree [] TK.nil)).set i (.ref (H.length+1+i) 0 0 N N)=((List.range (i+1)).map fun k=>VV.ref (H.length+1+k) 0 0 N N)++List.replicate (N-(i+1)) (VV.tree [] TK.nil):=by
   obtain⟨m,hm⟩:∃m,N-i=m+1:=⟨N-i-1,by omega⟩
   have hm':N-(i+1)=m:=by omega
   rw[List.set_append_right _ _ (by simp),hm,hm',List.length_map,List.length_range,Nat.sub_self,List.replicate_succ,List.set_cons_zero,List.range_succ,List.map_append,List.append_assoc]
   rfl
  rw[hs] at a2
  rw[Nat.zero_add] at a1
  simp only[a1,a2,wi,g9,gY,VX,Nat.reduceEqDiff,Nat.reduceAdd,Nat.reduceLeDiff,Nat.reduceLT,Nat.reduceSub]
  exact⟨i+1,by omega,by omega,by rw[List.replicate_succ'],by (repeat' apply And.intro)<;>first | rfl | trivial | assumption⟩
 ·have qG:i=N:=by omega
  subst qG
  simp only[xH,g3,g8,g9,dK,gY,VX,Nat.reduceEqDiff,Nat.reduceAdd,Nat.reduceLeDiff,Nat.reduceLT,Nat.reduceSub]
  refine⟨List.prefix_append _ _,H.length,0,i,(List.range i).map fun k=>⟨H.length+1+k,0,i,List.replicate i 0⟩,by rw[List.length_replicate],by rw[List.length_replicate];exact Nat.le_refl _,⟨?_,Nat.le_refl _,by simp,?_,?_⟩,?_⟩
  ·rw[B7,aT,Nat.sub_self,List.replicate_zero,List.append_nil,List.map_map]
   simp[nE,Function.comp_def]
  ·rw[List.map_map]
   exact Q3 (H.length+1) i
  ·intro r hr
   obtain⟨k,hk,rfl⟩:=List.mem_map.1 hr
   rw[List.mem_range] at hk
   refine⟨by simp only;omega,by simp;omega,by simp only;omega,by simp,?_⟩
   have:H.length+1+k=H.length+(k+1):=by omega
   simp only[this]
   rw[Zo,yT,cC,List.getElem?_replicate,if_pos hk]
  ·rw[List.map_map]
   apply List.ext_getElem?
   intro k
   rw[List.getElem?_map,List.getElem?_replicate]
   by_cases hk:k<i
   ·simp[hk,List.getElem?_range]
   ·simp[hk]
end Go.PM
namespace Go.PM
structure ajL (s:B0):Prop where
 b4:s.b.length≤400000000
 e4:s.e.length≤400000000
 g4:s.g.length≤400000000∧∀x∈s.g,x.length≤400000000
 bs:∀x∈s.b,x.size≤1000000000
 es:∀x∈s.e,x.size≤1000000000
 gs:∀x∈s.g,∀y∈x,y.size≤1000000000
theorem ajL.g9 {s:B0} (h:ajL s):s.g.length≤1000000000∧∀x∈s.g,x.length≤1000000000:=⟨by have:=h.g4.1;omega,fun x hx=>by have:=h.g4.2 x hx;omega⟩
end Go.PM
namespace Go.PM
def qQ {β:Type} (k:Int):List (List β)→List (List ByteArray)
 | []=>[]
 | x::xs=>hX k x.length::qQ (k+x.length) xs
def cT {β:Type} (xs:List (List β)):Nat:=(xs.map List.length).sum
section
variable {β:Type}
theorem Jq (xs:List (List β)) (k:Int):(qQ k xs).length=xs.length:=by
 induction xs generalizing k with
 | nil=>rfl
 | cons x xs ih=>simp[qQ,ih]
theorem G0 {xs:List (List β)} {i:Nat} {x:List β} (h:xs[i]? = some x):cT (xs.take (i+1))=cT (xs.take i)+x.length:=by
 rw[List.take_add_one,h]
 simp[cT]
theorem DC {xs:List (List β)} {i:Nat} {x:List β} {k:Int} (h:xs[i]? = some x):(qQ k xs)[i]? = some (hX (k+cT (xs.take i)) x.length):=by
 induction xs generalizing i k with
 | nil=>cases h
 |
  cons y ys ih =>
  cases i with
  | zero=>injection h with h;subst h;simp[qQ,cT]
  |
   succ i =>
   simp only[qQ,List.getElem?_cons_succ] at h ⊢
   rw[ih h]
   simp only[List.take_succ_cons,cT,List.map_cons,List.sum_cons,Int.natCast_add]
   rw[Int.add_assoc]
theorem KZ {xs:List (List β)} (i:Nat):cT (xs.take i)≤cT xs:=by
 induction xs generalizing i with
 | nil=>simp[cT]
 |
  cons x xs ih =>
  cases i with
  | zero=>simp[cT]
  |
   succ i =>
   have:=ih i
   simp only[List.take_succ_cons,cT,List.map_cons,List.sum_cons] at this ⊢
   omega
end
theorem Cz (k:Int) (xs:List (List ByteArray)) (hk:0≤k∧k≤10000000) (hn:xs.length≤10000000) (ht:cT xs≤10000000):TC 83 [sJ (qQ k xs),VI k] (VI (k+cT xs)):=by
 refine TC.walk ⟨true,false⟩ Cw rfl (Nat.le_of_ble_eq_true rfl) (Fp (Di _) rfl) rfl ?_
 simp only[xC,sN,VX,Nat.reduceEqDiff,Nat.reduceAdd]
 refine aR (fun(i:Nat) ρ H=>i≤xs.length∧H=[]∧ρ 0=sJ (qQ k xs)∧ρ 1=VI (k+cT (xs.take i))∧ρ 5=VI i) (fun i=>xs.length-i) 0 ⟨Nat.zero_le _,rfl,rfl,by simp only[VX,Nat.reduceEqDiff,Nat.reduceAdd];simp[cT],rfl⟩ ?_
 rintro i ρ H ⟨hi,rfl,h0,h1,h5⟩
 have hlen:=Jq xs k
 by_cases dK:(i:Int)<(xs.length:Int)
 ·obtain⟨x,hx⟩:∃x,xs[i]? = some x:=⟨_,List.getElem?_eq_getElem (by omega)⟩
  have e1:=aK (f:=jX) (t := .op) (H:=[]) (size:=1) (k := .i64) (DC (k:=k) hx) rfl
  have l1:=G0 hx
  have l2:=KZ (xs:=xs) (i+1)
  have e3:=oS (k+cT (xs.take i)) x.length (by omega) (by omega)
  have sW:¬(k+(cT (xs.take i):Int)+(x.length:Int))<0:=by omega
  have wi:IntKind.i64.wrap ((i:Int)+1)=((i+1:Nat):Int):=wrapN (i+1) (by omega) (by omega)
  simp only[mK,h0,h1,h5,dK,e1,e3,wi,hlen,sW,eq_self,VX,Nat.reduceEqDiff,Nat.reduceAdd]
  refine⟨i+1,by omega,by omega,?_⟩
  rw[l1,Int.natCast_add,←Int.add_assoc]
  (repeat' apply And.intro)<;>first | rfl | trivial
 ·have qG:i=xs.length:=by omega
  subst qG
  simp only[mK,h0,h1,h5,dK,hlen,VX,Nat.reduceEqDiff,Nat.reduceAdd]
  rw[List.take_of_length_le (Nat.le_refl _)]
  exact aI rfl
theorem Cx {lo b g c:Nat} {H:aA} (rs:List (wA ByteArray)) (k:Int) (hr:aF H b g=some (rs.map nE,1,true)) (hR:KT sV 1 lo H.length b H rs) (eJ:lo≤b) (hk:0≤k∧k≤10000000) (hn:rs.length≤10000000) (ht:cT (rs.map (·.xs))≤10000000) :
  iV 71 [.ref b g 0 rs.length c,VI k] lo H fun r H'=>r=VI (k+cT (rs.map (·.xs)))∧H'.length=H.length∧(∀b' g' x,(∀r∈rs,r.b≠b')→aF H b' g'=some x→aF H' b' g'=some x) ∧
   ∀i r,rs[i]? = some r→aF H' r.b r.g=some ((hX (k+cT ((rs.map (·.xs)).take i)) r.xs.length).map sV,1,true):=by
 refine iV.walk ⟨true,false⟩ sP (Nat.le_of_ble_eq_true rfl) ?_
 simp only[pZ,nM,VX,Nat.reduceEqDiff,Nat.reduceAdd]
 refine aR (fun(i:Nat) ρ H1=>i≤rs.length∧H1.length=H.length∧(∀b' g' x,(∀r∈rs,r.b≠b')→aF H b' g'=some x→aF H1 b' g'=some x) ∧
   (∀j r,rs[j]? = some r→aF H1 r.b r.g=some ((if j<i then hX (k+cT ((rs.map (·.xs)).take j)) r.xs.length else r.xs).map sV,1,true))∧ρ 0 = .ref b g 0 rs.length c∧ρ 1=VI (k+cT ((rs.map (·.xs)).take i))∧ρ 5=VI i) (fun i=>rs.length-i) 0
  ⟨Nat.zero_le _,rfl,fun _ _ _ _ h=>h,fun j r h=>by rw[if_neg (by omega)];exact(hR.row r (List.mem_of_getElem? h)).2.2.2.2,rfl,by simp only[VX,Nat.reduceEqDiff,Nat.reduceAdd];simp[cT],rfl⟩ ?_
 rintro i ρ H1 ⟨hi,hH1,hold,Yc,h0,h1,h5⟩
 have hR1:=hold b g _ (fun r hr=>(hR.row r hr).2.2.1) hr
 have el:=eZ (o:=0) (n:=rs.length) (c:=c) hR1
 by_cases dK:(i:Int)<(rs.length:Int)
 ·obtain⟨r,Es⟩:∃r,rs[i]? = some r:=⟨_,List.getElem?_eq_getElem (by omega)⟩
  have R3:=hR.row r (List.mem_of_getElem? Es)
  have hxi:(rs.map (·.xs))[i]? = some r.xs:=by simp[Es]
  have l1:=G0 hxi
  have l2:=KZ (xs:=rs.map (·.xs)) (i+1)
  have e1:=aQ (o:=0) (n:=rs.length) (c:=c) (i:=i) (k := .i64) hR1 (by omega)
  have e2:cO false 1 (.ptr b g i 0) H1=some (nE r):=by rw[oX (f:=nE) hR1 Es];rfl
  have wi:IntKind.i64.wrap ((i:Int)+1)=((i+1:Nat):Int):=wrapN (i+1) (by omega) (by omega)
  simp only[jN,h0,h1,h5,dK,el,e1,e2,Nat.zero_add,VX,Nat.reduceEqDiff,Nat.reduceAdd]
  have lX:=Yc i r Es
  rw[if_neg (by omega)] at lX
  refine eB rfl ((vG r.xs _ lX (Nat.le_refl _) R3.1 (by omega) (by omega)).mono ?_)
  rintro v H2 ⟨rfl,rfl⟩
  simp only[h5,wi,VX,Nat.reduceEqDiff,Nat.reduceAdd]
  refine⟨i+1,by omega,by omega,by simpa using hH1,fun b' g' x oQ h=>aM (oQ r (List.mem_of_getElem? Es)) (hold b' g' x oQ h),fun j r' hj => ?_,h0,?_,rfl⟩
  ·by_cases M3:j=i
   ·subst M3
    rw[Es] at hj
    injection hj with hj
    subst hj
    rw[if_pos (by omega),dA lX,List.drop_length,List.append_nil]
   ·have eT:r.b≠r'.b:=fun he=>M3 (by
     have h1:(rs.map (·.b))[i]? = some r.b:=by simp[Es]
     have h2:(rs.map (·.b))[j]? = some r.b:=by simp[hj,he]
     exact PA hR.nd h2 h1)
    rw[aM eT (Yc j r' hj)]
    by_cases aV:j<i
    ·rw[if_pos aV,if_pos (by omega)]
    ·rw[if_neg aV,if_neg (by omega)]
  ·rw[l1,Int.natCast_add,←Int.add_assoc]
 ·have qG:i=rs.length:=by omega
  subst qG
  simp only[jN,h0,h1,h5,dK,el,VX,Nat.reduceEqDiff,Nat.reduceAdd]
  rw[List.take_of_length_le (by simp)]
  refine⟨rfl,hH1,hold,fun j r hj => ?_⟩
  have:=Yc j r hj
  rw[if_pos (List.getElem?_eq_some_iff.1 hj).1] at this
  exact this
theorem AX {lo:Nat} {H:aA} (k:Int):iV 71 [.tree [] .nil,VI k] lo H fun r H'=>r=VI k∧H'=H:=by
 refine iV.walk ⟨true,false⟩ sP (Nat.le_of_ble_eq_true rfl) ?_
 simp only[pZ,nM,VX,Nat.reduceEqDiff,Nat.reduceAdd]
 refine aR (fun(_:Unit) ρ H1=>H1=H∧ρ 0 = .tree [] .nil∧ρ 1=VI k∧ρ 5=VI 0) (fun _=>0) () ⟨rfl,rfl,rfl,rfl⟩ ?_
 rintro _ ρ H1 ⟨rfl,h0,h1,h5⟩
 simp only[jN,h0,h1,h5,List.length_nil,Int.natCast_zero,Int.lt_irrefl,Int.reduceLT,VX,Nat.reduceEqDiff,Nat.reduceAdd]
theorem Z2 {lo hi iZ:Nat} {aY:List (List ByteArray)} {H:aA} {v:VV} {k:Int} {K:VV→aA→Prop} (hv:RG sV 1 aY lo hi H v) (eJ:iZ≤lo) (hk:0≤k∧k≤10000000) (hn:aY.length≤10000000) (ht:cT aY≤10000000)
  (hK:∀H',H'.length=H.length→RG sV 1 (qQ k aY) lo hi H' v→(∀b g x,b<lo∨hi≤b→aF H b g=some x→aF H' b g=some x)→K (VI (k+cT aY)) H') :
  cZ 71 [v,VI k] iZ H K:=by
 rcases hv with⟨rfl,rfl⟩ | ⟨b,g,c,rs,h1,h2,rfl,h4,h5,rfl,h7⟩
 ·refine eB rfl ((AX k).mono ?_)
  rintro r H' ⟨rfl,rfl⟩
  have:=hK H' rfl (.inl ⟨rfl,rfl⟩) fun _ _ _ _ h=>h
  simpa[cT] using this
 ·have h7':KT sV 1 iZ H.length b H rs:=⟨h7.nd,fun r hr=>⟨Nat.le_trans eJ (h7.row r hr).1,jJ (h7.row r hr).2.2.2.2,(h7.row r hr).2.2⟩⟩
  rw[List.length_map] at h4 hn ⊢
  refine eB rfl ((Cx (lo:=iZ) (c:=c) rs k h5 h7' (Nat.le_trans eJ h1) hk hn ht).mono ?_)
  rintro r H' ⟨rfl,hl,hold,pO⟩
  refine hK _ hl ?_ fun b' g' x oQ h=>hold b' g' x (fun r hr=>by have:=h7.row r hr;omega) h
  have Es:∀i,i<rs.length→∃r,rs[i]? = some r:=fun i hi=>⟨_,List.getElem?_eq_getElem hi⟩
  have hml:(qQ k (rs.map (·.xs))).length=rs.length:=by rw[Jq,List.length_map]
  let Va:List (wA ByteArray):=rs.zipWith (fun r x=>{ r with xs:=x }) (qQ k (rs.map (·.xs)))
  have rU:∀(i:Nat) (r:wA ByteArray),rs[i]? = some r→Va[i]? = some { r with xs:=hX (k+cT ((rs.map (·.xs)).take i)) r.xs.length }:=fun i r hr=>by
   have hm:=DC (k:=k) (xs:=rs.map (·.xs)) (i:=i) (x:=r.xs) (by simp[hr])
   show (List.zipWith _ _ _)[i]? = _
   rw[List.getElem?_zipWith,hr,hm]
  have AQ:Va.length=rs.length:=by simp[Va,hml]
  have hex:∀ {γ:Type} (F G:wA ByteArray→γ),(∀(i:Nat) (r:wA ByteArray),rs[i]? = some r→F { r with xs:=hX (k+cT ((rs.map (·.xs)).take i)) r.xs.length }=G r)→Va.map F=rs.map G:=fun F G hFG=>by
   apply List.ext_getElem?
   intro i
   rcases Nat.lt_or_ge i rs.length with h | h
   ·obtain⟨r,hr⟩:=Es i h
    rw[List.getElem?_map,List.getElem?_map,rU i r hr,hr]
    simp only[Option.map_some,hFG i r hr]
   ·rw[List.getElem?_eq_none (by rw[List.length_map,AQ];exact h),List.getElem?_eq_none (by rw[List.length_map];exact h)]
  have aoY:Va.map (·.b)=rs.map (·.b):=hex _ _ fun _ _ _=>rfl
  have Rf:Va.map nE=rs.map nE:=hex _ _ fun i r _=>by simp[nE,NA]
  have aqY:Va.map (·.xs)=qQ k (rs.map (·.xs)):=by
   apply List.ext_getElem?
   intro i
   rcases Nat.lt_or_ge i rs.length with h | h
   ·obtain⟨r,hr⟩:=Es i h
    rw[List.getElem?_map,rU i r hr,DC (x:=r.xs) (by simp[hr])]
    rfl
   ·rw[List.getElem?_eq_none (by rw[List.length_map,AQ];exact h),List.getElem?_eq_none (by rw[hml];exact h)]
  refine .inr ⟨b,g,c,Va,h1,h2,by rw[hml,List.length_map],by rw[hml];exact h4,?_,aqY,by rw[aoY];exact h7.nd,fun r' DN => ?_⟩
  ·rw[Rf]
   exact hold _ _ _ (fun r hr=>(h7.row r hr).2.2.1) h5
  ·obtain⟨i,hi⟩:=List.getElem?_of_mem DN
   obtain⟨r,hr⟩:=Es i (by rw[←AQ];exact(List.getElem?_eq_some_iff.1 hi).1)
   rw[rU i r hr] at hi
   injection hi with hi
   subst hi
   have hm:=h7.row r (List.mem_of_getElem? hr)
   exact⟨hm.1,hm.2.1,hm.2.2.1,by rw[oN];exact hm.2.2.2.1,pO i r hr⟩
def svT (k:Int) (s:B0):B0:=⟨hX k s.b.length,qQ (k+s.b.length) s.g,hX (k+s.b.length+cT s.g) s.e.length⟩
def Vg (s:B0):Nat:=s.b.length+cT s.g+s.e.length
theorem FA (s t:B0) (hb:s.b.length≤1000000000) (hn:s.g.length≤1000000000) (Tt:∀x∈s.g,x.length≤1000000000) (he:s.e.length≤1000000000):TC 22 [NQ s,NQ t] (VB (decide (s.b=t.b∧s.g=t.g∧s.e=t.e))):=by
 refine TC.walk ⟨true,false⟩ F8 rfl (Nat.le_of_ble_eq_true rfl) (Fp (uM _) (uM _)) rfl ?_
 have e1:=rB s.b t.b hb
 have e2:=DU s.g t.g hn Tt
 have e3:=rB s.e t.e he
 by_cases h1:s.b=t.b
 ·rw[decide_eq_true h1] at e1
  by_cases h2:s.g=t.g
  ·rw[decide_eq_true h2] at e2
   by_cases h3:s.e=t.e
   ·rw[decide_eq_true h3] at e3
    rw[decide_eq_true ⟨h1,h2,h3⟩]
    simp only[mE,kB,NQ,e1,e2,e3,gL,List.getElem?_cons_zero,List.getElem?_cons_succ,VX,Nat.reduceEqDiff,Nat.reduceAdd]
    exact aI rfl
   ·rw[decide_eq_false h3] at e3
    rw[decide_eq_false (fun h=>h3 h.2.2)]
    simp only[mE,kB,NQ,e1,e2,e3,gL,List.getElem?_cons_zero,List.getElem?_cons_succ,VX,Nat.reduceEqDiff,Nat.reduceAdd]
    exact aI rfl
  ·rw[decide_eq_false h2] at e2
   rw[decide_eq_false (fun h=>h2 h.2.1)]
   simp only[mE,kB,NQ,e1,e2,gL,List.getElem?_cons_zero,List.getElem?_cons_succ,VX,Nat.reduceEqDiff,Nat.reduceAdd]
   exact aI rfl
 ·rw[decide_eq_false h1] at e1
  rw[decide_eq_false (fun h=>h1 h.1)]
  simp only[mE,kB,NQ,e1,gL,List.getElem?_cons_zero,List.getElem?_cons_succ,VX,Nat.reduceEqDiff,Nat.reduceAdd]
  exact aI rfl
theorem Dv (k:Int) (s:B0) (hk:0≤k∧k≤1000000) (hn:s.g.length≤1000000) (ht:Vg s≤1000000):TC 24 [NQ (svT k s),VI k] (VI (k+Vg s)):=by
 unfold Vg at ht ⊢
 refine TC.walk ⟨true,false⟩ Dq rfl (Nat.le_of_ble_eq_true rfl) (Fp (uM _) rfl) rfl ?_
 have e1:=oS k s.b.length (by omega) (by omega)
 have e2:=Cz (k+s.b.length) s.g (by omega) (by omega) (by omega)
 have e3:=oS (k+s.b.length+cT s.g) s.e.length (by omega) (by omega)
 have h1:¬(k+(s.b.length:Int))<0:=by omega
 have h2:¬(k+(s.b.length:Int)+(cT s.g:Int))<0:=by omega
 have h3:¬(k+(s.b.length:Int)+(cT s.g:Int)+(s.e.length:Int))<0:=by omega
 have h4:k+((s.b.length+cT s.g+s.e.length:Nat):Int)=k+(s.b.length:Int)+(cT s.g:Int)+(s.e.length:Int):=by omega
 rw[h4]
 simp only[yC,uT,NQ,svT,e1,e2,e3,h1,h2,h3,gL,List.getElem?_cons_zero,List.getElem?_cons_succ,VX,Nat.reduceEqDiff,Nat.reduceAdd]
 exact aI rfl
theorem MS.cell {α:Type} {f:α→VV} {e lo hi:Nat} {H:aA} {v:VV} {aY:List α} (h:MS f e aY lo hi H v):bA v=true:=by
 rcases h with⟨rfl,rfl⟩ | ⟨b,g,c,h1,h2,rfl,h3⟩<;>rfl
theorem RG.cell {α:Type} {f:α→VV} {e lo hi:Nat} {H:aA} {v:VV} {aY:List (List α)} (h:RG f e aY lo hi H v):bA v=true:=by
 rcases h with⟨rfl,rfl⟩ | ⟨b,g,c,rs,h1,h2,rfl,h3⟩<;>rfl
theorem Vq {lo hi iZ:Nat} {s:B0} {H:aA} {v:VV} {k:Int} {K:VV→aA→Prop} (hv:DO s lo hi H v) (eJ:iZ≤lo) (hk:0≤k∧k≤1000000) (hn:s.g.length≤1000000) (ht:Vg s≤1000000)
  (hK:∀H',H'.length=H.length→DO (svT k s) lo hi H' v→(∀b g x,b<lo∨hi≤b→aF H b g=some x→aF H' b g=some x)→K (VI (k+Vg s)) H') :
  cZ 23 [v,VI k] iZ H K:=by
 unfold Vg at ht hK
 obtain⟨a,b,c,m1,m2,rfl,l1,l2,l3,ha,hb,hc⟩:=hv
 have ca:=ha.cell
 have cb:=hb.cell
 have cc:=hc.cell
 refine eB rfl (iV.walk ⟨true,false⟩ Dy (Nat.le_of_ble_eq_true rfl) ?_)
 simp only[yU,tU,ca,cb,cc,DG,gL,List.all_cons,List.all_nil,List.getElem?_cons_zero,List.getElem?_cons_succ,VX,Nat.reduceEqDiff,Nat.reduceAdd]
 refine Sp ha eJ (by omega) (by omega) fun H1 h1 h2 h3 => ?_
 have CI:=hb.bM (H':=H1) fun b g x k1 k2=>h3 b g x (by omega)
 have T4:=hc.bM (H':=H1) fun b g x k1 k2=>h3 b g x (by omega)
 simp only[gL,List.getElem?_cons_zero,List.getElem?_cons_succ,VX,Nat.reduceEqDiff,Nat.reduceAdd]
 refine Z2 CI (by omega) (by omega) (by omega) (by omega) fun H2 h4 h5 h6 => ?_
 have ha2:=h2.bM (H':=H2) fun b g x k1 k2=>h6 b g x (by omega)
 have PQ:=T4.bM (H':=H2) fun b g x k1 k2=>h6 b g x (by omega)
 simp only[gL,List.getElem?_cons_zero,List.getElem?_cons_succ,VX,Nat.reduceEqDiff,Nat.reduceAdd]
 refine Sp PQ (by omega) (by omega) (by omega) fun H3 h7 h8 h9 => ?_
 have ha3:=ha2.bM (H':=H3) fun b g x k1 k2=>h9 b g x (by omega)
 have hb3:=h5.bM (H':=H3) fun b g x k1 k2=>h9 b g x (by omega)
 simp only[VX,Nat.reduceEqDiff,Nat.reduceAdd]
 have h4':k+((s.b.length+cT s.g+s.e.length:Nat):Int)=k+(s.b.length:Int)+(cT s.g:Int)+(s.e.length:Int):=by omega
 rw[←h4']
 exact hK H3 (by omega) ⟨a,b,c,m1,m2,rfl,l1,l2,l3,ha3,hb3,h8⟩ fun b g x k1 k2=>h9 b g x (by omega) (h6 b g x (by omega) (h3 b g x (by omega) k2))
end Go.PM
namespace Go.PM
open Go.Lib
section
variable {α:Type} {f:α→VV} {e:Nat}
def KA (f:α→VV) (e:Nat) (aY:List (List α)) (lo hi:Nat) (H:aA) (v:VV):Prop :=
 (v = .tree [] .nil∧aY=[])∨∃b g rs,lo≤b∧b<hi∧v = .ref b g 0 aY.length aY.length∧aF H b g=some (rs.map nE,1,true)∧rs.map (·.xs)=aY∧KT f e lo hi b H rs
theorem KA.rg {aY:List (List α)} {lo hi:Nat} {H:aA} {v:VV} (h:KA f e aY lo hi H v):RG f e aY lo hi H v:=by
 rcases h with h | ⟨b,g,rs,h1,h2,h3,h5,h6,h7⟩
 ·exact .inl h
 ·exact .inr ⟨b,g,_,rs,h1,h2,h3,Nat.le_refl _,h5,h6,h7⟩
theorem KA.bM {aY:List (List α)} {lo hi:Nat} {H H':aA} {v:VV} (h:KA f e aY lo hi H v) (hk:cP lo hi H H'):KA f e aY lo hi H' v:=by
 rcases h with h | ⟨b,g,rs,h1,h2,h3,h5,h6,h7⟩
 ·exact .inl h
 ·exact .inr ⟨b,g,rs,h1,h2,h3,hk _ _ _ h1 h2 h5,h6,h7.nd,fun r hr=>by
   obtain⟨k1,k2,k3,k4,k5⟩:=h7.row r hr
   exact⟨k1,k2,k3,k4,hk _ _ _ k1 k2 k5⟩⟩
theorem KA.wide {aY:List (List α)} {lo hi iZ nF:Nat} {H:aA} {v:VV} (h:KA f e aY lo hi H v) (hl:iZ≤lo) (hh:hi≤nF):KA f e aY iZ nF H v:=by
 rcases h with h | ⟨b,g,rs,h1,h2,h3,h5,h6,h7⟩
 ·exact .inl h
 ·exact .inr ⟨b,g,rs,by omega,by omega,h3,h5,h6,h7.nd,fun r hr=>by
   obtain⟨k1,k2,k3,k4,k5⟩:=h7.row r hr
   exact⟨by omega,by omega,k3,k4,k5⟩⟩
theorem KA.fD {aY:List (List α)} {lo hi:Nat} {H:aA} {v:VV} (h:KA f e aY lo hi H v):bA v=true∧aB v=[v]∧isAny v=false:=by
 rcases h with⟨rfl,rfl⟩ | ⟨b,g,rs,h1,h2,rfl,h3⟩<;>exact⟨rfl,rfl,rfl⟩
theorem KA.acC {aY:List (List α)} {lo hi:Nat} {H:aA} {v:VV} (h:KA f e aY lo hi H v):nP v H=some (VI aY.length):=by
 rcases h with⟨rfl,rfl⟩ | ⟨b,g,rs,h1,h2,rfl,h5,h6,h7⟩
 ·rfl
 ·exact eZ h5
theorem KA.snoc {aY:List (List α)} {lo iZ hi:Nat} {H:aA} {v:VV} (h:KA f e aY lo hi H v) (eJ:iZ≤lo) (hn:aY.length≤1000000000) (r:wA α) (hhi:hi≤r.b) (yS:lo≤r.b) (hc:r.xs.length≤r.c) (hr:aF H r.b r.g=some (r.xs.map f,e,true)) :
  ∃v' H3,eH iZ 1 24 v [.ref r.b r.g 0 r.xs.length r.c] H=some (v',H3)∧KA f e (aY++[r.xs]) lo H3.length H3 v'∧(∀b' g' x,b'<lo→aF H b' g'=some x→aF H3 b' g'=some x)∧H.length≤H3.length ∧
   (∀n,n≤lo→wB n H→wB n H3)∧(∀H0:aA,H0.length≤lo→H0 <+: H→H0 <+: H3)∧(∀b' g' x,aF H b' g'=some x→(∀g0 n0 c0,v ≠ .ref b' g0 0 n0 c0)→aF H3 b' g'=some x):=by
 have hb:=jJ hr
 rcases h with⟨rfl,rfl⟩ | ⟨b,g,rs,h1,h2,rfl,h5,h6,h7⟩
 ·refine⟨.ref H.length 0 0 1 1,H++[.row 0 [nE r] 1 true],by simp[eH,nE],.inr ⟨H.length,0,[r],by omega,by simp,rfl,dY,rfl,by simp,fun s hs => ?_⟩,fun _ _ _ _ h=>fW h,by simp,fun n hn hO=>hO.app (by simp[kY,dD,nE];omega),fun H0 _ hp=>WL hp,fun _ _ _ h _=>fW h⟩
  rw[List.mem_singleton] at hs
  subst hs
  exact⟨yS,by simp;omega,by omega,hc,fW hr⟩
 ·subst h6
  rw[List.length_map] at hn ⊢
  have qI:=iF (f:=nE) (xs:=rs) (x:=r) (lo:=iZ) (bytes:=24) h5 rfl (by omega) (by decide) (by decide) (by omega)
  refine⟨_,_,qI,.inr ⟨b,g+1,rs++[r],h1,by rw[List.length_set];exact jJ h5,by simp,dA h5,by simp,?_,fun s hs => ?_⟩,fun b' g' x oQ h=>aM (by omega) h,by simp,fun n hn hO=>hO.set (by omega) ?_,fun H0 hl hp=>IM hp (by omega),fun b' g' x h eT=>aM (fun he=>eT g _ _ (by rw[he])) h⟩
  ·rw[List.map_append,List.nodup_append]
   refine⟨h7.nd,by simp,fun a ha c hc' => ?_⟩
   obtain⟨s,hs,rfl⟩:=List.mem_map.1 ha
   have:=h7.row s hs
   simp only[List.map_cons,List.map_nil,List.mem_singleton] at hc'
   omega
  ·rcases List.mem_append.1 hs with hs | hs
   ·obtain⟨k1,k2,k3,k4,k5⟩:=h7.row s hs
    exact⟨k1,by rw[List.length_set];exact jJ k5,k3,k4,aM (by omega) k5⟩
   ·rw[List.mem_singleton] at hs
    subst hs
    exact⟨yS,by rw[List.length_set];exact hb,by omega,hc,aM (by omega) hr⟩
  ·rw[BN]
   intro x hx
   obtain⟨s,hs,rfl⟩:=List.mem_map.1 hx
   rcases List.mem_append.1 hs with hs | hs
   ·have:=h7.row s hs
    simp[nE,dD];omega
   ·rw[List.mem_singleton] at hs
    subst hs
    simp[nE,dD];omega
end
def J2 {α:Type} (f:α→VV) (e:Nat) (o:Option (List α)) (lo hi:Nat) (H:aA) (v:VV):Prop:=match o with
 | none=>v = .tree [] .nil
 | some ys=>Gu f e ys lo hi H v
theorem Gu.bM {α:Type} {f:α→VV} {e:Nat} {ys:List α}:∀ {lo hi H H' v},Gu f e ys lo hi H v→cP lo hi H H'→Gu f e ys lo hi H' v:=by
 rintro lo hi H H' v ⟨b,g,c,h1,h2,h3,h4,h5⟩ hk
 exact⟨b,g,c,h1,h2,h3,h4,hk _ _ _ h1 h2 h5⟩
theorem J2.bM {α:Type} {f:α→VV} {e:Nat} {o:Option (List α)}:∀ {lo hi H H' v},J2 f e o lo hi H v→cP lo hi H H'→J2 f e o lo hi H' v:=by
 intro lo hi H H' v h hk
 cases o with
 | none=>exact h
 | some ys=>exact Gu.bM h hk
theorem J2.lg {α:Type} {f:α→VV} {e lo hi:Nat} {H:aA} {v:VV} {o:Option (List α)} (h:J2 f e o lo hi H v):MS f e (o.getD []) lo hi H v:=by
 cases o with
 | none=>exact .inl ⟨h,rfl⟩
 |
  some ys =>
  obtain⟨b,g,c,h1⟩:=h
  exact .inr ⟨b,g,c,h1⟩
theorem Aa {n n':Nat} {L:aA} (h:n≤n') (hL:dL n' L=true):dL n L=true:=by
 unfold dL at hL ⊢
 rw[List.all_eq_true] at hL ⊢
 intro x hx
 have:=hL x hx
 cases x with
 | dead=>rfl
 | row g es e w=>exact zC h es this
theorem uA {n:Nat} {H:aA} (h:n≤H.length):Ar H (List.replicate n .dead++List.replicate (H.length-n) .dead):=by
 refine⟨by simp;omega,fun b g es e w hb => ?_⟩
 rw[List.replicate_append_replicate] at hb
 have:=List.eq_of_mem_replicate (List.mem_of_getElem? hb)
 cases this
theorem uN {n k:Nat}:dL n (List.replicate k .dead)=true:=by
 unfold dL
 rw[List.all_eq_true]
 intro x hx
 rw[List.eq_of_mem_replicate hx]
def G6 (q:Rat):ByteArray:=⟨(CE q).toArray⟩
def nQ (qs:List Rat):Option (List ByteArray):=if qs.all sS=true then some (qs.map G6) else none
theorem Nd {qs:List Rat} {q:Rat} (hq:q∈qs) (h:sS q=false):nQ qs=none:=if_neg (fun ha=>by
 rw[List.all_eq_true] at ha
 rw[ha q hq] at h
 cases h)
theorem KW {qs:List Rat} (h:∀q∈qs,sS q=true):nQ qs=some (qs.map G6):=if_pos (List.all_eq_true.2 h)
set_option maxHeartbeats 1000000 in
theorem sK (qs:List Rat) (hn:qs.length≤1000000) (hb:∀q∈qs,fK q≤1099511627776):FC 111 [bK bD qs] (M4 (J2 sV 1 (nQ qs)) (nQ qs).isSome):=by
 refine FC.D6 ⟨true,false⟩ G3 (Nat.le_of_ble_eq_true rfl) fun n => ?_
 have e0:∀K,jM false [.string ⟨#[]⟩] 0 [] K=some (.ref K.length 0 0 0 0,K++[.row 0 [] 1 true]):=fun K=>iN rfl
 simp only[CQ,AM,e0,List.length_replicate,gY,VX,Nat.reduceEqDiff,Nat.reduceAdd,Nat.reduceLeDiff,Nat.reduceLT,Nat.reduceSub]
 refine I8 (fun(i:Nat) ρ H=>i≤qs.length∧(∀q∈qs.take i,sS q=true)∧H=List.replicate n bU.dead++[bU.row i (((qs.take i).map G6).map sV) 1 true]∧ρ 4 = .ref n i 0 i i∧ρ 10=bK bD qs∧ρ 11=VI qs.length∧ρ 12=VI i) (fun i=>qs.length-i) 0 ⟨Nat.zero_le _,by simp,rfl,rfl,rfl,rfl,rfl⟩ ?_
 rintro i ρ H ⟨hi,qK,rfl,g4,g10,g11,g12⟩
 have lX:aF (List.replicate n bU.dead++[bU.row i (((qs.take i).map G6).map sV) 1 true]) n i=some (((qs.take i).map G6).map sV,1,true):=by rw[tC,aT]
 by_cases dK:(i:Int)<(qs.length:Int)
 ·obtain⟨q,hq⟩:∃q,qs[i]? = some q:=⟨_,List.getElem?_eq_getElem (by omega)⟩
  have hqm:=List.mem_of_getElem? hq
  have a1:=fun H=>aK (f:=bD) (t := .op) (H:=H) (size:=3) (k := .i64) hq rfl
  have wi:IntKind.i64.wrap ((i:Int)+1)=((i+1:Nat):Int):=wrapN (i+1) (by omega) (by omega)
  have e2:=Hl q (hb q hqm)
  have s1:=VC (lo:=n) (H:=List.replicate n bU.dead++[bU.row i (((qs.take i).map G6).map sV) 1 true]) (q:=q) (by simp)
  have s2:=YO (H:=List.replicate n bU.dead++[bU.row i (((qs.take i).map G6).map sV) 1 true]) (K:=[]) (q:=q)
  cases hf:sS q with
  |
   false =>
   rw[hf] at e2
   rw[Nd hqm hf]
   simp only[mX,g4,g10,g11,g12,dK,a1,e2,s1,s2,vX,gY,VX,Nat.reduceEqDiff,Nat.reduceAdd,Nat.reduceLeDiff,Nat.reduceLT,Nat.reduceSub]
   exact⟨_,uA (by simp),rfl,uN,.tree [] .nil,rfl,rfl⟩
  |
   true =>
   rw[hf] at e2
   have eL:∀H,jM false [.string ⟨#[]⟩] 1 [(0,aO (CE q))] H=some (.tree [sV (G6 q)] (.cl 1),H):=fun H=>eW rfl rfl rfl
   have eS:∀H,cM 1 (.tree [sV (G6 q)] (.cl 1)) H=some [sV (G6 q)]:=fun H=>eG rfl rfl
   have eP:eH n 1 16 (.ref n i 0 i i) [sV (G6 q)] (List.replicate n bU.dead++[bU.row i (((qs.take i).map G6).map sV) 1 true]++[.row 0 [bD q] 3 true])=some (.ref n (i+1) 0 (i+1) (i+1),(List.replicate n bU.dead++[bU.row (i+1) (((qs.take (i+1)).map G6).map sV) 1 true])++[.row 0 [bD q] 3 true]):=by
    rw[iF (f:=sV) (xs:=(qs.take i).map G6) (fW lX) (by simp;omega) (Nat.le_refl _) (by decide) (by decide) (by omega),nD hq]
    simp only[List.map_append,List.append_assoc,A7]
    rfl
   simp only[mX,g4,g10,g11,g12,dK,a1,e2,s1,s2,eL,eS,eP,wi,vX,gY,VX,Nat.reduceEqDiff,Nat.reduceAdd,Nat.reduceLeDiff,Nat.reduceLT,Nat.reduceSub]
   rw[List.take_left' (by simp)]
   refine⟨i+1,by omega,by rw[ZF,zB (kL _ (eX fun _=>rfl)),Fx],by omega,fun p hp => ?_,rfl,?_⟩
   ·rw[nD hq] at hp
    rcases List.mem_append.1 hp with h | h
    ·exact qK p h
    ·rw[List.mem_singleton] at h;subst h;exact hf
   ·simp only[qX,g10,g11,yP (uP _),FT (show n<(List.replicate n bU.dead++[bU.row i (((qs.take i).map G6).map sV) 1 true]).length by simp),VX,Nat.reduceEqDiff,Nat.reduceAdd,List.take_zero,iG,List.all_nil,List.length_nil,qX,Jb,yP]
 ·have qG:i=qs.length:=by omega
  subst qG
  rw[List.take_length] at qK lX
  rw[KW qK]
  simp only[mX,g4,g10,g11,g12,dK,List.take_length,gY,VX,Nat.reduceEqDiff,Nat.reduceAdd,Nat.reduceLeDiff,Nat.reduceLT,Nat.reduceSub]
  refine⟨_,⟨rfl,fun _ _ _ _ _ h=>h⟩,by simp[dD,kY,jR],by simp only[dL,List.all_cons,List.all_nil,Bool.and_true];exact Nx (fun _=>rfl) _,.ref n qs.length 0 qs.length qs.length,rfl,⟨n,qs.length,qs.length,Nat.le_refl _,by simp,by simp,by simp,lX⟩⟩
def uL (m:List (List Rat)):Option (List (List ByteArray)):=m.mapM nQ
theorem qR {n lo:Nat} {args gQ:List VV} {F:Nat} {P:Nat→Nat→aA→VV→Prop} {ok:Bool} {H:aA} {K:VV→aA→Prop} (h:FC F gQ (M4 P ok)) (vB:BJ.contains F=true) (hf:args.mapM (PM.fz depth H)=some gQ) (hO:wB n H)
  (hP:∀ {lo hi H H' v},P lo hi H v→cP lo hi H H'→P lo hi H' v) (hk:∀v H',H <+: H'→wB n H'→dD n v=true→P H.length H'.length H' v→K (.dQ [v,.sc (.bool ok)]) H'):cZ F args lo H K:=by
 refine h.WC vB hf ?_
 rintro r L ⟨v,rfl,hv⟩ hr hL
 have hvo:dD H.length v=true:=by
  simp only[dD,kY,Bool.and_eq_true] at hr
  exact hr.1
 refine hk v _ (List.prefix_append _ _) (hO.pre ?_) (Lm hO.len v hvo) ?_
 ·exact Aa hO.len hL
 ·rw[List.length_append]
  exact hP hv cP.move
set_option maxHeartbeats 2000000 in
theorem Fo (m:List (List Rat)) (hn:m.length≤1000000) (hb:∀r∈m,r.length≤1000000∧∀q∈r,fK q≤1099511627776):FC 149 [bK (bK bD) m] (M4 (CG ((uL m).getD [])) (uL m).isSome):=by
 refine FC.D6 ⟨true,false⟩ Fa (Nat.le_of_ble_eq_true rfl) fun n => ?_
 have s0:bY n 1 (.ptr (n+1) 0 0 0) (.agg [.tree [] .nil]) (List.replicate n bU.dead++[bU.row 0 [.tree [] .nil] 1 true,.row 0 [.tree [] .nil] 1 true])=some (List.replicate n bU.dead++[bU.row 0 [.tree [] .nil] 1 true,.row 0 [.agg [.tree [] .nil]] 1 true]):=by
  rw[dC (e:=1) (g:=0) (j:=0) (by rw[Ta,yT,aT]) (by exact Nat.zero_lt_one) (by omega) rfl rfl,aeW]
  rfl
 simp only[Bj,yD,s0,AP,List.length_replicate,List.length_cons,List.length_nil,List.append_assoc,List.cons_append,List.nil_append,rI,gY,VX,Nat.reduceEqDiff,Nat.reduceAdd,Nat.reduceLeDiff,Nat.reduceLT,Nat.reduceSub]
 refine aR (fun(i:Nat) ρ H=>i≤m.length∧wB n H∧(∃x v aY,aF H n 0=some ([.tree [] .nil],1,true)∧aF H (n+1) 0=some ([x],1,true)∧aB x=[v]∧uL (m.take i)=some aY∧KA sV 1 aY (n+2) H.length H v)∧ρ 2 = .ptr n 0 0 0∧ρ 4 = .ptr (n+1) 0 0 0∧ρ 10=bK (bK bD) m∧ρ 11=VI m.length∧ρ 12=VI i) (fun i=>m.length-i) 0
  ⟨Nat.zero_le _,⟨[.row 0 [.tree [] .nil] 1 true,.row 0 [.agg [.tree [] .nil]] 1 true],rfl,rfl⟩,⟨.agg [.tree [] .nil],.tree [] .nil,[],by rw[tC,aT],by rw[Ta,yT,aT],rfl,rfl,.inl ⟨rfl,rfl⟩⟩,rfl,rfl,rfl,rfl,rfl⟩ ?_
 rintro i ρ H ⟨hi,hO,⟨x,v,aY,BG,Vj,hx,En,hv⟩,g2,g4,g10,g11,g12⟩
 have CY:=jJ Vj
 by_cases dK:(i:Int)<(m.length:Int)
 ·obtain⟨r,hr⟩:∃r,m[i]? = some r:=⟨_,List.getElem?_eq_getElem (by omega)⟩
  have R3:=hb r (List.mem_of_getElem? hr)
  have a1:=fun H=>aK (f:=bK bD) (t := .op) (H:=H) (size:=1) (k := .i64) hr rfl
  have wi:IntKind.i64.wrap ((i:Int)+1)=((i+1:Nat):Int):=wrapN (i+1) (by omega) (by omega)
  simp only[pD,g2,g4,g10,g11,g12,dK,a1,gY,VX,Nat.reduceEqDiff,Nat.reduceAdd,Nat.reduceLeDiff,Nat.reduceLT,Nat.reduceSub]
  refine qR (n:=n) (sK r R3.1 R3.2) rfl (Mm (aI (uP _))) hO J2.bM fun u H2 p2 hO2 _ hu => ?_
  cases ht:nQ r with
  |
   none =>
   rw[ht] at hu
   have hu:u = .tree [] .nil:=hu
   subst hu
   have Zf:uL m=none:=mapM_none ht (List.mem_of_getElem? hr)
   rw[Zf]
   have s1:bY n 1 (.ptr n 0 0 0) (.agg [.tree [] .nil]) H2=some (H2.set n (.row 0 [.agg [.tree [] .nil]] 1 true)):=by
    rw[dC (bT p2 BG) (by exact Nat.zero_lt_one) (Nat.le_refl _) rfl rfl]
    rfl
   have s2:cO true 1 (.ptr n 0 0 0) (H2.set n (.row 0 [.agg [.tree [] .nil]] 1 true))=some (.agg [.tree [] .nil]):=by
    rw[cH,dA (bT p2 BG)]
    rfl
   simp only[g2,g4,s1,s2,Option.isSome_none,gY,VX,Nat.reduceEqDiff,Nat.reduceAdd,Nat.reduceLeDiff,Nat.reduceLT,Nat.reduceSub]
   exact⟨_,uA (by rw[List.length_set];have:=p2.length_le;omega),rfl,uN,.agg [.tree [] .nil],rfl,_,rfl,.inl ⟨rfl,rfl⟩⟩
  |
   some ys =>
   rw[ht] at hu
   obtain⟨b,g,c,k1,k2,rfl,k3,k4⟩:=hu
   ·have eL:∀K,jM false [.slice none 0 0] 1 [(0,.ref b g 0 ys.length c)] K=some (.tree [.ref b g 0 ys.length c] (.cl 1),K):=fun K=>eW rfl rfl rfl
    have eS:∀K,cM 1 (.tree [.ref b g 0 ys.length c] (.cl 1)) K=some [.ref b g 0 ys.length c]:=fun K=>eG rfl rfl
    obtain⟨v',H3,ap,Vc,bM,hlen,Qb,wD,_⟩:=(hv.bM (cP.pre p2)).snoc (iZ:=n) (by omega) (by rw[mB En,List.length_take];omega) ⟨b,g,c,ys⟩ k1 (by simp only;omega) k3 k4
    have aeF:=bM _ _ _ (by omega) (bT p2 Vj)
    have l1:cO false 1 (.ptr (n+1) 0 0 0) H2=some v:=by
     rw[cH,bT p2 Vj]
     simp[dN,hx]
    have l2:aF H2 (n+1) 0=some ([x],1,true):=bT p2 Vj
    have sE:=Vc.fD
    have s1:bY n 1 (.ptr (n+1) 0 0 0) v' H3=some (H3.set (n+1) (.row 0 [v'] 1 true)):=by
     rw[dC aeF (by exact Nat.zero_lt_one) (by omega) (by rw[sE.2.1];rfl) (by rw[sE.2.1];simp[sE.1])]
     rfl
    have hO3:=(Qb n (by omega) hO2).set (b:=n+1) (g:=0) (e:=1) (es:=[v']) (w:=true) (by omega) (by
     rcases Vc with⟨rfl,_⟩ | ⟨b',g',Va,q1,q2,rfl,_⟩
     ·rfl
     ·simp[kY,dD];omega)
    simp only[g4,g12,wi,eL,eS,l1,ap,s1,aeF,l2,jI,Nat.add_zero,Option.isSome_some,gY,VX,Nat.reduceEqDiff,Nat.reduceAdd,Nat.reduceLeDiff,Nat.reduceLT,Nat.reduceSub]
    refine⟨i+1,by omega,by omega,hO3,⟨v',v',aY++[ys],aM (by omega) (bM _ _ _ (by omega) (bT p2 BG)),dA aeF,sE.2.1,?_,?_⟩,by (repeat' apply And.intro)<;>first | rfl | trivial | assumption⟩
    ·rw[nD hr]
     exact Co En ht
    ·rw[List.length_set]
     exact Vc.bM (cP.set (by omega))
 ·have qG:i=m.length:=by omega
  subst qG
  rw[List.take_length] at En
  rw[En]
  have sE:=hv.fD
  have l1:cO true 1 (.ptr (n+1) 0 0 0) H=some (.agg [v]):=by
   rw[cH,Vj]
   simp[dN,hx]
  have s1:bY n 1 (.ptr n 0 0 0) (.agg [v]) H=some (H.set n (.row 0 [.agg [v]] 1 true)):=by
   rw[dC BG (by exact Nat.zero_lt_one) (Nat.le_refl _) rfl (by simp[aB,sE.1])]
   rfl
  have s2:cO true 1 (.ptr n 0 0 0) (H.set n (.row 0 [.agg [v]] 1 true))=some (.agg [v]):=by
   rw[cH,dA BG]
   rfl
  simp only[pD,g2,g4,g10,g11,g12,dK,l1,s1,s2,Option.isSome_some,gY,VX,Nat.reduceEqDiff,Nat.reduceAdd,Nat.reduceLeDiff,Nat.reduceLT,Nat.reduceSub]
  have Qb:dD n v=true:=by
   rcases hv with⟨rfl,_⟩ | ⟨b',g',Va,q1,q2,rfl,_⟩
   ·rfl
   ·simp[dD];omega
  obtain⟨L,rfl,hL⟩:=hO
  refine⟨L.set 0 (.row 0 [.agg [v]] 1 true),⟨by simp,fun _ _ _ _ _ h=>by rw[A7];exact h⟩,by simp[dD,kY,Qb,jR],?_,.agg [v],rfl,v,rfl,?_⟩
  ·have:=(wB.set (n:=n) (b:=n) (g:=0) (e:=1) (es:=[.agg [v]]) (w:=true) ⟨L,rfl,hL⟩ (Nat.le_refl _) (by simp[kY,dD,Qb]))
   rw[A7] at this
   obtain⟨L',h1,h2⟩:=this
   rw[List.append_cancel_left h1]
   exact h2
  ·rw[←A7,List.length_set]
   have:=hv.rg.bM (H':=(List.replicate n bU.dead++L).set n (.row 0 [.agg [v]] 1 true)) (cP.set (by omega))
   rw[AP] at this
   exact this.wide (by omega) (Nat.le_refl _)
end Go.PM
namespace Go.PM
open Go.Lib
section
variable {g:List (List Rat)} {e row:List Rat} {n i:Nat} {st:List Bool}
end
end Go.PM
namespace Go.PM
def nY:aE:=(LS [LO 2 (.new [(.bool false),(.slice none 0 0),(.slice none 0 0)]),LO 3 (.mv LF)] (LS [LM 7 0,LO 8 (.call 89 [(LT 7)]),LM 6 8,LO 9 (LX 6 0),LO 10 (LX 6 1),LO 4 (.new [(.bool false),(.slice none 0 0),(.slice none 0 0)]),LN (.store 3 (LT 4) (LT 9)),LM 5 10] (LS [LO 11 (LK 4),LM 12 5,LM 13 12,LY 13 14 (LK 4),⟨(some 15),(.call 104 [(LT 14)]),(some (13,true)),true,[]⟩,LY 13 16 (.bin .gtr (LT 15) (LI 0)),LO 17 (.pick (LT 13) (LT 16) LF),LN (.store 3 (LT 2) (LT 11)),LM 3 17] .ret)))
def rJ:aS:=⟨18,[(.cell 2 true 3),(.tmp 3)],nY⟩
theorem Hn:iB 201=some rJ:=by kernel_rfl
end Go.PM
namespace Go.PM
def jF:aE:=(LS [LO 13 (.bin .lss (LT 12) (LT 11))] (.seq (.cond (LT 13) .skip (.exit 0)) (.seq (.block 1 (LS [LO 14 (.iaddr 1 (LT 10) (LT 12)),LO 15 (LL 14),LM 6 15] (LS [LM 17 6,LO 18 (.call 201 [(LT 17)]),LM 16 18,LO 19 (LX 16 0),LO 20 (LX 16 1),LO 7 (.new [(.bool false),(.slice none 0 0),(.slice none 0 0)]),LN (.store 3 (LT 7) (LT 19)),LM 8 20] (.seq (LS [LM 21 8,LO 22 (.un .not (LT 21))] (.cond (LT 22) (LS [LO 2 (.mv (.const (.slice none 0 0))),LO 3 (.mv LF)] .ret) .skip)) (.eO [LM 23 4,LO 24 (LK 7),LO 25 (.lit [(.bool false),(.slice none 0 0),(.slice none 0 0)] 1 [(0,(LT 24))]),LO 26 (.app 3 56 (LT 23) (LT 25)),LM 4 26]))))) (.eO [LO 27 (.bin .add (LT 12) (LI 1)),LM 12 27]))))
def zG:aE:=(LS [LO 2 (.mv (.const (.slice none 0 0))),LO 3 (.mv LF)] (LS [LO 9 (.lit [(.bool false),(.slice none 0 0),(.slice none 0 0)] 0 []),LM 4 9] (.seq (LS [LM 10 0,LO 11 (.len (LT 10)),LO 12 (.mv (LI 0))] (.block 0 (.loop jF))) (LS [LM 28 4,LM 2 28,LO 3 (.mv LG)] .ret))))
def A1:aS:=⟨29,[(.tmp 2),(.tmp 3)],zG⟩
theorem FM:iB 126=some A1:=by kernel_rfl
end Go.PM
namespace Go.PM
open Go.Lib
theorem acP {n k lo hi:Nat} {H:aA} {P:Nat→Nat→aA→VV→Prop} {v:VV} {ok:Bool} (hk:n≤k) (hl:k≤H.length) (hT:Et n k H) (hv:dD n v=true)
  (xD:∀ {lo hi H H' v},P lo hi H v→cP lo hi H H'→P lo hi H' v) (O0:∀ {lo hi iZ nF:Nat} {H:aA} {v:VV},P lo hi H v→iZ≤lo→hi≤nF→P iZ nF H v) (hp:P lo hi H v) (eJ:k≤lo) (hhi:hi≤H.length) :
  ∃L,Ar H (List.replicate n .dead++L)∧dD n (.dQ [v,.sc (.bool ok)])=true∧dL n L=true∧M4 P ok n (.dQ [v,.sc (.bool ok)]) L:=by
 obtain⟨L,k1,k2,k3⟩:=V5 hk hl hT
 refine⟨L,k1,by simp[dD,kY,hv,jR],k2,v,rfl,?_⟩
 have hl3:=k1.1
 rw[List.length_append,List.length_replicate] at hl3
 exact O0 (xD hp (H':=List.replicate n bU.dead++L) fun b g x h1 h2 h3=>k3 b g x (by omega) h3) (by omega) (by omega)
theorem CG.wide {aY:List (List ByteArray)}:∀ {lo hi iZ nF:Nat} {H:aA} {v:VV},CG aY lo hi H v→iZ≤lo→hi≤nF→CG aY iZ nF H v:=by
 rintro lo hi iZ nF H v ⟨c,h1,h2⟩ hl hh
 exact⟨c,h1,h2.wide hl hh⟩
theorem CG.own {n lo hi:Nat} {H:aA} {v:VV} {aY:List (List ByteArray)} (h:CG aY lo hi H v) (hn:n≤lo):∃c,v = .agg [c]∧bA c=true∧aB c=[c]∧dD n c=true:=by
 obtain⟨c,rfl,h | ⟨b,g,cc,rs,h1,h2,rfl,h3⟩⟩:=h
 ·obtain⟨rfl,_⟩:=h
  exact⟨_,rfl,rfl,rfl,rfl⟩
 ·exact⟨_,rfl,rfl,rfl,by simp[dD];omega⟩
theorem DO.wide {s:B0}:∀ {lo hi iZ nF:Nat} {H:aA} {v:VV},DO s lo hi H v→iZ≤lo→hi≤nF→DO s iZ nF H v:=by
 rintro lo hi iZ nF H v ⟨a,b,c,m1,m2,h1,k1,k2,k3,h2,h3,h4⟩ hl hh
 exact⟨a,b,c,m1,m2,h1,by omega,k2,by omega,h2.wide hl (Nat.le_refl _),h3,h4.wide (Nat.le_refl _) hh⟩
theorem Et.aoA {n k:Nat} {H L:aA} (h:Et n k H) (hL:dL n L=true):Et n k (H++L):=by
 intro b g es e w hb hr
 rcases Nat.lt_or_ge b H.length with aV | CC
 ·rw[List.getElem?_append_left aV] at hr
  exact h b g es e w hb hr
 ·rw[List.getElem?_append_right CC] at hr
  exact List.all_eq_true.1 hL _ (List.mem_of_getElem? hr)
theorem Et.start {n:Nat} {H:aA}:Et n H.length H:=fun b g es e w hb hr=>by
 rw[List.getElem?_eq_none hb] at hr
 cases hr
def Ms (o:Option Rat):VV:=match o with
 | none => .dQ [Ew,VB false]
 | some q => .dQ [bD q,VB (decide (0<q))]
theorem Yn (o:Option Rat):fY (Ms o)=true:=by
 unfold Ms
 split<;>simp[fY,oJ,Ed,HP,jR]
theorem Hj (x:ByteArray) (hx:x.size≤1000000000):TC 201 [sV x] (Ms (pQ x)):=by
 refine TC.walk ⟨true,false⟩ Hn rfl (Nat.le_of_ble_eq_true rfl) rfl (Yn _) ?_
 have e2:=IN x.data.toList (by rw[Array.length_toList];show x.size≤_;omega)
 rw[←Yo] at e2
 cases hp:pQ x with
 |
  none =>
  rw[Py hp] at e2
  simp only[rJ,nY,e2,Ms,Bd,Dt,IW,cW,cV,cI,qF,Nat.reduceLeDiff,Nat.reduceLT,Nat.reduceSub,Ec,mF,oW,sF,yJ,Al,bne_iff_ne,ne_eq,not_false_eq_true,not_true_eq_false,gY,VX,Nat.reduceEqDiff,Nat.reduceAdd,Nat.reduceLeDiff,Nat.reduceLT,Nat.reduceSub]
  exact aI (tQ TD rfl)
 |
  some q =>
  rw[Ok hp] at e2
  have e1:=G9 q
  by_cases h:0<q
  ·have h':=Ky.2 h
   simp only[rJ,nY,e1,e2,Ms,h',h,decide_true,aL,tJ,vX,cW,cV,cI,qF,Nat.reduceLeDiff,Nat.reduceLT,Nat.reduceSub,Ec,mF,oW,sF,yJ,Al,bne_iff_ne,ne_eq,not_false_eq_true,not_true_eq_false,gY,VX,Nat.reduceEqDiff,Nat.reduceAdd,Nat.reduceLeDiff,Nat.reduceLT,Nat.reduceSub]
   exact aI (tQ (lI _) rfl)
  ·have h':¬0<CF q:=fun k=>h (Ky.1 k)
   simp only[rJ,nY,e1,e2,Ms,h',h,decide_false,aL,tJ,vX,cW,cV,cI,qF,Nat.reduceLeDiff,Nat.reduceLT,Nat.reduceSub,Ec,mF,oW,sF,yJ,Al,bne_iff_ne,ne_eq,not_false_eq_true,not_true_eq_false,gY,VX,Nat.reduceEqDiff,Nat.reduceAdd,Nat.reduceLeDiff,Nat.reduceLT,Nat.reduceSub]
   exact aI (tQ (lI _) rfl)
def FF (x:ByteArray):Option Rat:=match pQ x with
 | some q=>if 0<q then some q else none
 | none=>none
def F1 (xs:List ByteArray):Option (List Rat):=xs.mapM FF
theorem Ld {x:ByteArray} {q:Rat} (h:FF x=some q):pQ x=some q∧0<q:=by
 unfold FF at h
 split at h
 ·rename_i p hp
  split at h
  ·rename_i h0
   cases h
   exact⟨hp,h0⟩
  ·cases h
 ·cases h
theorem Zm {x:ByteArray} {q:Rat} (h:pQ x=some q):fK q≤665:=by
 have h1:uC [x]=some [q]:=by
  unfold uC
  rw[if_pos (by simp),List.mapM_cons,h]
  rfl
 exact(HZ h1).1 q List.mem_cons_self
theorem Fu {xs:List ByteArray} {qs:List Rat} (h:F1 xs=some qs):qs.length=xs.length∧∀q∈qs,fK q≤665∧0<q :=
 ⟨mB h,fun q hq=>mapM_mem (P:=fun q=>fK q≤665∧0<q) (fun x q hx=>⟨Zm (Ld hx).1,(Ld hx).2⟩) h q hq⟩
set_option maxHeartbeats 1000000 in
theorem FV (xs:List ByteArray) (hn:xs.length≤1000000000) (hs:∀s∈xs,s.size≤1000000000):TC 126 [jX xs] (PD (F1 xs)):=by
 refine TC.walk ⟨true,false⟩ FM rfl (Nat.le_of_ble_eq_true rfl) (by simp[aP,kS]) (T7 _) ?_
 unfold F1
 have e0:=fun H=>iN (H:=H) (lr:=false) (z:=[.bool false,.slice none 0 0,.slice none 0 0]) rfl
 simp only[A1,zG,e0,gY,VX,Nat.reduceEqDiff,Nat.reduceAdd,Nat.reduceLeDiff,Nat.reduceLT,Nat.reduceSub]
 refine I8 (fun(s:Nat×List Rat) ρ H=>s.1≤xs.length∧(xs.take s.1).mapM FF=some s.2∧H=[.row s.1 (s.2.map bD) 3 true]∧ρ 4 = .ref 0 s.1 0 s.1 s.1∧ρ 10=jX xs∧ρ 11=VI xs.length∧ρ 12=VI s.1) (fun s=>xs.length-s.1) (0,[]) ⟨Nat.zero_le _,rfl,rfl,rfl,rfl,rfl,rfl⟩ ?_
 rintro⟨i,out⟩ ρ H ⟨hi,Ii,rfl,g4,g10,g11,g12⟩
 simp only at hi Ii g4 g12
 have iW:out.length=i:=by rw[mB Ii,List.length_take];omega
 by_cases dK:(i:Int)<(xs.length:Int)
 ·obtain⟨x,hx⟩:∃x,xs[i]? = some x:=⟨_,List.getElem?_eq_getElem (by omega)⟩
  have hxm:=List.mem_of_getElem? hx
  have e1:=fun H=>aK (f:=sV) (t := .op) (H:=H) (size:=1) (k := .i64) hx rfl
  have wi:IntKind.i64.wrap ((i:Int)+1)=((i+1:Nat):Int):=wrapN (i+1) (by omega) (by omega)
  have e2:=Hj x (hs x hxm)
  cases hp:pQ x with
  |
   none =>
   rw[hp] at e2
   have hq:FF x=none:=by unfold FF;rw[hp]
   rw[mapM_none hq hxm]
   simp only[Ms] at e2
   simp only[jF,g4,g10,g11,g12,dK,e1,e2,Bd,Dt,IW,cW,cV,cI,qF,Nat.reduceLeDiff,Nat.reduceLT,Nat.reduceSub,Ec,mF,oW,sF,yJ,Al,bne_iff_ne,ne_eq,not_false_eq_true,not_true_eq_false,gY,VX,Nat.reduceEqDiff,Nat.reduceAdd,Nat.reduceLeDiff,Nat.reduceLT,Nat.reduceSub]
   exact MK
  |
   some q =>
   rw[hp] at e2
   by_cases h0:0<q
   ·simp only[Ms,decide_eq_true h0] at e2
    have hq:FF x=some q:=by unfold FF;rw[hp];exact if_pos h0
    have eL:∀H,jM false [.bool false,.slice none 0 0,.slice none 0 0] 1 [(0,bD q)] H=some (.tree [bD q] (.cl 3),H):=fun H=>eW rfl rfl rfl
    have eS:∀H,cM 3 (.tree [bD q] (.cl 3)) H=some [bD q]:=fun H=>eG rfl rfl
    have eP:eH 0 3 56 (.ref 0 i 0 i i) [bD q] [.row i (out.map bD) 3 true,.row 0 [bD q] 3 true]=some (.ref 0 (i+1) 0 (i+1) (i+1),[.row (i+1) ((out++[q]).map bD) 3 true,.row 0 [bD q] 3 true]):=by
     rw[iF (f:=bD) (xs:=out) (by rw[aT]) iW.symm (Nat.le_refl _) (by decide) (by decide) (by omega),List.set_cons_zero]
    simp only[jF,g4,g10,g11,g12,dK,e1,e2,eL,eS,eP,wi,aL,tJ,vX,cW,cV,cI,qF,Nat.reduceLeDiff,Nat.reduceLT,Nat.reduceSub,Ec,mF,oW,sF,yJ,Al,bne_iff_ne,ne_eq,not_false_eq_true,not_true_eq_false,gY,VX,Nat.reduceEqDiff,Nat.reduceAdd,Nat.reduceLeDiff,Nat.reduceLT,Nat.reduceSub]
    refine⟨(i+1,out++[q]),by simp only;omega,?_,by simp only;omega,by simp only[nD hx];exact Co Ii hq,rfl,?_⟩
    ·rw[zB (kL _ (eX lI)),Fx]
    ·simp only[qX,g10,g11,yP (kS _),FT (Nat.lt_succ_self 0),VX,Nat.reduceEqDiff,Nat.reduceAdd,List.take_zero,iG,List.all_nil,List.length_nil,qX,Jb,yP]
   ·simp only[Ms,decide_eq_false h0] at e2
    have hq:FF x=none:=by unfold FF;rw[hp];exact if_neg h0
    rw[mapM_none hq hxm]
    simp only[jF,g4,g10,g11,g12,dK,e1,e2,aL,tJ,vX,cW,cV,cI,qF,Nat.reduceLeDiff,Nat.reduceLT,Nat.reduceSub,Ec,mF,oW,sF,yJ,Al,bne_iff_ne,ne_eq,not_false_eq_true,not_true_eq_false,gY,VX,Nat.reduceEqDiff,Nat.reduceAdd,Nat.reduceLeDiff,Nat.reduceLT,Nat.reduceSub]
    exact MK
 ·have qG:i=xs.length:=by omega
  subst qG
  rw[List.take_length] at Ii
  rw[Ii]
  simp only[jF,g4,g10,g11,g12,dK,gY,VX,Nat.reduceEqDiff,Nat.reduceAdd,Nat.reduceLeDiff,Nat.reduceLT,Nat.reduceSub]
  refine bJ (d:=6) ?_ (aH (v:=VB true) rfl)
  have:=NK (d:=5) (w:=true) (f:=bD) (e:=3) (b:=0) (g:=xs.length) (c:=xs.length) (xs:=out) (H:=[.row xs.length (out.map bD) 3 true]) lI (by rw[aT]) (by omega)
  rw[iW] at this
  exact this
def MZ (f:Rat→VV) (b:List Rat) (g:List (List Rat)) (e:List Rat):VV := .agg [bK f b,bK (bK f) g,bK f e]
def nH:B0:=⟨[],[],[]⟩
def gX (b:List Rat) (g:List (List Rat)) (e:List Rat):Option B0:=match nQ b,uL g,nQ e with
 | some x,some y,some z=>if b.length≤6 then some ⟨x,y,z⟩ else none
 | _,_,_=>none
theorem J2.aaD {α:Type} {f:α→VV} {e lo hi:Nat} {H:aA} {v:VV} {o:Option (List α)} (h:J2 f e o lo hi H v):bA v=true∧aB v=[v]∧isAny v=false:=by
 cases o with
 |
  none =>
  have h:v = .tree [] .nil:=h
  subst h
  exact⟨rfl,rfl,rfl⟩
 |
  some ys =>
  obtain⟨b,g,c,h1,h2,rfl,h3⟩:=h
  exact⟨rfl,rfl,rfl⟩
theorem Pw {lo hi:Nat} {H:aA} (h:lo≤hi):DO nH lo hi H (.agg [.tree [] .nil,.tree [] .nil,.tree [] .nil]) :=
 ⟨_,_,_,lo,lo,rfl,Nat.le_refl _,Nat.le_refl _,h,.inl ⟨rfl,rfl⟩,.inl ⟨rfl,rfl⟩,.inl ⟨rfl,rfl⟩⟩
set_option maxHeartbeats 4000000 in
theorem Df (b:List Rat) (g:List (List Rat)) (e:List Rat) (hb:b.length≤1000000∧∀q∈b,fK q≤1099511627776) (hg:g.length≤1000000∧∀r∈g,r.length≤1000000∧∀q∈r,fK q≤1099511627776) (he:e.length≤1000000∧∀q∈e,fK q≤1099511627776) :
  FC 129 [MZ bD b g e] (M4 (DO ((gX b g e).getD nH)) (gX b g e).isSome):=by
 refine FC.D6 ⟨true,false⟩ DJ (Nat.le_of_ble_eq_true rfl) fun n => ?_
 simp only[yW,tS,MZ,gL,List.getElem?_cons_zero,List.getElem?_cons_succ,AP,List.length_replicate,gY,VX,Nat.reduceEqDiff,Nat.reduceAdd,Nat.reduceLeDiff,Nat.reduceLT,Nat.reduceSub]
 generalize PU:List.replicate n bU.dead++[bU.row 0 [.agg [.tree [] .nil,.tree [] .nil,.tree [] .nil]] 3 true]=H0
 have hO0:wB n H0:=⟨[.row 0 [.agg [.tree [] .nil,.tree [] .nil,.tree [] .nil]] 3 true],PU.symm,rfl⟩
 have BG:aF H0 n 0=some ([.agg [.tree [] .nil,.tree [] .nil,.tree [] .nil]],3,true):=by rw[←PU,tC,aT]
 have wX:H0.length=n+1:=by rw[←PU];simp
 refine qR (n:=n) (sK b hb.1 hb.2) rfl (Mm (aI (uP _))) hO0 J2.bM fun u H1 p1 hO1 hou hu => ?_
 simp only[gL,List.getElem?_cons_zero,List.getElem?_cons_succ,gY,VX,Nat.reduceEqDiff,Nat.reduceAdd,Nat.reduceLeDiff,Nat.reduceLT,Nat.reduceSub]
 refine qR (n:=n) (Fo g hg.1 hg.2) rfl (Mm (aI (Ya _))) hO1 CG.bM fun w H2 p2 hO2 how hw => ?_
 obtain⟨c,rfl,hc⟩:=hw
 have Rb:bA c=true∧aB c=[c]∧isAny c=false:=by
  rcases hc with⟨rfl,_⟩ | ⟨b,g,cc,rs,h1,h2,rfl,h3⟩<;>exact⟨rfl,rfl,rfl⟩
 have hoc:dD n c=true:=by
  simp only[dD,kY,Bool.and_eq_true] at how
  exact how.1
 have s1:bY n 1 (.ptr H2.length 0 0 0) (.agg [c]) (H2++[bU.row 0 [.tree [] .nil] 1 true])=some (H2++[bU.row 0 [.agg [c]] 1 true]):=by
  rw[dC (e:=1) (g:=0) (j:=0) dY (by exact Nat.zero_lt_one) hO2.len rfl (by simp[aB,Rb.1]),xZ]
  rfl
 simp only[s1,gL,rI,List.getElem?_cons_zero,List.getElem?_cons_succ,gY,VX,Nat.reduceEqDiff,Nat.reduceAdd,Nat.reduceLeDiff,Nat.reduceLT,Nat.reduceSub]
 have aoJ:wB n (H2++[bU.row 0 [.agg [c]] 1 true]):=hO2.app (by simp[kY,dD,hoc])
 generalize hH2:H2++[.row 0 [.agg [c]] 1 true]=H2' at *
 have RP:H2 <+: H2':=⟨_,hH2⟩
 have hr6:aF H2' H2.length 0=some ([.agg [c]],1,true):=by rw[←hH2];exact dY
 refine qR (n:=n) (sK e he.1 he.2) rfl (Mm (aI (uP _))) aoJ J2.bM fun z H3 p3 hO3 hoz hz => ?_
 have anA:H0 <+: H3:=p1.trans (p2.trans (RP.trans p3))
 have OO:=bT anA BG
 have ajE:=bT p3 hr6
 have anZ:=p1.length_le
 have amW:=p2.length_le
 have apC:=p3.length_le
 have auW:=RP.length_le
 have hcu:=hu.aaD
 have hcz:=hz.aaD
 have fin:∀(a1 a2 a3:VV),bA a1=true→bA a2=true→bA a3=true →
   bY n 3 (.ptr n 0 0 0) (.agg [a1,a2,a3]) H3=some (H3.set n (.row 0 [.agg [a1,a2,a3]] 3 true))∧cO true 3 (.ptr n 0 0 0) (H3.set n (.row 0 [.agg [a1,a2,a3]] 3 true))=some (.agg [a1,a2,a3]):=fun a1 a2 a3 h1 h2 h3=>by
  constructor
  ·rw[dC OO (by exact Nat.zero_lt_one) (Nat.le_refl _) rfl (by simp[aB,h1,h2,h3])]
   rfl
  ·rw[cH,dA OO]
   rfl
 obtain⟨f1,f2⟩:=fin (.tree [] .nil) (.tree [] .nil) (.tree [] .nil) rfl rfl rfl
 have ld6:cO false 1 (.ptr H2.length 0 0 0) H3=some c:=by
  rw[cH,ajE]
  rfl
 have bad:gX b g e=none→∃L,Ar (H3.set n (.row 0 [.agg [.tree [] .nil,.tree [] .nil,.tree [] .nil]] 3 true)) (List.replicate n .dead++L)∧dD n (.dQ [.agg [.tree [] .nil,.tree [] .nil,.tree [] .nil],.sc (.bool false)])=true∧dL n L=true∧M4 (DO ((gX b g e).getD nH)) (gX b g e).isSome n (.dQ [.agg [.tree [] .nil,.tree [] .nil,.tree [] .nil],.sc (.bool false)]) L:=fun M6=>by
  rw[M6]
  exact⟨_,uA (by rw[List.length_set];omega),rfl,uN,_,rfl,Pw (Nat.le_add_right _ _)⟩
 cases oQ:nQ b with
 |
  none =>
  have M6:gX b g e=none:=by unfold gX;rw[oQ]
  have bad:=bad M6
  cases uL g<;>cases nQ e <;>
  ·simp only[gL,List.getElem?_cons_zero,List.getElem?_cons_succ,f1,f2,Option.isSome_none,Option.isSome_some,gY,VX,Nat.reduceEqDiff,Nat.reduceAdd,Nat.reduceLeDiff,Nat.reduceLT,Nat.reduceSub]
   exact bad
 |
  some x =>
  cases TA:uL g with
  |
   none =>
   have M6:gX b g e=none:=by unfold gX;rw[oQ,TA]
   have bad:=bad M6
   cases nQ e <;>
   ·simp only[gL,List.getElem?_cons_zero,List.getElem?_cons_succ,f1,f2,Option.isSome_none,Option.isSome_some,gY,VX,Nat.reduceEqDiff,Nat.reduceAdd,Nat.reduceLeDiff,Nat.reduceLT,Nat.reduceSub]
    exact bad
  |
   some y =>
   cases Xq:nQ e with
   |
    none =>
    have M6:gX b g e=none:=by unfold gX;rw[oQ,TA,Xq]
    have bad:=bad M6
    simp only[gL,List.getElem?_cons_zero,List.getElem?_cons_succ,f1,f2,Option.isSome_none,Option.isSome_some,gY,VX,Nat.reduceEqDiff,Nat.reduceAdd,Nat.reduceLeDiff,Nat.reduceLT,Nat.reduceSub]
    exact bad
   |
    some z' =>
    by_cases h6:(6:Int)<(b.length:Int)
    ·have M6:gX b g e=none:=by unfold gX;rw[oQ,TA,Xq];exact if_neg (by omega)
     have bad:=bad M6
     simp only[gL,List.getElem?_cons_zero,List.getElem?_cons_succ,f1,f2,h6,Option.isSome_none,Option.isSome_some,gY,VX,Nat.reduceEqDiff,Nat.reduceAdd,Nat.reduceLeDiff,Nat.reduceLT,Nat.reduceSub]
     exact bad
    ·have adF:gX b g e=some ⟨x,y,z'⟩:=by unfold gX;rw[oQ,TA,Xq];exact if_pos (by omega)
     rw[adF]
     rw[oQ] at hu
     rw[TA] at hc
     rw[Xq] at hz
     obtain⟨f3,f4⟩:=fin u c z hcu.1 Rb.1 hcz.1
     simp only[gL,List.getElem?_cons_zero,List.getElem?_cons_succ,f3,f4,h6,ld6,ajE,hcu,Rb,hcz,jI,Nat.add_zero,Option.isSome_some,qF,Nat.reduceLeDiff,Nat.reduceLT,Nat.reduceSub,gY,VX,Nat.reduceEqDiff,Nat.reduceAdd,Nat.reduceLeDiff,Nat.reduceLT,Nat.reduceSub]
     have hO4:wB n (H3.set n (.row 0 [.agg [u,c,z]] 3 true)):=hO3.set (Nat.le_refl _) (by simp[kY,dD,hou,hoc,hoz])
     obtain⟨L,X3,hL2⟩:=hO4
     have hlen:n+L.length=H3.length:=by
      have:=congrArg List.length X3
      rw[List.length_set,List.length_append,List.length_replicate] at this
      exact this.symm
     refine⟨L,⟨by rw[X3],fun _ _ _ _ _ h=>by rw[X3];exact h⟩,by simp[dD,kY,hou,hoc,hoz,jR],hL2,_,rfl,u,c,z,H1.length,H2'.length,rfl,by omega,by omega,by omega,?_,?_,?_⟩
     ·rw[←X3]
      refine(J2.lg (J2.bM hu ?_)).wide (by omega) (Nat.le_refl _)
      exact(cP.pre (p2.trans (RP.trans p3))).trans (cP.set (by omega))
     ·rw[←X3]
      refine((hc.bM ?_).wide (Nat.le_refl _) (by omega))
      exact(cP.pre (RP.trans p3)).trans (cP.set (by omega))
     ·rw[←X3,hlen]
      refine(J2.lg (J2.bM hz ?_))
      exact cP.set (by omega)
end Go.PM
namespace Go.PM
open Go.Lib
theorem XC (d:Nat) (h:d≤9223372036854775807):TC 235 [VI (d:Int)] (aO (decDigits d)):=by
 have:=J1 (d:Int) (by omega) (by omega)
 rw[if_neg (by omega),List.nil_append,Int.natAbs_natCast] at this
 exact this
theorem WA {n i:Nat} (hi:i+1=(aC 1000000000 n).length):n / 1000000000^i=n / 1000000000^i % 1000000000:=by
 have h1:=Uh (b:=1000000000) (by decide) n (i+1)
 rw[List.drop_of_length_le (by omega)] at h1
 have h2:=(kD (b:=1000000000) (by decide)).1 h1.symm
 rw[zY] at h2
 rcases Nat.div_eq_zero_iff.1 h2 with h | h
 ·exact absurd h (by decide)
 ·exact(Nat.mod_eq_of_lt h).symm
theorem Gp (l:List UInt8) (a b:Nat):(⟨l.toArray⟩:ByteArray).extract a b=⟨((l.drop a).take (b-a)).toArray⟩:=by
 rw[ByteArray.ext_iff,ByteArray.data_extract]
 simp[List.extract_toArray,List.extract_eq_take_drop]
theorem Xl (l:List UInt8) {a b:Nat} (h:a≤b) (hb:b≤l.length):rO (aO l) (some (VI (a:Int))) (some (VI (b:Int)))=some (aO ((l.drop a).take (b-a))):=by
 have hs:(⟨l.toArray⟩:ByteArray).size=l.length:=by simp[ByteArray.size]
 have e1:(0:Int)≤b∧(b:Int)≤(l.length:Int):=by omega
 have e2:(0:Int)≤a∧(a:Int)≤(b:Int):=by omega
 simp only[rO,DH,wJ,hs,eA,e1,e2,and_self,if_true,Int.toNat_natCast,Gp]
theorem Kw (l:List UInt8) {a:Nat} (h:a≤l.length):rO (aO l) (some (VI (a:Int))) none=some (aO (l.drop a)):=by
 have hs:(⟨l.toArray⟩:ByteArray).size=l.length:=by simp[ByteArray.size]
 have e2:(0:Int)≤a∧(a:Int)≤(l.length:Int):=by omega
 simp only[rO,DH,wJ,hs,eA,e2,and_self,if_true,Int.toNat_natCast,Gp]
 rw[List.take_of_length_le (by simp)]
theorem aiH (l:List UInt8) (h:1≤l.length):rO (aO l) (some (VI 1)) none=some (aO (l.drop 1)):=Kw l h
theorem UC {a:Nat} (h:a<1000000000):IntKind.i64.wrap ((a:Int)+1000000000)=((a+1000000000:Nat):Int):=wrapN _ (by omega) (by omega)
theorem lS (n:Nat) (hn:bl n≤2199023255552):TC 212 [cJ n] (aO (decDigits n)):=by
 refine TC.walk ⟨true,false⟩ DS rfl (Nat.le_of_ble_eq_true rfl) (by simp[aP,cS]) rfl ?_
 by_cases h0:n=0
 ·subst h0
  have hl:(((aC 1000000000 0).length:Nat):Int)=0:=by rw[bQ];rfl
  simp only[sA,qE,eQ,hl,VX,Nat.reduceEqDiff,Nat.reduceAdd]
  rw[gN (by decide)]
  exact aI rfl
 have hl:¬(((aC 1000000000 n).length:Nat):Int)=0:=by have:=(Ek (n:=n)).2 h0;omega
 obtain⟨L,hL⟩:∃L,(aC 1000000000 n).length=L+1:=⟨(aC 1000000000 n).length-1,by omega⟩
 have BH:=UG (n:=n) (by omega)
 have hlT:=abE n
 have hdl:=xT n
 have w1:IntKind.i64.wrap (((L+1:Nat):Int)-1)=(L:Int):=wrapN _ (by omega) (by omega)
 have w2:IntKind.i64.wrap (((L+1:Nat):Int)-2)=(L:Int)-1:=by rw[wrap64 (by omega) (by omega)];omega
 have at':∀i,i≤L→bI 1 (cJ n) (VI (i:Int)) []=some (.cY (tV (n / 1000000000^i % 1000000000)) 0):=fun i hi=>aK (f:=tV) (t := .op) (H:=[]) (size:=1) (k := .i64) (N4 (b:=1000000000) (by decide) (n:=n) (i:=i) (by omega)) rfl
 have eL:=at' L (Nat.le_refl _)
 have WO:=WA (n:=n) (i:=L) (by omega)
 rw[←WO] at eL
 have M8:n / 1000000000^L≠0:=(Hx (b:=1000000000) (by decide)).1 (by omega)
 have hqT:n / 1000000000^L<1000000000:=by rw[WO];exact Nat.mod_lt _ (by decide)
 have c1:=XC (n / 1000000000^L) (by omega)
 rw[hL] at hl
 simp only[sA,qE,eQ,hL,hl,w1,w2,eL,c1,VX,Nat.reduceEqDiff,Nat.reduceAdd]
 refine aR (fun(j:Nat) ρ H=>j≤L∧H=[]∧ρ 0=cJ n∧ρ 3=aO (decDigits (n / 1000000000^j))∧ρ 4=VI ((j:Int)-1)) (fun j=>j) L ⟨Nat.le_refl _,rfl,rfl,rfl,rfl⟩ ?_
 rintro j ρ H ⟨hj,rfl,g0,g3,g4⟩
 by_cases hz:(0:Int)≤(j:Int)-1
 ·obtain⟨i,rfl⟩:∃i,j=i+1:=⟨j-1,by omega⟩
  have M3:((i+1:Nat):Int)-1=(i:Int):=by omega
  rw[M3] at g4 hz
  have e1:=at' i (by omega)
  have hm:=Nat.mod_lt (n / 1000000000^i) (show 0<1000000000 by decide)
  have hq1:n / 1000000000^(i+1)≠0:=(Hx (b:=1000000000) (by decide)).1 (by omega)
  have hdm:=Nat.mod_add_div (n / 1000000000^i) 1000000000
  rw[←zY] at hdm
  have hch:=FZ (Nat.pos_of_ne_zero hq1) hm
  have hle:n / 1000000000^i≤n:=Nat.div_le_self _ _
  have W8:=xT (n / 1000000000^i)
  have hbi:=BW hle
  rw[show n / 1000000000^(i+1)*1000000000+n / 1000000000^i % 1000000000=n / 1000000000^i by omega] at hch
  generalize hAA:n / 1000000000^i=A at *
  generalize n / 1000000000^(i+1)=B at *
  have w4:IntKind.i64.wrap ((i:Int)-1)=(i:Int)-1:=wrap64 (by omega) (by omega)
  have c2:=XC (A % 1000000000+1000000000) (by omega)
  rw[Z4 hm] at c2
  have e2:=aiH (d10 1::AZ 9 (A % 1000000000)) (by simp)
  rw[List.drop_succ_cons,List.drop_zero] at e2
  have hlen:=congrArg List.length hch
  rw[List.length_append] at hlen
  have a1:=oB (decDigits B) (AZ 9 (A % 1000000000)) (by omega)
  rw[←hch] at a1
  have apJ:i≤L:=by omega
  have hmu:i<i+1:=by omega
  have w3:=UC hm
  simp only[oO,g0,g3,g4,hz,e1,w3,w4,c2,e2,a1,VX,Nat.reduceEqDiff,Nat.reduceAdd]
  refine⟨i,hmu,apJ,?_⟩
  rw[hAA]
  exact⟨rfl,rfl⟩
 ·have Qn:j=0:=by omega
  subst Qn
  rw[Nat.pow_zero,Nat.div_one] at g3
  simp only[oO,g0,g3,g4,hz,VX,Nat.reduceEqDiff,Nat.reduceAdd]
  exact aI rfl
theorem IS (q:Rat) (hk:fK q≤1099511627776):TC 176 [bS q] (VB (sS q)):=by
 refine TC.walk ⟨true,false⟩ JA rfl (Nat.le_of_ble_eq_true rfl) (by simp[aP,tI]) rfl ?_
 have la:=Rz hk
 have lb:=P0 hk
 have t1:=lS q.num.natAbs (by omega)
 have t2:=lS q.den (by omega)
 have hf:sS q=(decide (((decDigits q.num.natAbs).length:Int)≤200)&&decide (((decDigits q.den).length:Int)≤200)):=by
  unfold sS
  congr 1<;>exact decide_eq_decide.2 (by omega)
 rw[hf]
 by_cases hl:((decDigits q.num.natAbs).length:Int)≤200
 ·simp only[zO,uB,t1,t2,hl,bC,fS,vH,yV,xW,bF,qF,Nat.reduceLeDiff,Nat.reduceLT,Nat.reduceSub,VX,Nat.reduceEqDiff,Nat.reduceAdd]
  exact aI rfl
 ·simp only[zO,uB,t1,t2,hl,bC,fS,vH,yV,xW,bF,qF,Nat.reduceLeDiff,Nat.reduceLT,Nat.reduceSub,VX,Nat.reduceEqDiff,Nat.reduceAdd]
  exact aI rfl
theorem Jn (q:Rat) (hk:fK q≤1099511627776):TC 163 [bS q] (aO (CE q)):=by
 refine TC.walk ⟨true,false⟩ HM rfl (Nat.le_of_ble_eq_true rfl) (by simp[aP,tI]) rfl ?_
 have la:=Rz hk
 have lb:=P0 hk
 have t1:=lS q.num.natAbs (by omega)
 have t2:=lS q.den (by omega)
 have d1:=xT q.num.natAbs
 have d2:=xT q.den
 have c1:∀lo H K,_:=fun lo H K=>Mc (n:=q.den) (lo:=lo) (H:=H) (K:=K) (Nat.le_of_lt (UG (by omega)))
 have a1:dB .add (.string ⟨#[45]⟩) (.string ⟨(decDigits q.num.natAbs).toArray⟩)=some (.string ⟨(45::decDigits q.num.natAbs).toArray⟩):=oB [45] _ (by simp only[List.length_cons,List.length_nil];omega)
 have a2:dB .add (.string ⟨#[47]⟩) (.string ⟨(decDigits q.den).toArray⟩)=some (.string ⟨(47::decDigits q.den).toArray⟩):=oB [47] (decDigits q.den) (by simp only[List.length_cons,List.length_nil];omega)
 have a3:=oB (45::decDigits q.num.natAbs) (47::decDigits q.den) (by simp only[List.length_cons];omega)
 have a4:=oB (decDigits q.num.natAbs) (47::decDigits q.den) (by simp only[List.length_cons];omega)
 have hs:CE q=(if q.num<0 then (45::decDigits q.num.natAbs) else decDigits q.num.natAbs)++(if q.den=1 then [] else 47::decDigits q.den):=by
  unfold CE
  by_cases hn:q.num<0
  ·rw[if_pos hn,if_pos hn];rfl
  ·rw[if_neg hn,if_neg hn];rfl
 rw[hs]
 by_cases hd:kZ q.den 1=0
 ·rw[if_pos (K7.1 hd),List.append_nil]
  by_cases hn:q.num<0
  all_goals
   simp only[Ai,uE,t1,t2,a1,a2,a3,a4,c1,hd,hn,fU,fS,vH,yV,xW,bF,qF,Nat.reduceLeDiff,Nat.reduceLT,Nat.reduceSub,VX,Nat.reduceEqDiff,Nat.reduceAdd]
   exact aI rfl
 ·rw[if_neg (mt K7.2 hd)]
  by_cases hn:q.num<0
  all_goals
   simp only[Ai,uE,t1,t2,a1,a2,a3,a4,c1,hd,hn,fU,fS,vH,yV,xW,bF,qF,Nat.reduceLeDiff,Nat.reduceLT,Nat.reduceSub,VX,Nat.reduceEqDiff,Nat.reduceAdd]
   exact aI rfl
theorem HL (q:Rat) (hk:fK q≤1099511627776):TC 93 [bS q] (Pn q):=by
 refine TC.walk ⟨true,false⟩ Io rfl (Nat.le_of_ble_eq_true rfl) (by simp[aP,tI]) (T3 q) ?_
 have t1:=IS q hk
 have t2:=Jn q hk
 unfold Pn
 by_cases h:sS q=true
 ·rw[h] at t1
  rw[if_pos h]
  simp only[Ao,uW,t1,t2,fS,nX,vR,bF,qF,Nat.reduceLeDiff,Nat.reduceLT,Nat.reduceSub,VX,Nat.reduceEqDiff,Nat.reduceAdd]
  exact aI rfl
 ·have h':sS q=false:=by simpa using h
  rw[h'] at t1
  rw[if_neg h]
  simp only[Ao,uW,t1,fS,nX,vR,bF,qF,Nat.reduceLeDiff,Nat.reduceLT,Nat.reduceSub,VX,Nat.reduceEqDiff,Nat.reduceAdd]
  exact aI rfl
end Go.PM