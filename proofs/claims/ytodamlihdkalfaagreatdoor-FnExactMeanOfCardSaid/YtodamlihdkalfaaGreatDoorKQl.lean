/- Texts of a claim, in one: part 12. -/
import Derived.Lib.LaidTab
import Derived.LaidLaws
import Derived.LaidMore
import Derived.MakeChecks
import Derived.Handed
import Derived.Test.YtodamlihdkalfaaGreatDoorKQk
set_option linter.unusedSimpArgs false
set_option linter.unusedVariables false
namespace Go.PM
def Hb (cs:List eV) (i:Nat):Int:=((cs[i]?).map (·.t)).getD 0
def S4 (cs:List eV) (i:Nat):Int:=((cs[i]?).map (·.w)).getD 0
def klC (cs:List eV) (i:Nat):Int:=((cs[i]?).map (·.k)).getD 0
def Ea (st:List Int) (i:Nat):Int:=(st[i]?).getD 0
theorem PL {cs:List eV} {i:Nat} {x:eV} (h:cs[i]? = some x):Hb cs i=x.t:=by simp[Hb,h]
theorem abE {cs:List eV} {i:Nat} {x:eV} (h:cs[i]? = some x):S4 cs i=x.w:=by simp[S4,h]
theorem W2 {st:List Int} {i:Nat} {x:Int} (h:st[i]? = some x):Ea st i=x:=by simp[Ea,h]
def YK (cs:List eV) (st:List Int) (t:Int) (i:Nat):Bool:=decide (0≤Ea st i)&&decide (Ea st i≤t)&&decide (t<Ea st i+S4 cs i)
def bz (cs:List eV) (st:List Int) (t:Int):Nat:=(List.range cs.length).countP (YK cs st t)
def isW (cs:List eV) (st:List Int) (t:Int) (i:Nat):Bool:=decide (Ea st i<0)&&decide (Hb cs i≤t)
def wt (cs:List eV) (st:List Int) (t:Int):List Nat:=(List.range cs.length).filter (isW cs st t)
def Hh (bG:Int) (cs:List eV) (i k:Nat):Bool :=
 if bG=1 then true else if bG=2 then decide (S4 cs i<S4 cs k) else if bG=3 then decide (klC cs i<klC cs k) else false
def wY (bG:Int) (cs:List eV) (b:Option Nat) (i:Nat):Option Nat:=match b with
 | none=>some i
 | some k=>if Hh bG cs i k then some i else some k
def X8 (bG:Int) (cs:List eV) (st:List Int) (t:Int):Option Nat:=(wt cs st t).foldl (wY bG cs) none
def fill (bG jX:Int) (cs:List eV) (t:Int):Nat→List Int→List Int
 | 0,st=>st
 |
  n+1,st=>if (bz cs st t:Int)<jX then (match X8 bG cs st t with
  | none=>st
  | some k=>fill bG jX cs t n (st.set k t)) else st
def full (bG jX:Int) (cs:List eV) (st:List Int) (t:Int):Prop:=jX≤(bz cs st t:Int)∨X8 bG cs st t=none
def runT (bG jX:Int) (cs:List eV):Int→Nat→List Int→List Int
 | _,0,st=>st
 | t,n+1,st=>runT bG jX cs (t+1) n (fill bG jX cs t cs.length st)
def stL (bG jX:Int) (cs:List eV):List Int:=runT bG jX cs 0 100000 (List.replicate cs.length (-1))
section
variable {bG jX:Int} {cs:List eV} {st:List Int} {t:Int}
theorem tZ (h:full bG jX cs st t) (n:Nat):fill bG jX cs t n st=st:=by
 cases n with
 | zero=>rfl
 |
  succ n =>
  rw[fill]
  rcases h with h | h
  ·rw[if_neg (by omega)]
  ·split
   ·rw[h]
   ·rfl
theorem KF (m:Nat):∀(t:Int) (n:Nat),(∀u,t≤u→u<t+m→full bG jX cs st u)→m≤n→runT bG jX cs t n st=runT bG jX cs (t+m) (n-m) st:=by
 induction m with
 | zero=>intro t n _ _;simp
 |
  succ m ih =>
  intro t n h hm
  obtain⟨n,rfl⟩:∃k,n=k+1:=⟨n-1,by omega⟩
  rw[runT,tZ (h t (Int.le_refl _) (by omega)),ih (t+1) n (fun u h1 h2=>h u (by omega) (by omega)) (by omega)]
  congr 1
  ·omega
  ·omega
theorem Tj (n:Nat):∀(t:Int),(∀u,t≤u→full bG jX cs st u)→runT bG jX cs t n st=st:=by
 intro t h
 rw[KF n t n (fun u h1 _=>h u h1) (Nat.le_refl _),Nat.sub_self]
 rfl
theorem RQ {a b:Int} (ha:0≤a) (Dw:a≤b) (hb:b≤100000) (h:∀u,a≤u→u<b→full bG jX cs st u):runT bG jX cs a (100000-a).toNat st=runT bG jX cs b (100000-b).toNat st:=by
 rw[KF (b-a).toNat a _ (fun u h1 h2=>h u h1 (by omega)) (by omega)]
 congr 1
 ·omega
 ·omega
theorem Xw {a:Int} (ha:0≤a) (hb:a<100000):runT bG jX cs a (100000-a).toNat st=runT bG jX cs (a+1) (100000-(a+1)).toNat (fill bG jX cs a cs.length st):=by
 rw[show (100000-a).toNat=(100000-(a+1)).toNat+1 by omega,runT]
theorem KW {ws:List Nat} {k:Nat}:∃j,(ws.foldl (wY bG cs) (some k))=some j∧(j=k∨j∈ws):=by
 induction ws generalizing k with
 | nil=>exact⟨k,rfl,.inl rfl⟩
 |
  cons i ws ih =>
  rw[List.foldl_cons]
  have:∃q,wY bG cs (some k) i=some q∧(q=k∨q=i):=by
   unfold wY
   simp only
   split
   ·exact⟨i,rfl,.inr rfl⟩
   ·exact⟨k,rfl,.inl rfl⟩
  obtain⟨q,hq,hqq⟩:=this
  rw[hq]
  obtain⟨j,h1,h2⟩:=ih (k:=q)
  refine⟨j,h1,?_⟩
  rcases h2 with rfl | h2
  ·rcases hqq with rfl | rfl
   ·exact .inl rfl
   ·exact .inr List.mem_cons_self
  ·exact .inr (List.mem_cons_of_mem _ h2)
theorem uC:X8 bG cs st t=none↔wt cs st t=[]:=by
 unfold X8
 cases h:wt cs st t with
 | nil=>exact⟨fun _=>rfl,fun _=>rfl⟩
 |
  cons i ws =>
  refine⟨fun h2 => ?_,fun h2=>(by cases h2)⟩
  rw[List.foldl_cons] at h2
  obtain⟨j,h3,_⟩:=KW (bG:=bG) (cs:=cs) (ws:=ws) (k:=i)
  rw[show wY bG cs none i=some i from rfl,h3] at h2
  cases h2
theorem Mw {k:Nat} (h:X8 bG cs st t=some k):k∈wt cs st t:=by
 unfold X8 at h
 cases hw:wt cs st t with
 | nil=>rw[hw] at h;cases h
 |
  cons i ws =>
  rw[hw,List.foldl_cons] at h
  obtain⟨j,h3,h4⟩:=KW (bG:=bG) (cs:=cs) (ws:=ws) (k:=i)
  rw[show wY bG cs none i=some i from rfl,h3] at h
  injection h with h
  subst h
  rcases h4 with rfl | h4
  ·exact List.mem_cons_self
  ·exact List.mem_cons_of_mem _ h4
theorem EW {k:Nat}:k∈wt cs st t↔k<cs.length∧Ea st k<0∧Hb cs k≤t:=by
 simp[wt,isW]
theorem Xe:(wt cs st t).Nodup:=List.Pairwise.filter _ List.nodup_range
theorem DH {k i:Nat} (hk:k<st.length):Ea (st.set k t) i=if i=k then t else Ea st i:=by
 unfold Ea
 rw[List.getElem?_set]
 by_cases h:i=k
 ·subst h
  simp[hk]
 ·rw[if_neg (fun h'=>h h'.symm),if_neg h]
theorem Mg {p q:Nat→Bool} {k:Nat} (hp:p k=false) (h:∀i,i≠k→q i=p i):∀n,(List.range n).countP q=(List.range n).countP p+if k<n∧q k=true then 1 else 0:=by
 intro n
 induction n with
 | zero=>simp
 |
  succ n ih =>
  rw[List.range_succ,List.countP_append,List.countP_append,ih]
  by_cases hk:n=k
  ·subst hk
   simp only[List.countP_singleton,hp]
   cases hq:q n<;>simp
  ·rw[List.countP_singleton,List.countP_singleton,h n hk]
   have:(k<n+1∧q k=true)↔(k<n∧q k=true):=by
    constructor
    ·rintro⟨h1,h2⟩;exact⟨by omega,h2⟩
    ·rintro⟨h1,h2⟩;exact⟨by omega,h2⟩
   simp only[this]
   omega
theorem aaR {k:Nat} {u:Int} (hk:k<cs.length) (hl:st.length=cs.length) (hs:Ea st k<0) (h0:0≤t):bz cs (st.set k t) u=bz cs st u+if t≤u∧u<t+S4 cs k then 1 else 0:=by
 unfold bz
 rw[Mg (p:=YK cs st u) (q:=YK cs (st.set k t) u) (k:=k)]
 ·congr 1
  have:(k<cs.length∧YK cs (st.set k t) u k=true)↔(t≤u∧u<t+S4 cs k):=by
   simp only[YK,DH (t:=t) (i:=k) (by omega:k<st.length),if_true,Bool.and_eq_true,decide_eq_true_eq]
   constructor
   ·rintro⟨_,⟨_,h1⟩,h2⟩;exact⟨h1,h2⟩
   ·rintro⟨h1,h2⟩;exact⟨hk,⟨h0,h1⟩,h2⟩
  simp only[this]
 ·simp only[YK]
  rw[decide_eq_false (by omega)]
  rfl
 ·intro i hi
  simp only[YK,DH (t:=t) (i:=i) (by omega:k<st.length),if_neg hi]
theorem ZW {k:Nat} {u:Int} (hl:st.length=cs.length) (hk:k<cs.length) (h0:0≤t):wt cs (st.set k t) u=(wt cs st u).filter (· != k):=by
 unfold wt
 rw[List.filter_filter]
 refine List.filter_congr fun i hi => ?_
 simp only[isW,DH (t:=t) (i:=i) (by omega:k<st.length)]
 by_cases h:i=k
 ·subst h
  simp
  omega
 ·simp[h]
def C7 (st:List Int):Nat:=st.countP (fun s=>decide (s<0))
theorem yO {k:Nat} (hk:k<st.length) (hs:Ea st k<0) (h0:0≤t):C7 (st.set k t)+1=C7 st:=by
 unfold C7
 rw[List.countP_set hk]
 have hx:st[k]=Ea st k:=by
  rw[W2 (x:=st[k]) (List.getElem?_eq_getElem hk)]
 have h1:decide (st[k]<0)=true:=by rw[hx];exact decide_eq_true hs
 have h2:decide (t<0)=false:=decide_eq_false (by omega)
 have h3:0<st.countP (fun s=>decide (s<0)):=by
  rw[List.countP_pos_iff]
  exact⟨st[k],List.getElem_mem hk,h1⟩
 simp only[h1,h2,if_true,Bool.false_eq_true,if_false]
 omega
theorem Uk (hl:st.length=cs.length) (h0:0≤t):∀(n m:Nat),C7 st≤n→C7 st≤m→fill bG jX cs t n st=fill bG jX cs t m st:=by
 intro n
 induction n generalizing st with
 |
  zero =>
  intro m hn hm
  have hf:full bG jX cs st t:=by
   right
   rw[uC]
   cases hw:wt cs st t with
   | nil=>rfl
   |
    cons i ws =>
    have h1:i∈wt cs st t:=by rw[hw];exact List.mem_cons_self
    obtain⟨h2,h3,_⟩:=EW.1 h1
    have:=yO (t:=t) (by omega:i<st.length) h3 h0
    omega
  rw[tZ hf,tZ hf]
 |
  succ n ih =>
  intro m hn hm
  cases m with
  |
   zero =>
   have hf:full bG jX cs st t:=by
    right
    rw[uC]
    cases hw:wt cs st t with
    | nil=>rfl
    |
     cons i ws =>
     have h1:i∈wt cs st t:=by rw[hw];exact List.mem_cons_self
     obtain⟨h2,h3,_⟩:=EW.1 h1
     have:=yO (t:=t) (by omega:i<st.length) h3 h0
     omega
   rw[tZ hf,tZ hf]
  |
   succ m =>
   rw[fill,fill]
   split
   ·split
    ·rfl
    ·rename_i k hk
     obtain⟨h2,h3,_⟩:=EW.1 (Mw hk)
     have:=yO (t:=t) (by omega:k<st.length) h3 h0
     exact ih (by simp[hl]) m (by omega) (by omega)
   ·rfl
theorem Sf:C7 st≤st.length:=List.countP_le_length
theorem TR {k:Nat} (hl:st.length=cs.length) (h0:0≤t) (hb:(bz cs st t:Int)<jX) (hk:X8 bG cs st t=some k):fill bG jX cs t cs.length (st.set k t)=fill bG jX cs t cs.length st:=by
 obtain⟨h2,h3,_⟩:=EW.1 (Mw hk)
 have h4:=yO (t:=t) (by omega:k<st.length) h3 h0
 have h5:=Sf (st:=st)
 rw[Uk (st:=st) hl h0 cs.length (cs.length+1) (by omega) (by omega)]
 conv=>rhs;rw[fill,if_pos hb,hk]
def evT (cs:List eV) (st:List Int) (i:Nat):Int:=if 0≤Ea st i then Ea st i+S4 cs i else Hb cs i
def aaE (cs:List eV) (st:List Int) (t:Int) (b:Int) (i:Nat):Int:=if t<evT cs st i∧(b<0∨evT cs st i<b) then evT cs st i else b
def later (cs:List eV) (st:List Int) (t:Int):Int:=(List.range cs.length).foldl (aaE cs st t) (-1)
structure Way (cs:List eV) (st:List Int) (t:Int):Prop where
 len:st.length=cs.length
 low:∀i,i<cs.length → -1≤Ea st i
 high:∀i,i<cs.length→Ea st i≤t
 bd:∀i,i<cs.length→Ea st i+1000*(C7 st:Int)≤10000+1000*(cs.length:Int)
 tm:0≤t∧t+1000*(C7 st:Int)≤11000+1000*(cs.length:Int)
theorem Way.set {k:Nat} (h:Way cs st t) (hk:k<cs.length) (hs:Ea st k<0):Way cs (st.set k t) t:=by
 have hl:=h.len
 have Um:=h.tm
 have h4:=yO (t:=t) (by omega:k<st.length) hs Um.1
 refine⟨by simp[hl],fun i hi => ?_,fun i hi => ?_,fun i hi => ?_,Um.1,by omega⟩
 all_goals rw[DH (by omega:k<st.length)]
 ·have:=h.low i hi
  split<;>omega
 ·have:=h.high i hi
  split<;>omega
 ·have:=h.bd i hi
  split<;>omega
theorem Way.le (h:Way cs st t) (hc:iW cs):t≤35000∧∀i,i<cs.length→Ea st i≤34000:=by
 have hlen:=hc.2
 have Um:=h.tm
 refine⟨by omega,fun i hi => ?_⟩
 have:=h.bd i hi
 omega
theorem iW.bnd (hc:iW cs) {i:Nat} (hi:i<cs.length):(0≤Hb cs i∧Hb cs i≤10000)∧(1≤S4 cs i∧S4 cs i≤1000):=by
 have hx:cs[i]? = some cs[i]:=List.getElem?_eq_getElem hi
 have:=hc.at hx
 rw[PL hx,abE hx]
 exact⟨this.1,this.2.1⟩
def DT (bG:Int) (cs:List eV) (ws:List Nat):Nat :=
 if bG=1 then ws.length-1 else if bG=2∨bG=3 then (List.range ws.length).foldl (fun b k=>if Hh bG cs (ws.getD k 0) (ws.getD b 0) then k else b) 0 else 0
theorem QG {ws:List Nat} {k:Nat} (h:∀i j,Hh bG cs i j=false):ws.foldl (wY bG cs) (some k)=some k:=by
 induction ws with
 | nil=>rfl
 |
  cons i ws ih =>
  rw[List.foldl_cons]
  have:wY bG cs (some k) i=some k:=by
   unfold wY
   simp only[h]
   rfl
  rw[this,ih]
theorem Wl {ws:List Nat} (eW:ws≠[]) (hr:0≤bG∧bG≤3):DT bG cs ws<ws.length∧ws[DT bG cs ws]? = ws.foldl (wY bG cs) none:=by
 have hlen:0<ws.length:=List.length_pos_iff.2 eW
 unfold DT
 by_cases h1:bG=1
 ·rw[if_pos h1]
  rcases List.eq_nil_or_concat ws with rfl | ⟨xs,y,rfl⟩
  ·exact absurd rfl eW
  ·rw[List.concat_eq_append,List.foldl_append]
   refine⟨by simp,?_⟩
   simp only[List.length_append,List.length_cons,List.length_nil,Nat.zero_add,Nat.add_sub_cancel,List.foldl_cons,List.foldl_nil]
   rw[List.getElem?_append_right (Nat.le_refl _),Nat.sub_self]
   unfold wY
   split
   ·rfl
   ·simp only[Hh,if_pos h1,if_true]
    rfl
 ·rw[if_neg h1]
  by_cases h2:bG=2∨bG=3
  ·rw[if_pos h2]
   have alV:∀i,Hh bG cs i i=false:=fun i=>by
    unfold Hh
    rw[if_neg h1]
    split
    ·exact decide_eq_false (by omega)
    ·split
     ·exact decide_eq_false (by omega)
     ·rfl
   have key:∀n,n<ws.length→(List.range (n+1)).foldl (fun b k=>if Hh bG cs (ws.getD k 0) (ws.getD b 0) then k else b) 0<ws.length ∧
     ws[(List.range (n+1)).foldl (fun b k=>if Hh bG cs (ws.getD k 0) (ws.getD b 0) then k else b) 0]? = (ws.take (n+1)).foldl (wY bG cs) none:=by
    intro n
    induction n with
    |
     zero =>
     intro _
     have:(List.range (0+1)).foldl (fun b k=>if Hh bG cs (ws.getD k 0) (ws.getD b 0) then k else b) 0=0:=by
      simp[List.range_succ,alV]
     rw[this]
     refine⟨hlen,?_⟩
     cases ws with
     | nil=>exact absurd rfl eW
     | cons i ws=>rfl
    |
     succ n ih =>
     intro hn
     obtain⟨g1,g2⟩:=ih (by omega)
     rw[List.range_succ,List.foldl_append,List.foldl_cons,List.foldl_nil]
     generalize (List.range (n+1)).foldl (fun b k=>if Hh bG cs (ws.getD k 0) (ws.getD b 0) then k else b) 0=b at *
     obtain⟨x,hx⟩:∃x,ws[n+1]? = some x:=⟨_,List.getElem?_eq_getElem hn⟩
     obtain⟨y,hy⟩:∃y,ws[b]? = some y:=⟨_,List.getElem?_eq_getElem g1⟩
     rw[List.take_add_one,hx,List.foldl_append,←g2,hy]
     simp only[Option.toList_some,List.foldl_cons,List.foldl_nil,List.getD_eq_getElem?_getD,hx,hy,Option.getD_some,wY]
     split
     ·exact⟨hn,hx⟩
     ·exact⟨g1,hy⟩
   have:=key (ws.length-1) (by omega)
   rw[show ws.length-1+1=ws.length by omega,List.take_of_length_le (Nat.le_refl _)] at this
   exact this
  ·rw[if_neg h2]
   refine⟨hlen,?_⟩
   have hb:∀i j,Hh bG cs i j=false:=fun i j=>by
    unfold Hh
    rw[if_neg h1,if_neg (by omega),if_neg (by omega)]
   cases ws with
   | nil=>exact absurd rfl eW
   |
    cons i ws =>
    rw[List.foldl_cons,show wY bG cs none i=some i from rfl,QG hb]
    rfl
end
end Go.PM
namespace Go.PM
def H9 (st:List Int) (i:Nat):Bool:=decide (Ea st i<0)
def XV (u e:Int):Bool:=decide (u<e)
section
variable {bG jX:Int} {cs:List eV} {st:List Int} {t:Int}
theorem iW.sorted (hc:iW cs):∀ {i j:Nat},i≤j→j<cs.length→Hb cs i≤Hb cs j:=by
 intro i j XO hj
 induction j with
 |
  zero =>
  have:i=0:=by omega
  subst this
  exact Int.le_refl _
 |
  succ j ih =>
  rcases Nat.lt_or_ge i (j+1) with h | h
  ·have h1:=ih (by omega) (by omega)
   have hx:cs[j+1]? = some cs[j+1]:=List.getElem?_eq_getElem hj
   have hy:cs[j]? = some cs[j]:=List.getElem?_eq_getElem (by omega)
   have h2:=(hc.1 (j+1) _ hx).2 _ (by omega) (by rw[Nat.add_sub_cancel];exact hy)
   rw[PL hx]
   rw[PL hy] at h1
   omega
  ·have:i=j+1:=by omega
   subst this
   exact Int.le_refl _
theorem B8 {bL:Nat} (Ze:bL≤cs.length) (past:∀i,i<bL→Hb cs i≤t) (XM:∀i,bL≤i→i<cs.length→t<Hb cs i):wt cs st t=(List.range bL).filter (H9 st):=by
 unfold wt
 rw[show cs.length=bL+(cs.length-bL) by omega,List.range_add,List.filter_append]
 have h1:(List.range bL).filter (isW cs st t)=(List.range bL).filter (H9 st):=by
  refine List.filter_congr fun i hi => ?_
  rw[List.mem_range] at hi
  simp[isW,H9,past i hi]
 have h2:((List.range (cs.length-bL)).map fun x=>bL+x).filter (isW cs st t)=[]:=by
  rw[List.filter_eq_nil_iff]
  intro i hi
  obtain⟨j,hj,rfl⟩:=List.mem_map.1 hi
  rw[List.mem_range] at hj
  have:=XM (bL+j) (by omega) (by omega)
  simp only[isW,Bool.and_eq_true,decide_eq_true_eq]
  omega
 rw[h1,h2,List.append_nil]
structure GR (bG jX:Int) (cs:List eV) (st:List Int) (t:Int) (bL:Nat) (ws:List Nat) (ends:List Int):Prop where
 len:st.length=cs.length
 low:∀i,i<cs.length → -1≤Ea st i
 high:∀i,i<cs.length→Ea st i≤t
 bd:∀i,i<cs.length→Ea st i+1000*(C7 st:Int)≤10000+1000*(cs.length:Int)
 tm : -1≤t
 Jq:bL≤cs.length
 past:∀i,i<bL→Hb cs i≤t
 XM:∀i,bL≤i→i<cs.length→t<Hb cs i∧Ea st i<0
 TJ:ws=wt cs st t
 cnt:∀u,t≤u→ends.countP (XV u)=bz cs st u
 ef:∀e∈ends,t<e
 eb:∀e∈ends,e+1000*(C7 st:Int)≤11000+1000*(cs.length:Int)
 fl:full bG jX cs st t
 room:ws.length+ends.length≤bL
 es:(ends.length:Int)≤jX
 run:runT bG jX cs (t+1) (100000-(t+1)).toNat st=stL bG jX cs
theorem Ey {n i:Nat} (h:i<n):Ea (List.replicate n (-1)) i = -1:=W2 (by rw[List.getElem?_replicate,if_pos h])
theorem GR.start (hc:iW cs) (hs:1≤jX):GR bG jX cs (List.replicate cs.length (-1)) (-1) 0 [] []:=by
 have hw:wt cs (List.replicate cs.length (-1)) (-1)=[]:=by
  rw[B8 (Nat.zero_le _) (fun i hi=>by omega) fun i _ hi=>by have:=hc.bnd hi;omega]
  rfl
 have hu:C7 (List.replicate cs.length (-1))=cs.length:=by simp[C7,List.countP_replicate]
 refine⟨by simp,fun i hi=>by rw[Ey hi];decide,fun i hi=>by rw[Ey hi];decide,fun i hi=>by rw[Ey hi,hu];omega,by decide,Nat.zero_le _,fun i hi=>by omega,fun i _ hi=>⟨by have:=hc.bnd hi;omega,by rw[Ey hi];decide⟩,hw.symm,fun u _ => ?_,fun e he=>(by cases he),fun e he=>(by cases he),.inr (uC.2 hw),Nat.le_refl _,by simp;omega,rfl⟩
 unfold bz
 rw[(List.countP_eq_zero (p:=YK cs (List.replicate cs.length (-1)) u)).2]
 ·rfl
 ·intro i hi
  rw[List.mem_range] at hi
  simp only[YK,Ey hi,Bool.and_eq_true,decide_eq_true_eq]
  omega
def MV (w:Bool) (b e:Int):Int:=if b<0∨(w=true∧e<b) then e else b
theorem aaL {es:List Int} {b:Int} (h:0≤b):es.foldl (MV false) b=b:=by
 induction es with
 | nil=>rfl
 |
  cons e es ih =>
  rw[List.foldl_cons]
  have:MV false b e=b:=by
   unfold MV
   rw[if_neg (by simp;omega)]
  rw[this,ih]
theorem Zr:∀ {es:List Int} {b:Int},(∀e∈es,0≤e)→(es.foldl (MV true) b=b∨es.foldl (MV true) b∈es)∧(∀e∈es,es.foldl (MV true) b≤e)∧(0≤b→es.foldl (MV true) b≤b)∧(es≠[]→0≤es.foldl (MV true) b)
 | [],b,_=>⟨.inl rfl,fun e he=>(by cases he),fun _=>Int.le_refl _,fun h=>absurd rfl h⟩
 |
  e::es,b,h=>by
  rw[List.foldl_cons]
  have h1:=h e List.mem_cons_self
  have h2:∀e'∈es,0≤e':=fun e' he=>h e' (List.mem_cons_of_mem _ he)
  have hm:(MV true b e=b∨MV true b e=e)∧MV true b e≤e∧(0≤b→MV true b e≤b)∧0≤MV true b e:=by
   unfold MV
   by_cases hc:b<0∨(true=true∧e<b)
   ·rw[if_pos hc]
    refine⟨.inr rfl,Int.le_refl _,fun hb => ?_,h1⟩
    rcases hc with hc | hc<;>omega
   ·rw[if_neg hc]
    simp at hc
    exact⟨.inl rfl,hc.2,fun _=>Int.le_refl _,hc.1⟩
  obtain⟨m1,m2,m3,m4⟩:=hm
  obtain⟨g1,g2,g3,g4⟩:=Zr (es:=es) (b:=MV true b e) h2
  have g3:=g3 m4
  refine⟨?_,?_,fun hb=>by have:=m3 hb;omega,fun _ => ?_⟩
  ·rcases g1 with g1 | g1
   ·rw[g1]
    rcases m1 with m1 | m1
    ·exact .inl m1
    ·rw[m1];exact .inr List.mem_cons_self
   ·exact .inr (List.mem_cons_of_mem _ g1)
  ·intro e' he
   rcases List.mem_cons.1 he with rfl | he
   ·omega
   ·exact g2 e' he
  ·rcases g1 with g1 | g1
   ·rw[g1];exact m4
   ·exact h2 _ g1
def MJ (cs:List eV) (bL:Nat):Int:=if bL<cs.length then Hb cs bL else -1
def D3 (cs:List eV) (bL:Nat) (ws:List Nat) (ends:List Int):Int:=ends.foldl (MV (decide (0<ws.length))) (MJ cs bL)
theorem GR.Vb {bL:Nat} {ws:List Nat} {ends:List Int} (h:GR bG jX cs st t bL ws ends):ends.length=bz cs st t:=by
 rw[←h.cnt t (Int.le_refl _),List.countP_eq_length.2]
 intro e he
 exact decide_eq_true (h.ef e he)
theorem GR.time {bL:Nat} {ws:List Nat} {ends:List Int} (h:GR bG jX cs st t bL ws ends) (hc:iW cs) (hs:1≤jX) (hg:bL<cs.length∨0<ws.length) :
  (t<D3 cs bL ws ends∧D3 cs bL ws ends+1000*(C7 st:Int)≤11000+1000*(cs.length:Int))∧(∀i,bL≤i→i<cs.length→D3 cs bL ws ends≤Hb cs i) ∧
   (bL<cs.length∧Hb cs bL=D3 cs bL ws ends∨0<ws.length∧D3 cs bL ws ends∈ends)∧runT bG jX cs (D3 cs bL ws ends) (100000-D3 cs bL ws ends).toNat st=stL bG jX cs:=by
 have Um:=h.tm
 have MQ:=Sf (st:=st)
 have hlen:=h.len
 have he0:∀e∈ends,0≤e:=fun e he=>by have:=h.ef e he;omega
 have akG:=hc.2
 by_cases hw:0<ws.length
 ·have hbz:jX≤(bz cs st t:Int):=by
   rcases h.fl with hf | hf
   ·exact hf
   ·rw[uC,←h.TJ] at hf
    rw[hf] at hw
    simp at hw
  have eW:ends≠[]:=by
   intro he
   have:=h.Vb
   rw[he] at this
   simp at this
   omega
  obtain⟨g1,g2,g3,g4⟩:=Zr (es:=ends) (b:=MJ cs bL) he0
  have Sw:D3 cs bL ws ends=ends.foldl (MV true) (MJ cs bL):=by unfold D3;rw[decide_eq_true hw]
  rw[Sw]
  generalize ends.foldl (MV true) (MJ cs bL)=w at *
  have g4:=g4 eW
  have HF:(bL<cs.length∧Hb cs bL=w)∨w∈ends:=by
   rcases g1 with g1 | g1
   ·unfold MJ at g1
    split at g1
    ·rename_i lG
     exact .inl ⟨lG,g1.symm⟩
    ·omega
   ·exact .inr g1
  have htw:t<w∧w+1000*(C7 st:Int)≤11000+1000*(cs.length:Int):=by
   rcases HF with⟨h1,h2⟩ | h1
   ·have:=h.XM bL (Nat.le_refl _) h1
    have:=hc.bnd h1
    omega
   ·exact⟨h.ef _ h1,h.eb _ h1⟩
  refine⟨htw,fun i h1 h2 => ?_,HF.imp id fun h1=>⟨hw,h1⟩,?_⟩
  ·have h3:=hc.sorted h1 h2
   have h4:=hc.bnd (i:=bL) (by omega)
   have h5:MJ cs bL=Hb cs bL:=by unfold MJ;rw[if_pos (by omega)]
   have:=g3 (by rw[h5];omega)
   omega
  ·rw[←h.run]
   refine(RQ (by omega) (by omega) (by omega) fun u h1 h2 => .inl ?_).symm
   rw[←h.cnt u (by omega),(List.countP_eq_length (p:=XV u)).2 fun e he=>decide_eq_true (by have:=g2 e he;omega),h.Vb]
   exact hbz
 ·have lG:bL<cs.length:=by omega
  have h5:MJ cs bL=Hb cs bL:=by unfold MJ;rw[if_pos lG]
  have h4:=hc.bnd lG
  have hf:=(h.XM bL (Nat.le_refl _) lG).1
  have Sw:D3 cs bL ws ends=Hb cs bL:=by unfold D3;rw[decide_eq_false hw,aaL (by rw[h5];omega),h5]
  rw[Sw]
  refine⟨⟨hf,by omega⟩,fun i h1 h2=>hc.sorted h1 h2,.inl ⟨lG,rfl⟩,?_⟩
  rw[←h.run]
  refine(RQ (by omega) (by omega) (by omega) fun u h1 h2 => .inr ?_).symm
  rw[uC,B8 h.Jq (fun i hi=>by have:=h.past i hi;omega) fun i h3 h4=>by have:=hc.sorted h3 h4;omega]
  have e1:=B8 (st:=st) h.Jq h.past fun i h3 h4=>(h.XM i h3 h4).1
  rw[←e1,←h.TJ]
  exact List.eq_nil_of_length_eq_zero (by omega)
theorem GR.done {bL:Nat} {ws:List Nat} {ends:List Int} (h:GR bG jX cs st t bL ws ends) (Ze:¬bL<cs.length) (hw:¬0<ws.length):st=stL bG jX cs:=by
 rw[←h.run]
 refine(Tj _ _ fun u hu => .inr ?_).symm
 have lG:=h.Jq
 have e1:=B8 (st:=st) h.Jq h.past fun i h3 h4=>(h.XM i h3 h4).1
 rw[uC,B8 h.Jq (fun i hi=>by have:=h.past i hi;omega) fun i h3 h4=>by omega,←e1,←h.TJ]
 exact List.eq_nil_of_length_eq_zero (by omega)
structure Ph4 (bG jX:Int) (cs:List eV) (XJ:List Int) (now:Int) (bL XN:Nat) (st:List Int) (ws:List Nat) (ends:List Int):Prop where
 TM:Way cs st now
 TJ:ws=wt cs st now
 cnt:∀u,now≤u→ends.countP (XV u)=bz cs st u
 ef:∀e∈ends,now<e
 eb:∀e∈ends,e+1000*(C7 st:Int)≤11000+1000*(cs.length:Int)
 fl:fill bG jX cs now cs.length st=fill bG jX cs now cs.length XJ
 past:∀i,i<bL→Hb cs i≤now
 XM:∀i,bL≤i→i<cs.length→now<Hb cs i∧Ea st i<0
 XN:ws.length+ends.length=XN
 es:(ends.length:Int)≤jX
theorem An:∀ {l:List Nat} {i k:Nat},l.Nodup→l[i]? = some k→l.eraseIdx i=l.filter (· != k)
 | [],_,_,_,h=>by cases h
 |
  x::l,0,k,hn,h=>by
  injection h with h
  subst h
  rw[List.nodup_cons] at hn
  rw[List.eraseIdx_cons_zero,List.filter_cons_of_neg (by simp),List.filter_eq_self.2]
  intro y hy
  have:y≠x:=fun he=>hn.1 (he▸hy)
  simpa using this
 |
  x::l,i+1,k,hn,h=>by
  rw[List.nodup_cons] at hn
  rw[List.getElem?_cons_succ] at h
  have hx:x≠k:=fun he=>hn.1 (he▸List.mem_of_getElem? h)
  rw[List.eraseIdx_cons_succ,List.filter_cons_of_pos (by simpa using hx),An hn.2 h]
theorem Ph4.step {now:Int} {XJ:List Int} {bL XN:Nat} {ws:List Nat} {ends:List Int} (h:Ph4 bG jX cs XJ now bL XN st ws ends) (hc:iW cs) (hr:0≤bG∧bG≤3) (hb:(ends.length:Int)<jX) (eW:0<ws.length) :
  ∃k,ws[DT bG cs ws]? = some k∧k<cs.length∧DT bG cs ws<ws.length∧(0≤now∧now≤35000)∧Ph4 bG jX cs XJ now bL XN (st.set k now) (ws.eraseIdx (DT bG cs ws)) (ends++[now+S4 cs k]):=by
 have SK:ws≠[]:=fun he=>by rw[he] at eW;simp at eW
 obtain⟨g1,g2⟩:=Wl (cs:=cs) SK hr
 obtain⟨k,hk⟩:∃k,ws[DT bG cs ws]? = some k:=⟨_,List.getElem?_eq_getElem g1⟩
 have hnx:X8 bG cs st now=some k:=by
  unfold X8
  rw[←h.TJ,←g2,hk]
 obtain⟨m1,m2,m3⟩:=EW.1 (Mw hnx)
 have Um:=h.TM.tm
 have hle:=(h.TM.le hc).1
 have hbz:(bz cs st now:Int)=ends.length:=by
  rw[←h.cnt now (Int.le_refl _),(List.countP_eq_length (p:=XV now)).2 fun e he=>decide_eq_true (h.ef e he)]
 have MC:k<st.length:=by rw[h.TM.len];exact m1
 have hus:=yO (t:=now) MC m2 Um.1
 have hwk:=(hc.bnd m1).2
 refine⟨k,hk,m1,g1,⟨Um.1,hle⟩,h.TM.set m1 m2,?_,?_,?_,?_,?_,h.past,?_,?_,?_⟩
 ·rw[ZW h.TM.len m1 Um.1,←h.TJ]
  exact An (by rw[h.TJ];exact Xe) hk
 ·intro u hu
  rw[List.countP_append,h.cnt u hu,aaR m1 h.TM.len m2 Um.1,List.countP_singleton]
  congr 1
  simp only[XV,decide_eq_true_eq]
  by_cases hq:u<now+S4 cs k
  ·rw[if_pos hq,if_pos ⟨hu,hq⟩]
  ·rw[if_neg hq,if_neg fun h'=>hq h'.2]
 ·intro e he
  rcases List.mem_append.1 he with he | he
  ·exact h.ef e he
  ·rw[List.mem_singleton] at he
   omega
 ·intro e he
  rcases List.mem_append.1 he with he | he
  ·have:=h.eb e he
   omega
  ·rw[List.mem_singleton] at he
   omega
 ·rw[TR h.TM.len Um.1 (by rw[hbz];exact hb) hnx,h.fl]
 ·intro i h1 h2
  have h3:=h.XM i h1 h2
  refine⟨h3.1,?_⟩
  rw[DH MC,if_neg (fun he=>by subst he;omega)]
  exact h3.2
 ·rw[List.length_eraseIdx_of_lt g1,List.length_append,List.length_cons,List.length_nil]
  have:=h.XN
  omega
 ·rw[List.length_append,List.length_cons,List.length_nil]
  omega
theorem Ph4.done {now:Int} {XJ:List Int} {bL XN:Nat} {ws:List Nat} {ends:List Int} (h:Ph4 bG jX cs XJ now bL XN st ws ends) (hc:iW cs) (lG:bL≤cs.length) (ht:XN≤bL) (hf:jX≤(ends.length:Int)∨ws=[])
  (hr:runT bG jX cs now (100000-now).toNat XJ=stL bG jX cs):GR bG jX cs st now bL ws ends:=by
 have Um:=h.TM.tm
 have hle:=(h.TM.le hc).1
 have hbz:(bz cs st now:Int)=ends.length:=by
  rw[←h.cnt now (Int.le_refl _),(List.countP_eq_length (p:=XV now)).2 fun e he=>decide_eq_true (h.ef e he)]
 have ZK:full bG jX cs st now:=by
  rcases hf with hf | hf
  ·exact .inl (by rw[hbz];exact hf)
  ·exact .inr (uC.2 (by rw[←h.TJ];exact hf))
 refine⟨h.TM.len,h.TM.low,h.TM.high,h.TM.bd,by omega,lG,h.past,h.XM,h.TJ,h.cnt,h.ef,h.eb,ZK,by rw[h.XN];exact ht,h.es,?_⟩
 have h1:=tZ ZK cs.length
 rw[h.fl] at h1
 rw[Xw Um.1 (by omega),h1] at hr
 exact hr
end
end Go.PM
namespace Go.PM
end Go.PM
namespace Go.PM
section
variable {α:Type} {f:α→VV} {H:aB} {b g e lo:Nat} {X Y:List α}
end
end Go.PM
namespace Go.PM
def S3 (N:Nat) (hi:Int) (st:List (Nat×Int)):Prop:=∀p∈st,p.1<N∧1≤p.2∧p.2≤hi
theorem S3.cons {N:Nat} {hi:Int} {p:Nat×Int} {st:List (Nat×Int)} (h:S3 N hi (p::st)):(p.1<N∧1≤p.2∧p.2≤hi)∧S3 N hi st:=⟨h p List.mem_cons_self,fun q hq=>h q (List.mem_cons_of_mem _ hq)⟩
theorem S3.of {N:Nat} {hi:Int} {p:Nat×Int} {st:List (Nat×Int)} (hp:p.1<N∧1≤p.2∧p.2≤hi) (h:S3 N hi st):S3 N hi (p::st):=fun q hq=>by
 rcases List.mem_cons.1 hq with rfl | hq
 ·exact hp
 ·exact h q hq
end Go.PM
namespace Go.PM
structure aoG (bG jX room:Int) (cs:List eV) where
 I:Nat→Nat→List Nat→List Int→List Int→Prop
 A:Nat→Int→Nat→List Nat→List Int→List Int→Prop
 S:Nat→Int→Nat→List Nat→List Int→List Int→Prop
 bI:∀ {m bL ws ends st},I m bL ws ends st→bL≤cs.length∧st.length=cs.length∧ws.length≤24∧ends.length≤24
 bA:∀ {m now bL ws ends st},A m now bL ws ends st→bL≤cs.length∧st.length=cs.length∧ws.length≤24∧ends.length≤24
 bS:∀ {m now bL ws ends st},S m now bL ws ends st→bL≤cs.length∧st.length=cs.length∧ws.length≤24∧ends.length≤24∧(∀i∈ws,i<cs.length)∧(0≤now∧now≤100000)
 start:∃m,I m 0 [] [] (List.replicate cs.length (-1))
 toA:∀ {m bL ws ends st},I m bL ws ends st→bL<cs.length∨0<ws.length→A m (D3 cs bL ws ends) bL ws (ends.filter (XV (D3 cs bL ws ends))) st
 apG:∀ {m now bL ws ends st},A m now bL ws ends st→bL<cs.length→Hb cs bL=now→A m now (bL+1) (if (ws.length:Int)+(ends.length:Int)<room then ws++[bL] else ws) ends st
 toS:∀ {m now bL ws ends st},A m now bL ws ends st→¬(bL<cs.length∧Hb cs bL=now)→S m now bL ws ends st
 aqB:∀ {m now bL ws ends st},S m now bL ws ends st→(ends.length:Int)<jX→0<ws.length→∃k,ws[DT bG cs ws]? = some k∧S m now bL (ws.eraseIdx (DT bG cs ws)) (ends++[now+S4 cs k]) (st.set k now)
 toI:∀ {m now bL ws ends st},S m now bL ws ends st→¬((ends.length:Int)<jX∧0<ws.length)→∃m',m'<m∧I m' bL ws ends st
structure StE (bG jX room:Int) (cs:List eV) (n g1 k1 c1 g2 k2 c2 bL:Nat) (ρ:cP):Prop where
 r0:ρ 0=VI bG
 r1:ρ 1=VI jX
 r2:ρ 2=VI room
 r3:ρ 3=W4 cs
 r9:ρ 9 = .ref n 0 0 cs.length cs.length
 r10:ρ 10 = .ref (n+1) g1 0 k1 c1
 r11:ρ 11 = .ref (n+2) g2 0 k2 c2
 ZG:ρ 12=VI bL
structure Part {α:Type} (all xs:List α):Prop where
 le:xs.length≤all.length
 tk:all.take xs.length=xs
theorem Part.get {α:Type} {all xs:List α} (h:Part all xs) {i:Nat} {x:α} (hx:xs[i]? = some x):all[i]? = some x:=by
 rw[←h.tk,List.getElem?_take] at hx
 split at hx
 ·exact hx
 ·cases hx
theorem Part.fz {α:Type} {f:α→VV} {e b g:Nat} {all xs:List α} {w:Bool} {H:aB} (h:Part all xs) (hp:∀x,aW (f x)=true) (hr:aV H b g=some (all.map f,e,w)):fz depth H (.ref b g 0 xs.length all.length)=some (bT f xs):=by
 rw[Hx hr (by rw[List.length_map];exact h.le) h.le (dY hp),←List.map_take,h.tk]
theorem StE.CQ {bG jX room:Int} {cs:List eV} {n g1 k1 c1 g2 k2 c2 bL:Nat} {ρ:cP} (h:StE bG jX room cs n g1 k1 c1 g2 k2 c2 bL ρ):StE bG jX room cs n g1 k1 c1 g2 k2 c2 bL (C4 (n+3) ρ):=by
 obtain⟨h0,h1,h2,h3,h9,h10,h11,h12⟩:=h
 refine⟨?_,?_,?_,?_,?_,?_,?_,?_⟩
 ·rw[dP,h0];rfl
 ·rw[dP,h1];rfl
 ·rw[dP,h2];rfl
 ·rw[dP,h3,pL (OO _)]
 ·rw[dP,h9,yX (by omega)]
 ·rw[dP,h10,yX (by omega)]
 ·rw[dP,h11,yX (by omega)]
 ·rw[dP,h12];rfl
end Go.PM
namespace Go.PM
theorem Xj {p:Nat→Bool} {a b:Nat} (h:a≤b):((List.range b).filter p).length≤((List.range a).filter p).length+(b-a):=by
 obtain⟨d,rfl⟩:∃d,b=a+d:=⟨b-a,by omega⟩
 rw[List.range_add,List.filter_append,List.length_append]
 have:=List.length_filter_le p ((List.range d).map fun x=>a+x)
 simp only[List.length_map,List.length_range] at this
 omega
structure StA (bG jX:Int) (cs:List eV) (m:Nat) (now:Int) (bL:Nat) (ws:List Nat) (ends st:List Int) (t:Int) (Dy:Nat) (ZZ:List Nat) (Ib:List Int):Prop where
 imp:GR bG jX cs st t Dy ZZ Ib
 gd:Dy<cs.length∨0<ZZ.length
 ms:m=2*(cs.length-Dy)+ZZ.length
 nw:now=D3 cs Dy ZZ Ib
 c0:Dy≤bL
 c1:bL≤cs.length
 eq:∀i,Dy≤i→i<bL→Hb cs i=now
 TJ:ws=(List.range bL).filter (H9 st)
 enq:ends=Ib.filter (XV now)
theorem StA.bnd {bG jX:Int} {cs:List eV} {m:Nat} {now:Int} {bL:Nat} {ws:List Nat} {ends st:List Int} {t:Int} {Dy:Nat} {ZZ:List Nat} {Ib:List Int} (h:StA bG jX cs m now bL ws ends st t Dy ZZ Ib):ws.length+ends.length≤bL∧ws.length≤ZZ.length+(bL-Dy)∧ends.length≤Ib.length:=by
 have h1:=Xj (p:=H9 st) h.c0
 have h2:=B8 (st:=st) h.imp.Jq h.imp.past fun i h3 h4=>(h.imp.XM i h3 h4).1
 rw[←h2,←h.imp.TJ,←h.TJ] at h1
 have h3:=List.length_filter_le (XV now) Ib
 rw[←h.enq] at h3
 have h4:=h.imp.room
 have h5:=h.c0
 omega
structure StS (bG jX:Int) (cs:List eV) (m:Nat) (now:Int) (bL:Nat) (ws:List Nat) (ends st:List Int) (XJ:List Int) (w2 e2:Nat):Prop where
 ph:Ph4 bG jX cs XJ now bL (w2+e2) st ws ends
 c1:bL≤cs.length
 tc:w2+e2≤bL
 run:runT bG jX cs now (100000-now).toNat XJ=stL bG jX cs
 wle:ws.length≤w2
 ms:2*(cs.length-bL)+w2<m∨(2*(cs.length-bL)+w2=m∧0<w2∧(e2:Int)<jX)
def stR (fP:List Int) (n:Nat) (r:VV) (L:aB):Prop:=r = .ref n 0 0 fP.length fP.length∧L[0]? = some (.row 0 (fP.map nV) 1 true)
def afS (fP:List Int) (n:Nat) (r:VV) (L:aB):Prop:=r = .ref n 0 0 fP.length fP.length∧L=[.row 0 (fP.map nV) 1 true]
theorem afS.to {fP:List Int} {n:Nat} {r:VV} {L:aB} (h:afS fP n r L):stR fP n r L:=⟨h.1,by rw[h.2];rfl⟩
end Go.PM
namespace Go.PM
def amZ (bG jX:Int) (cs:List eV):Prop:=(0≤bG∧bG≤3)∧(1≤jX∧jX≤8)∧iW cs
noncomputable instance (bG jX:Int) (cs:List eV):Decidable (amZ bG jX cs):=Classical.propDecidable _
theorem iW.mem {cs:List eV} (h:iW cs) {c:eV} (hc:c∈cs):(0≤c.t∧c.t≤10000)∧(1≤c.w∧c.w≤1000)∧(0≤c.k∧c.k≤9):=by
 obtain⟨i,hi⟩:=List.getElem?_of_mem hc
 exact h.at hi
theorem FC.mono {f:Nat} {args:List VV} {R R':Nat→VV→aB→Prop} (h:FC f args R) (hR:∀n r L,R n r L→R' n r L):FC f args R':=fun n=>(h n).mono fun _ _ ⟨L,h1,h2,h3,h4⟩=>⟨L,h1,h2,h3,hR _ _ _ h4⟩
theorem GR.all {bG jX:Int} {cs:List eV} {st:List Int} {t:Int} {bL:Nat} {ws:List Nat} {ends:List Int} (h:GR bG jX cs st t bL ws ends) (Ze:¬bL<cs.length) (hw:¬0<ws.length):∀i,i<cs.length→0≤Ea st i:=by
 intro i hi
 have lG:=h.Jq
 rcases Int.lt_or_le (Ea st i) 0 with h1 | h1
 ·have h2:i∈wt cs st t:=EW.2 ⟨hi,h1,h.past i (by omega)⟩
  rw[←h.TJ,List.eq_nil_of_length_eq_zero (by omega:ws.length=0)] at h2
  cases h2
 ·exact h1
end Go.PM
namespace Go.PM
theorem LR.of {fP:List Int} {ok:Bool} {n:Nat} {r:VV} {L:aB} (h:stR fP n r L):LR fP ok n (.eK [r,.sc (.bool ok)]) L:=⟨r,rfl,.inr ⟨0,0,fP.length,h.1,Nat.le_refl _,h.2⟩⟩
end Go.PM
namespace Go.PM
theorem LR.fz {fP:List Int} {ok:Bool} {n:Nat} {v:VV} {L:aB} (h:(v = .tree [] .nil∧fP=[])∨∃i g c,v = .ref (n+i) g 0 fP.length c∧fP.length≤c∧L[i]? = some (.row g (fP.map nV) 1 true)):PM.fz depth (List.replicate n jR.dead++L) v=some (ZB fP):=by
 rcases h with⟨rfl,rfl⟩ | ⟨i,g,c,rfl,h2,h3⟩
 ·exact Dh
 ·exact R6 (fun _=>rfl) (by rw[YG];exact cY.2 h3) h2
end Go.PM
namespace Go.PM
open Go.Lib
end Go.PM
namespace Go.PM
theorem MD {f lo:Nat} {args kK:List VV} {r:VV} {H:aB} {K:VV→aB→Prop} (h:TC f kK r) (zN:CX.contains f=false) (Ye:aK kK=true) (hf:args.mapM (fz depth H)=some kK) (hr:GK r=true) (hk:K r H):dJ f args lo H K:=by
 rw[h.flat zN Ye hf hr]
 exact hk
theorem Ez (l:List UInt8):cU .neq (.string ⟨l.toArray⟩) (.string ⟨l.toArray⟩)=some (.bool false):=by rw[Mz];simp
end Go.PM
namespace Go.PM
set_option maxHeartbeats 2000000 in
theorem Bj (Rk:List ByteArray) (S6:okS Rk):TC 7 [fT Rk] (.sc (.bool true)):=by
 refine TC.walk ⟨true,false⟩ AV rfl (Nat.le_of_ble_eq_true rfl) (by simp only[aK,dQ];rfl) rfl ?_
 have Ve:=Fj Rk (1000000) S6 (by omega)
 by_cases adN:Vi Rk (1000000)<0
 ·rw[aaY adN (by omega)] at Ve
  simp only[oL,mN,Ve,Int.reduceNeg,Int.reduceLT,VX,Nat.reduceEqDiff,Nat.reduceAdd]
  exact aI rfl
 obtain⟨le0,Ur,XE⟩:=acK (xs:=Rk) (l:=1000000) (by omega)
 have Xy:Rk.length≤1000000:=by omega
 have JU:∀s∈Rk,s.size≤1000000000:=fun s h=>by have:=XE s h;omega
 simp only[oL,mN,Ve,adN,VX,Nat.reduceEqDiff,Nat.reduceAdd]
 have t0':=fun b=>FM Rk b (by omega)
 have cs:=JO Rk (by omega) JU
 have ci:=J0 Rk (by omega) JU
 obtain⟨s,k,hsk⟩:=TQ Rk
 change TC _ _ (ZJ Rk) at cs ci
 rw[hsk] at cs ci
 have pa:aK [fT Rk]=true:=by simp only[aK,dQ];rfl
 refine UH (t0' false) rfl FJ (fun _=>rfl) fun r1 H1 p1 s1 => ?_
 simp only[VX,Nat.reduceEqDiff,Nat.reduceAdd]
 refine MD cs rfl pa (Zy (s1.pre (List.prefix_refl _)).now) rfl ?_
 simp only[VX,Nat.reduceEqDiff,Nat.reduceAdd]
 refine Xn (t0' false) rfl FJ (fun _=>rfl) fun b2 H2 p2 lo2 r2 => ?_
 simp only[VX,Nat.reduceEqDiff,Nat.reduceAdd]
 refine MD ci rfl pa (Zy (J4 (fun _=>rfl) (uG (List.prefix_refl _) r2))) rfl ?_
 simp only[Ez,Nn,VX,Nat.reduceEqDiff,Nat.reduceAdd]
 refine Xn (t0' false) rfl FJ (fun _=>rfl) fun b3 H3 p3 lo3 r3 => ?_
 simp only[VX,Nat.reduceEqDiff,Nat.reduceAdd]
 refine BA Rk (by omega) (uG p3 r2) r3 ?_
 simp only[VX,Nat.reduceEqDiff,Nat.reduceAdd]
 refine UH (t0' true) rfl FJ (fun _=>rfl) fun r4 H4 p4 s4 => ?_
 simp only[VX,Nat.reduceEqDiff,Nat.reduceAdd]
 refine MD ci rfl pa (Zy (s4.pre (List.prefix_refl _)).now) rfl ?_
 simp only[Ez,Nn,VX,Nat.reduceEqDiff,Nat.reduceAdd]
 exact aI rfl
end Go.PM
namespace Go.PM
open Go.Proofs
theorem Cx {P:Program} {w:World} {name:String} {d:DataW Unit}:∀ {l:List (String×DataW Unit)} {ps:List MemPlace},DataW.LaidVars P w l ps→(name,d)∈l →
  ∃g t cs fuel p,P.globalNamed name=some g∧(P.globals[g]?).map (·.type)=some t∧w.var? P name=some cs∧DataW.trod (fun _=>()) P w 0 (fun _=>true) false fuel t cs.toList=some (d,p)
 | [],_,_,hm=>by cases hm
 |
  (n,e)::r,ps,h,hm=>by
  obtain⟨g,t,cs,fuel,p,q,h1,h2,h3,h4,h5,_⟩:=h
  rcases List.mem_cons.1 hm with he | hm
  ·cases he
   exact⟨g,t,cs,fuel,p,h1,h2,h3,h4⟩
  ·exact Cx h5 hm
theorem IL {W:World} {l:List (String×DataW Unit)} (hl:laidMetH Tryz.prog l W) (hp:(l.all fun x=>x.2.handleName?.isNone)=true) (hm:("internal/strconv.uint64pow10",Lib.tabData .u64 Lib.pow10Tab)∈l)
  {t e:TypeId} {n:Nat} (hty:(Tryz.prog.globals[1]?).map (·.type)=some t) (ht:Tryz.prog.underlying t=some (.array n e)) (he:Tryz.prog.underlying e=some (.int .u64)) (hce:Tryz.prog.cellsOf e=1) (hct:Tryz.prog.cellsOf t=n):Ms W:=by
 rw[MakeChecks.laidMetH_plain _ _ _ hp] at hl
 obtain⟨ps,h1,_⟩:=hl
 obtain⟨g',t',cs,fuel,p,UU,Yc,WJ,hd⟩:=Cx h1 hm
 have hg:Tryz.prog.globalNamed "internal/strconv.uint64pow10"=some 1:=by kernel_rfl
 obtain rfl:=Option.some.inj (hg.symm.trans UU)
 obtain rfl:=Option.some.inj (hty.symm.trans Yc)
 have Kb:=Lib.cells_of_tab ht he hce hct hd
 intro x hx
 have SC:x=(1,(Lib.pow10Tab.map fun z=>Value.int .u64 z).toArray):=by simpa[X0] using hx
 subst SC
 unfold World.var? at WJ
 rw[hg,Option.bind_some] at WJ
 split at WJ
 ·rename_i xN e' fz' hh
  cases WJ
  refine⟨e',fz',?_⟩
  rw[←Kb]
  simpa using hh
 ·cases WJ
end Go.PM