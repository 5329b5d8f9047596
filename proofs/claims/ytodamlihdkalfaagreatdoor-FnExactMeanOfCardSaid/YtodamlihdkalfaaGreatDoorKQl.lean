/- Texts of a claim, in one: part 12. -/
import Derived.Lib.LaidTab
import Derived.LaidLaws
import Derived.LaidMore
import Derived.MakeChecks
import Derived.Handed
import Derived.Test.YtodamlihdkalfaaGreatDoorKQk
set_option linter.unusedSimpArgs false
set_option linter.unusedVariables false
namespace Go.PM
def GV (cs:List eT) (i:Nat):Int:=((cs[i]?).map (·.t)).getD 0
def Tv (cs:List eT) (i:Nat):Int:=((cs[i]?).map (·.w)).getD 0
def klC (cs:List eT) (i:Nat):Int:=((cs[i]?).map (·.k)).getD 0
def D6 (st:List Int) (i:Nat):Int:=(st[i]?).getD 0
theorem PC {cs:List eT} {i:Nat} {x:eT} (h:cs[i]? = some x):GV cs i=x.t:=by simp[GV,h]
theorem aaH {cs:List eT} {i:Nat} {x:eT} (h:cs[i]? = some x):Tv cs i=x.w:=by simp[Tv,h]
theorem Xj {st:List Int} {i:Nat} {x:Int} (h:st[i]? = some x):D6 st i=x:=by simp[D6,h]
def XQ (cs:List eT) (st:List Int) (t:Int) (i:Nat):Bool:=decide (0≤D6 st i)&&decide (D6 st i≤t)&&decide (t<D6 st i+Tv cs i)
def bz (cs:List eT) (st:List Int) (t:Int):Nat:=(List.range cs.length).countP (XQ cs st t)
def Z4 (cs:List eT) (st:List Int) (t:Int) (i:Nat):Bool:=decide (D6 st i<0)&&decide (GV cs i≤t)
def wt (cs:List eT) (st:List Int) (t:Int):List Nat:=(List.range cs.length).filter (Z4 cs st t)
def Hk (bH:Int) (cs:List eT) (i k:Nat):Bool :=
 if bH=1 then true else if bH=2 then decide (Tv cs i<Tv cs k) else if bH=3 then decide (klC cs i<klC cs k) else false
def wU (bH:Int) (cs:List eT) (b:Option Nat) (i:Nat):Option Nat:=match b with
 | none=>some i
 | some k=>if Hk bH cs i k then some i else some k
def YK (bH:Int) (cs:List eT) (st:List Int) (t:Int):Option Nat:=(wt cs st t).foldl (wU bH cs) none
def fill (bH jZ:Int) (cs:List eT) (t:Int):Nat→List Int→List Int
 | 0,st=>st
 |
  n+1,st=>if (bz cs st t:Int)<jZ then (match YK bH cs st t with
  | none=>st
  | some k=>fill bH jZ cs t n (st.set k t)) else st
def full (bH jZ:Int) (cs:List eT) (st:List Int) (t:Int):Prop:=jZ≤(bz cs st t:Int)∨YK bH cs st t=none
def runT (bH jZ:Int) (cs:List eT):Int→Nat→List Int→List Int
 | _,0,st=>st
 | t,n+1,st=>runT bH jZ cs (t+1) n (fill bH jZ cs t cs.length st)
def stL (bH jZ:Int) (cs:List eT):List Int:=runT bH jZ cs 0 100000 (List.replicate cs.length (-1))
section
variable {bH jZ:Int} {cs:List eT} {st:List Int} {t:Int}
theorem tR (h:full bH jZ cs st t) (n:Nat):fill bH jZ cs t n st=st:=by
 cases n with
 | zero=>rfl
 |
  succ n =>
  rw[fill]
  rcases h with h | h
  ·rw[if_neg (by omega)]
  ·split
   ·rw[h]
   ·rfl
theorem K4 (m:Nat):∀(t:Int) (n:Nat),(∀u,t≤u→u<t+m→full bH jZ cs st u)→m≤n→runT bH jZ cs t n st=runT bH jZ cs (t+m) (n-m) st:=by
 induction m with
 | zero=>intro t n _ _;simp
 |
  succ m ih =>
  intro t n h hm
  obtain⟨n,rfl⟩:∃k,n=k+1:=⟨n-1,by omega⟩
  rw[runT,tR (h t (Int.le_refl _) (by omega)),ih (t+1) n (fun u h1 h2=>h u (by omega) (by omega)) (by omega)]
  congr 1
  ·omega
  ·omega
theorem Tu (n:Nat):∀(t:Int),(∀u,t≤u→full bH jZ cs st u)→runT bH jZ cs t n st=st:=by
 intro t h
 rw[K4 n t n (fun u h1 _=>h u h1) (Nat.le_refl _),Nat.sub_self]
 rfl
theorem RD {a b:Int} (ha:0≤a) (Dw:a≤b) (hb:b≤100000) (h:∀u,a≤u→u<b→full bH jZ cs st u):runT bH jZ cs a (100000-a).toNat st=runT bH jZ cs b (100000-b).toNat st:=by
 rw[K4 (b-a).toNat a _ (fun u h1 h2=>h u h1 (by omega)) (by omega)]
 congr 1
 ·omega
 ·omega
theorem Va {a:Int} (ha:0≤a) (hb:a<100000):runT bH jZ cs a (100000-a).toNat st=runT bH jZ cs (a+1) (100000-(a+1)).toNat (fill bH jZ cs a cs.length st):=by
 rw[show (100000-a).toNat=(100000-(a+1)).toNat+1 by omega,runT]
theorem K3 {ws:List Nat} {k:Nat}:∃j,(ws.foldl (wU bH cs) (some k))=some j∧(j=k∨j∈ws):=by
 induction ws generalizing k with
 | nil=>exact⟨k,rfl,.inl rfl⟩
 |
  cons i ws ih =>
  rw[List.foldl_cons]
  have:∃q,wU bH cs (some k) i=some q∧(q=k∨q=i):=by
   unfold wU
   simp only
   split
   ·exact⟨i,rfl,.inr rfl⟩
   ·exact⟨k,rfl,.inl rfl⟩
  obtain⟨q,hq,hqq⟩:=this
  rw[hq]
  obtain⟨j,h1,h2⟩:=ih (k:=q)
  refine⟨j,h1,?_⟩
  rcases h2 with rfl | h2
  ·rcases hqq with rfl | rfl
   ·exact .inl rfl
   ·exact .inr List.mem_cons_self
  ·exact .inr (List.mem_cons_of_mem _ h2)
theorem uK:YK bH cs st t=none↔wt cs st t=[]:=by
 unfold YK
 cases h:wt cs st t with
 | nil=>exact⟨fun _=>rfl,fun _=>rfl⟩
 |
  cons i ws =>
  refine⟨fun h2 => ?_,fun h2=>(by cases h2)⟩
  rw[List.foldl_cons] at h2
  obtain⟨j,h3,_⟩:=K3 (bH:=bH) (cs:=cs) (ws:=ws) (k:=i)
  rw[show wU bH cs none i=some i from rfl,h3] at h2
  cases h2
theorem MO {k:Nat} (h:YK bH cs st t=some k):k∈wt cs st t:=by
 unfold YK at h
 cases hw:wt cs st t with
 | nil=>rw[hw] at h;cases h
 |
  cons i ws =>
  rw[hw,List.foldl_cons] at h
  obtain⟨j,h3,h4⟩:=K3 (bH:=bH) (cs:=cs) (ws:=ws) (k:=i)
  rw[show wU bH cs none i=some i from rfl,h3] at h
  injection h with h
  subst h
  rcases h4 with rfl | h4
  ·exact List.mem_cons_self
  ·exact List.mem_cons_of_mem _ h4
theorem Fu {k:Nat}:k∈wt cs st t↔k<cs.length∧D6 st k<0∧GV cs k≤t:=by
 simp[wt,Z4]
theorem VG:(wt cs st t).Nodup:=List.Pairwise.filter _ List.nodup_range
theorem Dz {k i:Nat} (hk:k<st.length):D6 (st.set k t) i=if i=k then t else D6 st i:=by
 unfold D6
 rw[List.getElem?_set]
 by_cases h:i=k
 ·subst h
  simp[hk]
 ·rw[if_neg (fun h'=>h h'.symm),if_neg h]
theorem Mi {p q:Nat→Bool} {k:Nat} (hp:p k=false) (h:∀i,i≠k→q i=p i):∀n,(List.range n).countP q=(List.range n).countP p+if k<n∧q k=true then 1 else 0:=by
 intro n
 induction n with
 | zero=>simp
 |
  succ n ih =>
  rw[List.range_succ,List.countP_append,List.countP_append,ih]
  by_cases hk:n=k
  ·subst hk
   simp only[List.countP_singleton,hp]
   cases hq:q n<;>simp
  ·rw[List.countP_singleton,List.countP_singleton,h n hk]
   have:(k<n+1∧q k=true)↔(k<n∧q k=true):=by
    constructor
    ·rintro⟨h1,h2⟩;exact⟨by omega,h2⟩
    ·rintro⟨h1,h2⟩;exact⟨by omega,h2⟩
   simp only[this]
   omega
theorem ZN {k:Nat} {u:Int} (hk:k<cs.length) (hl:st.length=cs.length) (hs:D6 st k<0) (h0:0≤t):bz cs (st.set k t) u=bz cs st u+if t≤u∧u<t+Tv cs k then 1 else 0:=by
 unfold bz
 rw[Mi (p:=XQ cs st u) (q:=XQ cs (st.set k t) u) (k:=k)]
 ·congr 1
  have:(k<cs.length∧XQ cs (st.set k t) u k=true)↔(t≤u∧u<t+Tv cs k):=by
   simp only[XQ,Dz (t:=t) (i:=k) (by omega:k<st.length),if_true,Bool.and_eq_true,decide_eq_true_eq]
   constructor
   ·rintro⟨_,⟨_,h1⟩,h2⟩;exact⟨h1,h2⟩
   ·rintro⟨h1,h2⟩;exact⟨hk,⟨h0,h1⟩,h2⟩
  simp only[this]
 ·simp only[XQ]
  rw[decide_eq_false (by omega)]
  rfl
 ·intro i hi
  simp only[XQ,Dz (t:=t) (i:=i) (by omega:k<st.length),if_neg hi]
theorem Z6 {k:Nat} {u:Int} (hl:st.length=cs.length) (hk:k<cs.length) (h0:0≤t):wt cs (st.set k t) u=(wt cs st u).filter (· != k):=by
 unfold wt
 rw[List.filter_filter]
 refine List.filter_congr fun i hi => ?_
 simp only[Z4,Dz (t:=t) (i:=i) (by omega:k<st.length)]
 by_cases h:i=k
 ·subst h
  simp
  omega
 ·simp[h]
def CW (st:List Int):Nat:=st.countP (fun s=>decide (s<0))
theorem yI {k:Nat} (hk:k<st.length) (hs:D6 st k<0) (h0:0≤t):CW (st.set k t)+1=CW st:=by
 unfold CW
 rw[List.countP_set hk]
 have hx:st[k]=D6 st k:=by
  rw[Xj (x:=st[k]) (List.getElem?_eq_getElem hk)]
 have h1:decide (st[k]<0)=true:=by rw[hx];exact decide_eq_true hs
 have h2:decide (t<0)=false:=decide_eq_false (by omega)
 have h3:0<st.countP (fun s=>decide (s<0)):=by
  rw[List.countP_pos_iff]
  exact⟨st[k],List.getElem_mem hk,h1⟩
 simp only[h1,h2,if_true,Bool.false_eq_true,if_false]
 omega
theorem TL (hl:st.length=cs.length) (h0:0≤t):∀(n m:Nat),CW st≤n→CW st≤m→fill bH jZ cs t n st=fill bH jZ cs t m st:=by
 intro n
 induction n generalizing st with
 |
  zero =>
  intro m hn hm
  have hf:full bH jZ cs st t:=by
   right
   rw[uK]
   cases hw:wt cs st t with
   | nil=>rfl
   |
    cons i ws =>
    have h1:i∈wt cs st t:=by rw[hw];exact List.mem_cons_self
    obtain⟨h2,h3,_⟩:=Fu.1 h1
    have:=yI (t:=t) (by omega:i<st.length) h3 h0
    omega
  rw[tR hf,tR hf]
 |
  succ n ih =>
  intro m hn hm
  cases m with
  |
   zero =>
   have hf:full bH jZ cs st t:=by
    right
    rw[uK]
    cases hw:wt cs st t with
    | nil=>rfl
    |
     cons i ws =>
     have h1:i∈wt cs st t:=by rw[hw];exact List.mem_cons_self
     obtain⟨h2,h3,_⟩:=Fu.1 h1
     have:=yI (t:=t) (by omega:i<st.length) h3 h0
     omega
   rw[tR hf,tR hf]
  |
   succ m =>
   rw[fill,fill]
   split
   ·split
    ·rfl
    ·rename_i k hk
     obtain⟨h2,h3,_⟩:=Fu.1 (MO hk)
     have:=yI (t:=t) (by omega:k<st.length) h3 h0
     exact ih (by simp[hl]) m (by omega) (by omega)
   ·rfl
theorem R2:CW st≤st.length:=List.countP_le_length
theorem TS {k:Nat} (hl:st.length=cs.length) (h0:0≤t) (hb:(bz cs st t:Int)<jZ) (hk:YK bH cs st t=some k):fill bH jZ cs t cs.length (st.set k t)=fill bH jZ cs t cs.length st:=by
 obtain⟨h2,h3,_⟩:=Fu.1 (MO hk)
 have h4:=yI (t:=t) (by omega:k<st.length) h3 h0
 have h5:=R2 (st:=st)
 rw[TL (st:=st) hl h0 cs.length (cs.length+1) (by omega) (by omega)]
 conv=>rhs;rw[fill,if_pos hb,hk]
def evT (cs:List eT) (st:List Int) (i:Nat):Int:=if 0≤D6 st i then D6 st i+Tv cs i else GV cs i
def abC (cs:List eT) (st:List Int) (t:Int) (b:Int) (i:Nat):Int:=if t<evT cs st i∧(b<0∨evT cs st i<b) then evT cs st i else b
def later (cs:List eT) (st:List Int) (t:Int):Int:=(List.range cs.length).foldl (abC cs st t) (-1)
structure Way (cs:List eT) (st:List Int) (t:Int):Prop where
 len:st.length=cs.length
 low:∀i,i<cs.length → -1≤D6 st i
 high:∀i,i<cs.length→D6 st i≤t
 bd:∀i,i<cs.length→D6 st i+1000*(CW st:Int)≤10000+1000*(cs.length:Int)
 tm:0≤t∧t+1000*(CW st:Int)≤11000+1000*(cs.length:Int)
theorem Way.set {k:Nat} (h:Way cs st t) (hk:k<cs.length) (hs:D6 st k<0):Way cs (st.set k t) t:=by
 have hl:=h.len
 have Uy:=h.tm
 have h4:=yI (t:=t) (by omega:k<st.length) hs Uy.1
 refine⟨by simp[hl],fun i hi => ?_,fun i hi => ?_,fun i hi => ?_,Uy.1,by omega⟩
 all_goals rw[Dz (by omega:k<st.length)]
 ·have:=h.low i hi
  split<;>omega
 ·have:=h.high i hi
  split<;>omega
 ·have:=h.bd i hi
  split<;>omega
theorem Way.le (h:Way cs st t) (hc:iW cs):t≤35000∧∀i,i<cs.length→D6 st i≤34000:=by
 have hlen:=hc.2
 have Uy:=h.tm
 refine⟨by omega,fun i hi => ?_⟩
 have:=h.bd i hi
 omega
theorem iW.bnd (hc:iW cs) {i:Nat} (hi:i<cs.length):(0≤GV cs i∧GV cs i≤10000)∧(1≤Tv cs i∧Tv cs i≤1000):=by
 have hx:cs[i]? = some cs[i]:=List.getElem?_eq_getElem hi
 have:=hc.at hx
 rw[PC hx,aaH hx]
 exact⟨this.1,this.2.1⟩
def Em (bH:Int) (cs:List eT) (ws:List Nat):Nat :=
 if bH=1 then ws.length-1 else if bH=2∨bH=3 then (List.range ws.length).foldl (fun b k=>if Hk bH cs (ws.getD k 0) (ws.getD b 0) then k else b) 0 else 0
theorem QE {ws:List Nat} {k:Nat} (h:∀i j,Hk bH cs i j=false):ws.foldl (wU bH cs) (some k)=some k:=by
 induction ws with
 | nil=>rfl
 |
  cons i ws ih =>
  rw[List.foldl_cons]
  have:wU bH cs (some k) i=some k:=by
   unfold wU
   simp only[h]
   rfl
  rw[this,ih]
theorem Vn {ws:List Nat} (eW:ws≠[]) (hr:0≤bH∧bH≤3):Em bH cs ws<ws.length∧ws[Em bH cs ws]? = ws.foldl (wU bH cs) none:=by
 have hlen:0<ws.length:=List.length_pos_iff.2 eW
 unfold Em
 by_cases h1:bH=1
 ·rw[if_pos h1]
  rcases List.eq_nil_or_concat ws with rfl | ⟨xs,y,rfl⟩
  ·exact absurd rfl eW
  ·rw[List.concat_eq_append,List.foldl_append]
   refine⟨by simp,?_⟩
   simp only[List.length_append,List.length_cons,List.length_nil,Nat.zero_add,Nat.add_sub_cancel,List.foldl_cons,List.foldl_nil]
   rw[List.getElem?_append_right (Nat.le_refl _),Nat.sub_self]
   unfold wU
   split
   ·rfl
   ·simp only[Hk,if_pos h1,if_true]
    rfl
 ·rw[if_neg h1]
  by_cases h2:bH=2∨bH=3
  ·rw[if_pos h2]
   have alX:∀i,Hk bH cs i i=false:=fun i=>by
    unfold Hk
    rw[if_neg h1]
    split
    ·exact decide_eq_false (by omega)
    ·split
     ·exact decide_eq_false (by omega)
     ·rfl
   have key:∀n,n<ws.length→(List.range (n+1)).foldl (fun b k=>if Hk bH cs (ws.getD k 0) (ws.getD b 0) then k else b) 0<ws.length ∧
     ws[(List.range (n+1)).foldl (fun b k=>if Hk bH cs (ws.getD k 0) (ws.getD b 0) then k else b) 0]? = (ws.take (n+1)).foldl (wU bH cs) none:=by
    intro n
    induction n with
    |
     zero =>
     intro _
     have:(List.range (0+1)).foldl (fun b k=>if Hk bH cs (ws.getD k 0) (ws.getD b 0) then k else b) 0=0:=by
      simp[List.range_succ,alX]
     rw[this]
     refine⟨hlen,?_⟩
     cases ws with
     | nil=>exact absurd rfl eW
     | cons i ws=>rfl
    |
     succ n ih =>
     intro hn
     obtain⟨g1,g2⟩:=ih (by omega)
     rw[List.range_succ,List.foldl_append,List.foldl_cons,List.foldl_nil]
     generalize (List.range (n+1)).foldl (fun b k=>if Hk bH cs (ws.getD k 0) (ws.getD b 0) then k else b) 0=b at *
     obtain⟨x,hx⟩:∃x,ws[n+1]? = some x:=⟨_,List.getElem?_eq_getElem hn⟩
     obtain⟨y,hy⟩:∃y,ws[b]? = some y:=⟨_,List.getElem?_eq_getElem g1⟩
     rw[List.take_add_one,hx,List.foldl_append,←g2,hy]
     simp only[Option.toList_some,List.foldl_cons,List.foldl_nil,List.getD_eq_getElem?_getD,hx,hy,Option.getD_some,wU]
     split
     ·exact⟨hn,hx⟩
     ·exact⟨g1,hy⟩
   have:=key (ws.length-1) (by omega)
   rw[show ws.length-1+1=ws.length by omega,List.take_of_length_le (Nat.le_refl _)] at this
   exact this
  ·rw[if_neg h2]
   refine⟨hlen,?_⟩
   have hb:∀i j,Hk bH cs i j=false:=fun i j=>by
    unfold Hk
    rw[if_neg h1,if_neg (by omega),if_neg (by omega)]
   cases ws with
   | nil=>exact absurd rfl eW
   |
    cons i ws =>
    rw[List.foldl_cons,show wU bH cs none i=some i from rfl,QE hb]
    rfl
end
end Go.PM
namespace Go.PM
def Ib (st:List Int) (i:Nat):Bool:=decide (D6 st i<0)
def X2 (u e:Int):Bool:=decide (u<e)
section
variable {bH jZ:Int} {cs:List eT} {st:List Int} {t:Int}
theorem iW.sorted (hc:iW cs):∀ {i j:Nat},i≤j→j<cs.length→GV cs i≤GV cs j:=by
 intro i j Xz hj
 induction j with
 |
  zero =>
  have:i=0:=by omega
  subst this
  exact Int.le_refl _
 |
  succ j ih =>
  rcases Nat.lt_or_ge i (j+1) with h | h
  ·have h1:=ih (by omega) (by omega)
   have hx:cs[j+1]? = some cs[j+1]:=List.getElem?_eq_getElem hj
   have hy:cs[j]? = some cs[j]:=List.getElem?_eq_getElem (by omega)
   have h2:=(hc.1 (j+1) _ hx).2 _ (by omega) (by rw[Nat.add_sub_cancel];exact hy)
   rw[PC hx]
   rw[PC hy] at h1
   omega
  ·have:i=j+1:=by omega
   subst this
   exact Int.le_refl _
theorem Cg {bL:Nat} (Zm:bL≤cs.length) (past:∀i,i<bL→GV cs i≤t) (XB:∀i,bL≤i→i<cs.length→t<GV cs i):wt cs st t=(List.range bL).filter (Ib st):=by
 unfold wt
 rw[show cs.length=bL+(cs.length-bL) by omega,List.range_add,List.filter_append]
 have h1:(List.range bL).filter (Z4 cs st t)=(List.range bL).filter (Ib st):=by
  refine List.filter_congr fun i hi => ?_
  rw[List.mem_range] at hi
  simp[Z4,Ib,past i hi]
 have h2:((List.range (cs.length-bL)).map fun x=>bL+x).filter (Z4 cs st t)=[]:=by
  rw[List.filter_eq_nil_iff]
  intro i hi
  obtain⟨j,hj,rfl⟩:=List.mem_map.1 hi
  rw[List.mem_range] at hj
  have:=XB (bL+j) (by omega) (by omega)
  simp only[Z4,Bool.and_eq_true,decide_eq_true_eq]
  omega
 rw[h1,h2,List.append_nil]
structure Hb (bH jZ:Int) (cs:List eT) (st:List Int) (t:Int) (bL:Nat) (ws:List Nat) (ends:List Int):Prop where
 len:st.length=cs.length
 low:∀i,i<cs.length → -1≤D6 st i
 high:∀i,i<cs.length→D6 st i≤t
 bd:∀i,i<cs.length→D6 st i+1000*(CW st:Int)≤10000+1000*(cs.length:Int)
 tm : -1≤t
 Jp:bL≤cs.length
 past:∀i,i<bL→GV cs i≤t
 XB:∀i,bL≤i→i<cs.length→t<GV cs i∧D6 st i<0
 TV:ws=wt cs st t
 cnt:∀u,t≤u→ends.countP (X2 u)=bz cs st u
 ef:∀e∈ends,t<e
 eb:∀e∈ends,e+1000*(CW st:Int)≤11000+1000*(cs.length:Int)
 fl:full bH jZ cs st t
 room:ws.length+ends.length≤bL
 es:(ends.length:Int)≤jZ
 run:runT bH jZ cs (t+1) (100000-(t+1)).toNat st=stL bH jZ cs
theorem Eg {n i:Nat} (h:i<n):D6 (List.replicate n (-1)) i = -1:=Xj (by rw[List.getElem?_replicate,if_pos h])
theorem Hb.start (hc:iW cs) (hs:1≤jZ):Hb bH jZ cs (List.replicate cs.length (-1)) (-1) 0 [] []:=by
 have hw:wt cs (List.replicate cs.length (-1)) (-1)=[]:=by
  rw[Cg (Nat.zero_le _) (fun i hi=>by omega) fun i _ hi=>by have:=hc.bnd hi;omega]
  rfl
 have hu:CW (List.replicate cs.length (-1))=cs.length:=by simp[CW,List.countP_replicate]
 refine⟨by simp,fun i hi=>by rw[Eg hi];decide,fun i hi=>by rw[Eg hi];decide,fun i hi=>by rw[Eg hi,hu];omega,by decide,Nat.zero_le _,fun i hi=>by omega,fun i _ hi=>⟨by have:=hc.bnd hi;omega,by rw[Eg hi];decide⟩,hw.symm,fun u _ => ?_,fun e he=>(by cases he),fun e he=>(by cases he),.inr (uK.2 hw),Nat.le_refl _,by simp;omega,rfl⟩
 unfold bz
 rw[(List.countP_eq_zero (p:=XQ cs (List.replicate cs.length (-1)) u)).2]
 ·rfl
 ·intro i hi
  rw[List.mem_range] at hi
  simp only[XQ,Eg hi,Bool.and_eq_true,decide_eq_true_eq]
  omega
def MT (w:Bool) (b e:Int):Int:=if b<0∨(w=true∧e<b) then e else b
theorem abO {es:List Int} {b:Int} (h:0≤b):es.foldl (MT false) b=b:=by
 induction es with
 | nil=>rfl
 |
  cons e es ih =>
  rw[List.foldl_cons]
  have:MT false b e=b:=by
   unfold MT
   rw[if_neg (by simp;omega)]
  rw[this,ih]
theorem Zf:∀ {es:List Int} {b:Int},(∀e∈es,0≤e)→(es.foldl (MT true) b=b∨es.foldl (MT true) b∈es)∧(∀e∈es,es.foldl (MT true) b≤e)∧(0≤b→es.foldl (MT true) b≤b)∧(es≠[]→0≤es.foldl (MT true) b)
 | [],b,_=>⟨.inl rfl,fun e he=>(by cases he),fun _=>Int.le_refl _,fun h=>absurd rfl h⟩
 |
  e::es,b,h=>by
  rw[List.foldl_cons]
  have h1:=h e List.mem_cons_self
  have h2:∀e'∈es,0≤e':=fun e' he=>h e' (List.mem_cons_of_mem _ he)
  have hm:(MT true b e=b∨MT true b e=e)∧MT true b e≤e∧(0≤b→MT true b e≤b)∧0≤MT true b e:=by
   unfold MT
   by_cases hc:b<0∨(true=true∧e<b)
   ·rw[if_pos hc]
    refine⟨.inr rfl,Int.le_refl _,fun hb => ?_,h1⟩
    rcases hc with hc | hc<;>omega
   ·rw[if_neg hc]
    simp at hc
    exact⟨.inl rfl,hc.2,fun _=>Int.le_refl _,hc.1⟩
  obtain⟨m1,m2,m3,m4⟩:=hm
  obtain⟨g1,g2,g3,g4⟩:=Zf (es:=es) (b:=MT true b e) h2
  have g3:=g3 m4
  refine⟨?_,?_,fun hb=>by have:=m3 hb;omega,fun _ => ?_⟩
  ·rcases g1 with g1 | g1
   ·rw[g1]
    rcases m1 with m1 | m1
    ·exact .inl m1
    ·rw[m1];exact .inr List.mem_cons_self
   ·exact .inr (List.mem_cons_of_mem _ g1)
  ·intro e' he
   rcases List.mem_cons.1 he with rfl | he
   ·omega
   ·exact g2 e' he
  ·rcases g1 with g1 | g1
   ·rw[g1];exact m4
   ·exact h2 _ g1
def Mv (cs:List eT) (bL:Nat):Int:=if bL<cs.length then GV cs bL else -1
def Ee (cs:List eT) (bL:Nat) (ws:List Nat) (ends:List Int):Int:=ends.foldl (MT (decide (0<ws.length))) (Mv cs bL)
theorem Hb.UJ {bL:Nat} {ws:List Nat} {ends:List Int} (h:Hb bH jZ cs st t bL ws ends):ends.length=bz cs st t:=by
 rw[←h.cnt t (Int.le_refl _),List.countP_eq_length.2]
 intro e he
 exact decide_eq_true (h.ef e he)
theorem Hb.time {bL:Nat} {ws:List Nat} {ends:List Int} (h:Hb bH jZ cs st t bL ws ends) (hc:iW cs) (hs:1≤jZ) (hg:bL<cs.length∨0<ws.length) :
  (t<Ee cs bL ws ends∧Ee cs bL ws ends+1000*(CW st:Int)≤11000+1000*(cs.length:Int))∧(∀i,bL≤i→i<cs.length→Ee cs bL ws ends≤GV cs i) ∧
   (bL<cs.length∧GV cs bL=Ee cs bL ws ends∨0<ws.length∧Ee cs bL ws ends∈ends)∧runT bH jZ cs (Ee cs bL ws ends) (100000-Ee cs bL ws ends).toNat st=stL bH jZ cs:=by
 have Uy:=h.tm
 have MS:=R2 (st:=st)
 have hlen:=h.len
 have he0:∀e∈ends,0≤e:=fun e he=>by have:=h.ef e he;omega
 have akW:=hc.2
 by_cases hw:0<ws.length
 ·have hbz:jZ≤(bz cs st t:Int):=by
   rcases h.fl with hf | hf
   ·exact hf
   ·rw[uK,←h.TV] at hf
    rw[hf] at hw
    simp at hw
  have eW:ends≠[]:=by
   intro he
   have:=h.UJ
   rw[he] at this
   simp at this
   omega
  obtain⟨g1,g2,g3,g4⟩:=Zf (es:=ends) (b:=Mv cs bL) he0
  have SM:Ee cs bL ws ends=ends.foldl (MT true) (Mv cs bL):=by unfold Ee;rw[decide_eq_true hw]
  rw[SM]
  generalize ends.foldl (MT true) (Mv cs bL)=w at *
  have g4:=g4 eW
  have I2:(bL<cs.length∧GV cs bL=w)∨w∈ends:=by
   rcases g1 with g1 | g1
   ·unfold Mv at g1
    split at g1
    ·rename_i lG
     exact .inl ⟨lG,g1.symm⟩
    ·omega
   ·exact .inr g1
  have htw:t<w∧w+1000*(CW st:Int)≤11000+1000*(cs.length:Int):=by
   rcases I2 with⟨h1,h2⟩ | h1
   ·have:=h.XB bL (Nat.le_refl _) h1
    have:=hc.bnd h1
    omega
   ·exact⟨h.ef _ h1,h.eb _ h1⟩
  refine⟨htw,fun i h1 h2 => ?_,I2.imp id fun h1=>⟨hw,h1⟩,?_⟩
  ·have h3:=hc.sorted h1 h2
   have h4:=hc.bnd (i:=bL) (by omega)
   have h5:Mv cs bL=GV cs bL:=by unfold Mv;rw[if_pos (by omega)]
   have:=g3 (by rw[h5];omega)
   omega
  ·rw[←h.run]
   refine(RD (by omega) (by omega) (by omega) fun u h1 h2 => .inl ?_).symm
   rw[←h.cnt u (by omega),(List.countP_eq_length (p:=X2 u)).2 fun e he=>decide_eq_true (by have:=g2 e he;omega),h.UJ]
   exact hbz
 ·have lG:bL<cs.length:=by omega
  have h5:Mv cs bL=GV cs bL:=by unfold Mv;rw[if_pos lG]
  have h4:=hc.bnd lG
  have hf:=(h.XB bL (Nat.le_refl _) lG).1
  have SM:Ee cs bL ws ends=GV cs bL:=by unfold Ee;rw[decide_eq_false hw,abO (by rw[h5];omega),h5]
  rw[SM]
  refine⟨⟨hf,by omega⟩,fun i h1 h2=>hc.sorted h1 h2,.inl ⟨lG,rfl⟩,?_⟩
  rw[←h.run]
  refine(RD (by omega) (by omega) (by omega) fun u h1 h2 => .inr ?_).symm
  rw[uK,Cg h.Jp (fun i hi=>by have:=h.past i hi;omega) fun i h3 h4=>by have:=hc.sorted h3 h4;omega]
  have e1:=Cg (st:=st) h.Jp h.past fun i h3 h4=>(h.XB i h3 h4).1
  rw[←e1,←h.TV]
  exact List.eq_nil_of_length_eq_zero (by omega)
theorem Hb.done {bL:Nat} {ws:List Nat} {ends:List Int} (h:Hb bH jZ cs st t bL ws ends) (Zm:¬bL<cs.length) (hw:¬0<ws.length):st=stL bH jZ cs:=by
 rw[←h.run]
 refine(Tu _ _ fun u hu => .inr ?_).symm
 have lG:=h.Jp
 have e1:=Cg (st:=st) h.Jp h.past fun i h3 h4=>(h.XB i h3 h4).1
 rw[uK,Cg h.Jp (fun i hi=>by have:=h.past i hi;omega) fun i h3 h4=>by omega,←e1,←h.TV]
 exact List.eq_nil_of_length_eq_zero (by omega)
structure Ph4 (bH jZ:Int) (cs:List eT) (XL:List Int) (now:Int) (bL XI:Nat) (st:List Int) (ws:List Nat) (ends:List Int):Prop where
 TI:Way cs st now
 TV:ws=wt cs st now
 cnt:∀u,now≤u→ends.countP (X2 u)=bz cs st u
 ef:∀e∈ends,now<e
 eb:∀e∈ends,e+1000*(CW st:Int)≤11000+1000*(cs.length:Int)
 fl:fill bH jZ cs now cs.length st=fill bH jZ cs now cs.length XL
 past:∀i,i<bL→GV cs i≤now
 XB:∀i,bL≤i→i<cs.length→now<GV cs i∧D6 st i<0
 XI:ws.length+ends.length=XI
 es:(ends.length:Int)≤jZ
theorem Ag:∀ {l:List Nat} {i k:Nat},l.Nodup→l[i]? = some k→l.eraseIdx i=l.filter (· != k)
 | [],_,_,_,h=>by cases h
 |
  x::l,0,k,hn,h=>by
  injection h with h
  subst h
  rw[List.nodup_cons] at hn
  rw[List.eraseIdx_cons_zero,List.filter_cons_of_neg (by simp),List.filter_eq_self.2]
  intro y hy
  have:y≠x:=fun he=>hn.1 (he▸hy)
  simpa using this
 |
  x::l,i+1,k,hn,h=>by
  rw[List.nodup_cons] at hn
  rw[List.getElem?_cons_succ] at h
  have hx:x≠k:=fun he=>hn.1 (he▸List.mem_of_getElem? h)
  rw[List.eraseIdx_cons_succ,List.filter_cons_of_pos (by simpa using hx),Ag hn.2 h]
theorem Ph4.step {now:Int} {XL:List Int} {bL XI:Nat} {ws:List Nat} {ends:List Int} (h:Ph4 bH jZ cs XL now bL XI st ws ends) (hc:iW cs) (hr:0≤bH∧bH≤3) (hb:(ends.length:Int)<jZ) (eW:0<ws.length) :
  ∃k,ws[Em bH cs ws]? = some k∧k<cs.length∧Em bH cs ws<ws.length∧(0≤now∧now≤35000)∧Ph4 bH jZ cs XL now bL XI (st.set k now) (ws.eraseIdx (Em bH cs ws)) (ends++[now+Tv cs k]):=by
 have TB:ws≠[]:=fun he=>by rw[he] at eW;simp at eW
 obtain⟨g1,g2⟩:=Vn (cs:=cs) TB hr
 obtain⟨k,hk⟩:∃k,ws[Em bH cs ws]? = some k:=⟨_,List.getElem?_eq_getElem g1⟩
 have hnx:YK bH cs st now=some k:=by
  unfold YK
  rw[←h.TV,←g2,hk]
 obtain⟨m1,m2,m3⟩:=Fu.1 (MO hnx)
 have Uy:=h.TI.tm
 have hle:=(h.TI.le hc).1
 have hbz:(bz cs st now:Int)=ends.length:=by
  rw[←h.cnt now (Int.le_refl _),(List.countP_eq_length (p:=X2 now)).2 fun e he=>decide_eq_true (h.ef e he)]
 have Lv:k<st.length:=by rw[h.TI.len];exact m1
 have hus:=yI (t:=now) Lv m2 Uy.1
 have hwk:=(hc.bnd m1).2
 refine⟨k,hk,m1,g1,⟨Uy.1,hle⟩,h.TI.set m1 m2,?_,?_,?_,?_,?_,h.past,?_,?_,?_⟩
 ·rw[Z6 h.TI.len m1 Uy.1,←h.TV]
  exact Ag (by rw[h.TV];exact VG) hk
 ·intro u hu
  rw[List.countP_append,h.cnt u hu,ZN m1 h.TI.len m2 Uy.1,List.countP_singleton]
  congr 1
  simp only[X2,decide_eq_true_eq]
  by_cases hq:u<now+Tv cs k
  ·rw[if_pos hq,if_pos ⟨hu,hq⟩]
  ·rw[if_neg hq,if_neg fun h'=>hq h'.2]
 ·intro e he
  rcases List.mem_append.1 he with he | he
  ·exact h.ef e he
  ·rw[List.mem_singleton] at he
   omega
 ·intro e he
  rcases List.mem_append.1 he with he | he
  ·have:=h.eb e he
   omega
  ·rw[List.mem_singleton] at he
   omega
 ·rw[TS h.TI.len Uy.1 (by rw[hbz];exact hb) hnx,h.fl]
 ·intro i h1 h2
  have h3:=h.XB i h1 h2
  refine⟨h3.1,?_⟩
  rw[Dz Lv,if_neg (fun he=>by subst he;omega)]
  exact h3.2
 ·rw[List.length_eraseIdx_of_lt g1,List.length_append,List.length_cons,List.length_nil]
  have:=h.XI
  omega
 ·rw[List.length_append,List.length_cons,List.length_nil]
  omega
theorem Ph4.done {now:Int} {XL:List Int} {bL XI:Nat} {ws:List Nat} {ends:List Int} (h:Ph4 bH jZ cs XL now bL XI st ws ends) (hc:iW cs) (lG:bL≤cs.length) (ht:XI≤bL) (hf:jZ≤(ends.length:Int)∨ws=[])
  (hr:runT bH jZ cs now (100000-now).toNat XL=stL bH jZ cs):Hb bH jZ cs st now bL ws ends:=by
 have Uy:=h.TI.tm
 have hle:=(h.TI.le hc).1
 have hbz:(bz cs st now:Int)=ends.length:=by
  rw[←h.cnt now (Int.le_refl _),(List.countP_eq_length (p:=X2 now)).2 fun e he=>decide_eq_true (h.ef e he)]
 have ZD:full bH jZ cs st now:=by
  rcases hf with hf | hf
  ·exact .inl (by rw[hbz];exact hf)
  ·exact .inr (uK.2 (by rw[←h.TV];exact hf))
 refine⟨h.TI.len,h.TI.low,h.TI.high,h.TI.bd,by omega,lG,h.past,h.XB,h.TV,h.cnt,h.ef,h.eb,ZD,by rw[h.XI];exact ht,h.es,?_⟩
 have h1:=tR ZD cs.length
 rw[h.fl] at h1
 rw[Va Uy.1 (by omega),h1] at hr
 exact hr
end
end Go.PM
namespace Go.PM
end Go.PM
namespace Go.PM
section
variable {α:Type} {f:α→VV} {H:aB} {b g e lo:Nat} {X Y:List α}
end
end Go.PM
namespace Go.PM
def SA (N:Nat) (hi:Int) (st:List (Nat×Int)):Prop:=∀p∈st,p.1<N∧1≤p.2∧p.2≤hi
theorem SA.cons {N:Nat} {hi:Int} {p:Nat×Int} {st:List (Nat×Int)} (h:SA N hi (p::st)):(p.1<N∧1≤p.2∧p.2≤hi)∧SA N hi st:=⟨h p List.mem_cons_self,fun q hq=>h q (List.mem_cons_of_mem _ hq)⟩
theorem SA.of {N:Nat} {hi:Int} {p:Nat×Int} {st:List (Nat×Int)} (hp:p.1<N∧1≤p.2∧p.2≤hi) (h:SA N hi st):SA N hi (p::st):=fun q hq=>by
 rcases List.mem_cons.1 hq with rfl | hq
 ·exact hp
 ·exact h q hq
end Go.PM
namespace Go.PM
structure apO (bH jZ room:Int) (cs:List eT) where
 I:Nat→Nat→List Nat→List Int→List Int→Prop
 A:Nat→Int→Nat→List Nat→List Int→List Int→Prop
 S:Nat→Int→Nat→List Nat→List Int→List Int→Prop
 bI:∀ {m bL ws ends st},I m bL ws ends st→bL≤cs.length∧st.length=cs.length∧ws.length≤24∧ends.length≤24
 bA:∀ {m now bL ws ends st},A m now bL ws ends st→bL≤cs.length∧st.length=cs.length∧ws.length≤24∧ends.length≤24
 bS:∀ {m now bL ws ends st},S m now bL ws ends st→bL≤cs.length∧st.length=cs.length∧ws.length≤24∧ends.length≤24∧(∀i∈ws,i<cs.length)∧(0≤now∧now≤100000)
 start:∃m,I m 0 [] [] (List.replicate cs.length (-1))
 toA:∀ {m bL ws ends st},I m bL ws ends st→bL<cs.length∨0<ws.length→A m (Ee cs bL ws ends) bL ws (ends.filter (X2 (Ee cs bL ws ends))) st
 aqH:∀ {m now bL ws ends st},A m now bL ws ends st→bL<cs.length→GV cs bL=now→A m now (bL+1) (if (ws.length:Int)+(ends.length:Int)<room then ws++[bL] else ws) ends st
 toS:∀ {m now bL ws ends st},A m now bL ws ends st→¬(bL<cs.length∧GV cs bL=now)→S m now bL ws ends st
 apL:∀ {m now bL ws ends st},S m now bL ws ends st→(ends.length:Int)<jZ→0<ws.length→∃k,ws[Em bH cs ws]? = some k∧S m now bL (ws.eraseIdx (Em bH cs ws)) (ends++[now+Tv cs k]) (st.set k now)
 toI:∀ {m now bL ws ends st},S m now bL ws ends st→¬((ends.length:Int)<jZ∧0<ws.length)→∃m',m'<m∧I m' bL ws ends st
structure StE (bH jZ room:Int) (cs:List eT) (n g1 k1 c1 g2 k2 c2 bL:Nat) (ρ:cP):Prop where
 r0:ρ 0=VI bH
 r1:ρ 1=VI jZ
 r2:ρ 2=VI room
 r3:ρ 3=WU cs
 r9:ρ 9 = .ref n 0 0 cs.length cs.length
 r10:ρ 10 = .ref (n+1) g1 0 k1 c1
 r11:ρ 11 = .ref (n+2) g2 0 k2 c2
 Zh:ρ 12=VI bL
structure Part {α:Type} (all xs:List α):Prop where
 le:xs.length≤all.length
 tk:all.take xs.length=xs
theorem Part.get {α:Type} {all xs:List α} (h:Part all xs) {i:Nat} {x:α} (hx:xs[i]? = some x):all[i]? = some x:=by
 rw[←h.tk,List.getElem?_take] at hx
 split at hx
 ·exact hx
 ·cases hx
theorem Part.fz {α:Type} {f:α→VV} {e b g:Nat} {all xs:List α} {w:Bool} {H:aB} (h:Part all xs) (hp:∀x,aW (f x)=true) (hr:aV H b g=some (all.map f,e,w)):fz depth H (.ref b g 0 xs.length all.length)=some (bT f xs):=by
 rw[Hq hr (by rw[List.length_map];exact h.le) h.le (dW hp),←List.map_take,h.tk]
theorem StE.CH {bH jZ room:Int} {cs:List eT} {n g1 k1 c1 g2 k2 c2 bL:Nat} {ρ:cP} (h:StE bH jZ room cs n g1 k1 c1 g2 k2 c2 bL ρ):StE bH jZ room cs n g1 k1 c1 g2 k2 c2 bL (CY (n+3) ρ):=by
 obtain⟨h0,h1,h2,h3,h9,h10,h11,h12⟩:=h
 refine⟨?_,?_,?_,?_,?_,?_,?_,?_⟩
 ·rw[dR,h0];rfl
 ·rw[dR,h1];rfl
 ·rw[dR,h2];rfl
 ·rw[dR,h3,pN (Nt _)]
 ·rw[dR,h9,xY (by omega)]
 ·rw[dR,h10,xY (by omega)]
 ·rw[dR,h11,xY (by omega)]
 ·rw[dR,h12];rfl
end Go.PM
namespace Go.PM
theorem Vi {p:Nat→Bool} {a b:Nat} (h:a≤b):((List.range b).filter p).length≤((List.range a).filter p).length+(b-a):=by
 obtain⟨d,rfl⟩:∃d,b=a+d:=⟨b-a,by omega⟩
 rw[List.range_add,List.filter_append,List.length_append]
 have:=List.length_filter_le p ((List.range d).map fun x=>a+x)
 simp only[List.length_map,List.length_range] at this
 omega
structure StA (bH jZ:Int) (cs:List eT) (m:Nat) (now:Int) (bL:Nat) (ws:List Nat) (ends st:List Int) (t:Int) (DA:Nat) (ws0:List Nat) (Ik:List Int):Prop where
 imp:Hb bH jZ cs st t DA ws0 Ik
 gd:DA<cs.length∨0<ws0.length
 ms:m=2*(cs.length-DA)+ws0.length
 nw:now=Ee cs DA ws0 Ik
 c0:DA≤bL
 c1:bL≤cs.length
 eq:∀i,DA≤i→i<bL→GV cs i=now
 TV:ws=(List.range bL).filter (Ib st)
 enq:ends=Ik.filter (X2 now)
theorem StA.bnd {bH jZ:Int} {cs:List eT} {m:Nat} {now:Int} {bL:Nat} {ws:List Nat} {ends st:List Int} {t:Int} {DA:Nat} {ws0:List Nat} {Ik:List Int} (h:StA bH jZ cs m now bL ws ends st t DA ws0 Ik):ws.length+ends.length≤bL∧ws.length≤ws0.length+(bL-DA)∧ends.length≤Ik.length:=by
 have h1:=Vi (p:=Ib st) h.c0
 have h2:=Cg (st:=st) h.imp.Jp h.imp.past fun i h3 h4=>(h.imp.XB i h3 h4).1
 rw[←h2,←h.imp.TV,←h.TV] at h1
 have h3:=List.length_filter_le (X2 now) Ik
 rw[←h.enq] at h3
 have h4:=h.imp.room
 have h5:=h.c0
 omega
structure StS (bH jZ:Int) (cs:List eT) (m:Nat) (now:Int) (bL:Nat) (ws:List Nat) (ends st:List Int) (XL:List Int) (w2 e2:Nat):Prop where
 ph:Ph4 bH jZ cs XL now bL (w2+e2) st ws ends
 c1:bL≤cs.length
 tc:w2+e2≤bL
 run:runT bH jZ cs now (100000-now).toNat XL=stL bH jZ cs
 wle:ws.length≤w2
 ms:2*(cs.length-bL)+w2<m∨(2*(cs.length-bL)+w2=m∧0<w2∧(e2:Int)<jZ)
def stR (fT:List Int) (n:Nat) (r:VV) (L:aB):Prop:=r = .ref n 0 0 fT.length fT.length∧L[0]? = some (.row 0 (fT.map nV) 1 true)
def adU (fT:List Int) (n:Nat) (r:VV) (L:aB):Prop:=r = .ref n 0 0 fT.length fT.length∧L=[.row 0 (fT.map nV) 1 true]
theorem adU.to {fT:List Int} {n:Nat} {r:VV} {L:aB} (h:adU fT n r L):stR fT n r L:=⟨h.1,by rw[h.2];rfl⟩
end Go.PM
namespace Go.PM
def amS (bH jZ:Int) (cs:List eT):Prop:=(0≤bH∧bH≤3)∧(1≤jZ∧jZ≤8)∧iW cs
noncomputable instance (bH jZ:Int) (cs:List eT):Decidable (amS bH jZ cs):=Classical.propDecidable _
theorem iW.mem {cs:List eT} (h:iW cs) {c:eT} (hc:c∈cs):(0≤c.t∧c.t≤10000)∧(1≤c.w∧c.w≤1000)∧(0≤c.k∧c.k≤9):=by
 obtain⟨i,hi⟩:=List.getElem?_of_mem hc
 exact h.at hi
theorem FC.mono {f:Nat} {args:List VV} {R R':Nat→VV→aB→Prop} (h:FC f args R) (hR:∀n r L,R n r L→R' n r L):FC f args R':=fun n=>(h n).mono fun _ _ ⟨L,h1,h2,h3,h4⟩=>⟨L,h1,h2,h3,hR _ _ _ h4⟩
theorem Hb.all {bH jZ:Int} {cs:List eT} {st:List Int} {t:Int} {bL:Nat} {ws:List Nat} {ends:List Int} (h:Hb bH jZ cs st t bL ws ends) (Zm:¬bL<cs.length) (hw:¬0<ws.length):∀i,i<cs.length→0≤D6 st i:=by
 intro i hi
 have lG:=h.Jp
 rcases Int.lt_or_le (D6 st i) 0 with h1 | h1
 ·have h2:i∈wt cs st t:=Fu.2 ⟨hi,h1,h.past i (by omega)⟩
  rw[←h.TV,List.eq_nil_of_length_eq_zero (by omega:ws.length=0)] at h2
  cases h2
 ·exact h1
end Go.PM
namespace Go.PM
theorem LR.of {fT:List Int} {ok:Bool} {n:Nat} {r:VV} {L:aB} (h:stR fT n r L):LR fT ok n (.eK [r,.sc (.bool ok)]) L:=⟨r,rfl,.inr ⟨0,0,fT.length,h.1,Nat.le_refl _,h.2⟩⟩
end Go.PM
namespace Go.PM
theorem LR.fz {fT:List Int} {ok:Bool} {n:Nat} {v:VV} {L:aB} (h:(v = .tree [] .nil∧fT=[])∨∃i g c,v = .ref (n+i) g 0 fT.length c∧fT.length≤c∧L[i]? = some (.row g (fT.map nV) 1 true)):PM.fz depth (List.replicate n jR.dead++L) v=some (Zr fT):=by
 rcases h with⟨rfl,rfl⟩ | ⟨i,g,c,rfl,h2,h3⟩
 ·exact CZ
 ·exact RZ (fun _=>rfl) (by rw[X5];exact cY.2 h3) h2
end Go.PM
namespace Go.PM
open Go.Lib
open Classical in
end Go.PM
namespace Go.PM
theorem Lw {f lo:Nat} {args kK:List VV} {r:VV} {H:aB} {K:VV→aB→Prop} (h:TC f kK r) (zF:C4.contains f=false) (Yo:aK kK=true) (hf:args.mapM (fz depth H)=some kK) (hr:F5 r=true) (hk:K r H):dG f args lo H K:=by
 rw[h.flat zF Yo hf hr]
 exact hk
theorem DQ (l:List UInt8):cU .neq (.string ⟨l.toArray⟩) (.string ⟨l.toArray⟩)=some (.bool false):=by rw[MN];simp
end Go.PM
namespace Go.PM
set_option maxHeartbeats 2000000 in
theorem AW (RB:List ByteArray) (Tj:okS RB):TC 7 [fQ RB] (.sc (.bool true)):=by
 refine TC.walk ⟨true,false⟩ Bf rfl (Nat.le_of_ble_eq_true rfl) (by simp only[aK,dQ];rfl) rfl ?_
 have Xv:=E1 RB (1000000) Tj (by omega)
 by_cases afB:Wm RB (1000000)<0
 ·rw[abK afB (by omega)] at Xv
  simp only[oV,mM,Xv,Int.reduceNeg,Int.reduceLT,VX,Nat.reduceEqDiff,Nat.reduceAdd]
  exact aH rfl
 obtain⟨le0,Uv,XG⟩:=aaV (xs:=RB) (l:=1000000) (by omega)
 have XN:RB.length≤1000000:=by omega
 have JN:∀s∈RB,s.size≤1000000000:=fun s h=>by have:=XG s h;omega
 simp only[oV,mM,Xv,afB,VX,Nat.reduceEqDiff,Nat.reduceAdd]
 have t0':=fun b=>Fq RB b (by omega)
 have cs:=JY RB (by omega) JN
 have ci:=Jx RB (by omega) JN
 obtain⟨s,k,hsk⟩:=T1 RB
 change TC _ _ (Y7 RB) at cs ci
 rw[hsk] at cs ci
 have pa:aK [fQ RB]=true:=by simp only[aK,dQ];rfl
 refine Xc (t0' false) rfl FR (fun _=>rfl) fun r1 H1 p1 s1 => ?_
 simp only[VX,Nat.reduceEqDiff,Nat.reduceAdd]
 refine Lw cs rfl pa (Zy (s1.pre (List.prefix_refl _)).now) rfl ?_
 simp only[VX,Nat.reduceEqDiff,Nat.reduceAdd]
 refine WB (t0' false) rfl FR (fun _=>rfl) fun b2 H2 p2 lo2 r2 => ?_
 simp only[VX,Nat.reduceEqDiff,Nat.reduceAdd]
 refine Lw ci rfl pa (Zy (KE (fun _=>rfl) (vA (List.prefix_refl _) r2))) rfl ?_
 simp only[DQ,M8,VX,Nat.reduceEqDiff,Nat.reduceAdd]
 refine WB (t0' false) rfl FR (fun _=>rfl) fun b3 H3 p3 lo3 r3 => ?_
 simp only[VX,Nat.reduceEqDiff,Nat.reduceAdd]
 refine Bo RB (by omega) (vA p3 r2) r3 ?_
 simp only[VX,Nat.reduceEqDiff,Nat.reduceAdd]
 refine Xc (t0' true) rfl FR (fun _=>rfl) fun r4 H4 p4 s4 => ?_
 simp only[VX,Nat.reduceEqDiff,Nat.reduceAdd]
 refine Lw ci rfl pa (Zy (s4.pre (List.prefix_refl _)).now) rfl ?_
 simp only[DQ,M8,VX,Nat.reduceEqDiff,Nat.reduceAdd]
 exact aH rfl
end Go.PM
namespace Go.PM
open Go.Proofs
theorem CN {P:Program} {w:World} {name:String} {d:DataW Unit}:∀ {l:List (String×DataW Unit)} {ps:List MemPlace},DataW.LaidVars P w l ps→(name,d)∈l →
  ∃g t cs fuel p,P.globalNamed name=some g∧(P.globals[g]?).map (·.type)=some t∧w.var? P name=some cs∧DataW.trod (fun _=>()) P w 0 (fun _=>true) false fuel t cs.toList=some (d,p)
 | [],_,_,hm=>by cases hm
 |
  (n,e)::r,ps,h,hm=>by
  obtain⟨g,t,cs,fuel,p,q,h1,h2,h3,h4,h5,_⟩:=h
  rcases List.mem_cons.1 hm with he | hm
  ·cases he
   exact⟨g,t,cs,fuel,p,h1,h2,h3,h4⟩
  ·exact CN h5 hm
theorem HI {W:World} {l:List (String×DataW Unit)} (hl:laidMetH Tryz.prog l W) (hp:(l.all fun x=>x.2.handleName?.isNone)=true) (hm:("internal/strconv.uint64pow10",Lib.tabData .u64 Lib.pow10Tab)∈l)
  {t e:TypeId} {n:Nat} (hty:(Tryz.prog.globals[1]?).map (·.type)=some t) (ht:Tryz.prog.underlying t=some (.array n e)) (he:Tryz.prog.underlying e=some (.int .u64)) (hce:Tryz.prog.cellsOf e=1) (hct:Tryz.prog.cellsOf t=n):ME W:=by
 rw[MakeChecks.laidMetH_plain _ _ _ hp] at hl
 obtain⟨ps,h1,_⟩:=hl
 obtain⟨g',t',cs,fuel,p,UF,Yr,VJ,hd⟩:=CN h1 hm
 have hg:Tryz.prog.globalNamed "internal/strconv.uint64pow10"=some 1:=by kernel_rfl
 obtain rfl:=Option.some.inj (hg.symm.trans UF)
 obtain rfl:=Option.some.inj (hty.symm.trans Yr)
 have K8:=Lib.cells_of_tab ht he hce hct hd
 intro x hx
 have TW:x=(1,(Lib.pow10Tab.map fun z=>Value.int .u64 z).toArray):=by simpa[Yl] using hx
 subst TW
 unfold World.var? at VJ
 rw[hg,Option.bind_some] at VJ
 split at VJ
 ·rename_i xM e' fz' hh
  cases VJ
  refine⟨e',fz',?_⟩
  rw[←K8]
  simpa using hh
 ·cases VJ
end Go.PM