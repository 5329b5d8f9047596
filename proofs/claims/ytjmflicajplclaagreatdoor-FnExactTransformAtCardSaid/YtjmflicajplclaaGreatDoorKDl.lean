/- Texts of a claim, in one: part 12. -/
import Derived.KernelRfl
import Derived.Test.YtjmflicajplclaaGreatDoorKDk
open And renaming intro → aL1
open Bool renaming and_eq_true → aKT
open Int renaming le_refl → aND,natAbs_mul → aMX
open List renaming append_nil → aLt,countP_append → aNG,countP_eq_length → aNL,countP_singleton → aNH,eq_nil_of_length_eq_zero → aKr,ext_getElem? → aNP,foldl_append → aNI,foldl_cons → aNE,foldl_nil → aNJ,getD_eq_getElem?_getD → aKi,getElem?_eq_getElem → aKs,getElem?_eq_none → aKL,getElem?_map → aNQ,getElem?_replicate → aNK,getElem_mem → aKy,length → aNu,length_append → aKw,length_cons → aKv,length_map → aL2,length_nil → aLY,length_replicate → aMa,length_set → aMk,map_append → aMG,map_id → aNM,map_map → aNO,map_set → aNT,mem_append → aLh,mem_cons_of_mem → aKU,mem_cons_self → aKV,mem_map → aLW,mem_of_getElem? → aLf,mem_range → aKW,mem_singleton → aLr,prefix_append → aMg,range → aKh,range_succ → aNF,replicate → aLb,replicate_succ → aLv,replicate_zero → aNN,set_cons_zero → aLZ,take_add_one → aMb,take_append_of_le_length → aMU,take_length → aLy,take_of_length_le → aLe
open Nat renaming le_of_ble_eq_true → aL9,le_of_eq → aNS,le_refl → aKl,le_trans → aKm,mul_le_mul_right → aKM,mul_lt_mul'' → aNU,pow_add → aMt,pow_le_pow_right → aMp,pow_succ → aLM,sub_self → aKE,two_pow_pos → aNW,zero_add → aLT,zero_le → aKP
open Option renaming getD_some → aNx
open Rat renaming intCast_mul → aNV,le_refl → aNR
set_option linter.unusedSimpArgs false
set_option linter.unusedVariables false
namespace Go.PM
def PU (cs:List lJ) (i:Nat):Int:=((cs[i]?).map (·.t)).getD 0
def wkC (cs:List lJ) (i:Nat):Int:=((cs[i]?).map (·.w)).getD 0
def klC (cs:List lJ) (i:Nat):Int:=((cs[i]?).map (·.k)).getD 0
def KQ (st:List Int) (i:Nat):Int:=(st[i]?).getD 0
theorem Yg {cs:List lJ} {i:Nat} {x:lJ} (h:cs[i]? = some x):PU cs i=x.t:=by simp[PU,h]
theorem azC {cs:List lJ} {i:Nat} {x:lJ} (h:cs[i]? = some x):wkC cs i=x.w:=by simp[wkC,h]
theorem amQ {st:List Int} {i:Nat} {x:Int} (h:st[i]? = some x):KQ st i=x:=by simp[KQ,h]
def inS (cs:List lJ) (st:List Int) (t:Int) (i:Nat):Bool:=decide (0≤KQ st i)&&decide (KQ st i≤t)&&decide (t<KQ st i+wkC cs i)
def bz (cs:List lJ) (st:List Int) (t:Int):Nat:=(aKh cs.length).countP (inS cs st t)
def isW (cs:List lJ) (st:List Int) (t:Int) (i:Nat):Bool:=decide (KQ st i<0)&&decide (PU cs i≤t)
def wt (cs:List lJ) (st:List Int) (t:Int):List Nat:=(aKh cs.length).filter (isW cs st t)
def MX (cM:Int) (cs:List lJ) (i k:Nat):Bool :=
 if cM=1 then true else if cM=2 then decide (wkC cs i<wkC cs k) else if cM=3 then decide (klC cs i<klC cs k) else false
def Cc (cM:Int) (cs:List lJ) (b:Option Nat) (i:Nat):Option Nat:=match b with
 | none=>some i
 | some k=>if MX cM cs i k then some i else some k
def nxt (cM:Int) (cs:List lJ) (st:List Int) (t:Int):Option Nat:=(wt cs st t).foldl (Cc cM cs) none
def fill (cM vH:Int) (cs:List lJ) (t:Int):Nat→List Int→List Int
 | 0,st=>st
 |
  n+1,st=>if (bz cs st t:Int)<vH then (match nxt cM cs st t with
  | none=>st
  | some k=>fill cM vH cs t n (st.set k t)) else st
def full (cM vH:Int) (cs:List lJ) (st:List Int) (t:Int):Prop:=vH≤(bz cs st t:Int)∨nxt cM cs st t=none
def runT (cM vH:Int) (cs:List lJ):Int→Nat→List Int→List Int
 | _,0,st=>st
 | t,n+1,st=>runT cM vH cs (t+1) n (fill cM vH cs t cs.length st)
def stL (cM vH:Int) (cs:List lJ):List Int:=runT cM vH cs 0 100000 (aLb cs.length (-1))
section
variable {cM vH:Int} {cs:List lJ} {st:List Int} {t:Int}
theorem AF (h:full cM vH cs st t) (n:Nat):fill cM vH cs t n st=st:=by
 cases n with
 | zero=>rfl
 |
  succ n =>
  rw[fill]
  rcases h with h | h
  ·rw[if_neg (by omega)]
  ·split
   ·rw[h]
   ·rfl
theorem Rv (m:Nat):∀(t:Int) (n:Nat),(∀u,t≤u→u<t+m→full cM vH cs st u)→m≤n→runT cM vH cs t n st=runT cM vH cs (t+m) (n-m) st:=by
 induction m with
 | zero=>intro t n _ _;simp
 |
  succ m ih =>
  intro t n h hm
  obtain⟨n,rfl⟩:∃k,n=k+1:=⟨n-1,by omega⟩
  rw[runT,AF (h t (aND _) (by omega)),ih (t+1) n (fun u h1 h2=>h u (by omega) (by omega)) (by omega)]
  congr 1
  ·omega
  ·omega
theorem aeJ (n:Nat):∀(t:Int),(∀u,t≤u→full cM vH cs st u)→runT cM vH cs t n st=st:=by
 intro t h
 rw[Rv n t n (fun u h1 _=>h u h1) (aKl _),aKE]
 rfl
theorem Zq {a b:Int} (ha:0≤a) (IN:a≤b) (hb:b≤100000) (h:∀u,a≤u→u<b→full cM vH cs st u):runT cM vH cs a (100000-a).toNat st=runT cM vH cs b (100000-b).toNat st:=by
 rw[Rv (b-a).toNat a _ (fun u h1 h2=>h u h1 (by omega)) (by omega)]
 congr 1
 ·omega
 ·omega
theorem anH {a:Int} (ha:0≤a) (hb:a<100000):runT cM vH cs a (100000-a).toNat st=runT cM vH cs (a+1) (100000-(a+1)).toNat (fill cM vH cs a cs.length st):=by
 rw[show (100000-a).toNat=(100000-(a+1)).toNat+1 by omega,runT]
theorem Q8 {ws:List Nat} {k:Nat}:∃j,(ws.foldl (Cc cM cs) (some k))=some j∧(j=k∨j∈ws):=by
 induction ws generalizing k with
 | nil=>exact⟨k,rfl,.inl rfl⟩
 |
  cons i ws ih =>
  rw[aNE]
  have:∃q,Cc cM cs (some k) i=some q∧(q=k∨q=i):=by
   unfold Cc
   simp only
   split
   ·exact⟨i,rfl,.inr rfl⟩
   ·exact⟨k,rfl,.inl rfl⟩
  obtain⟨q,hq,hqq⟩:=this
  rw[hq]
  obtain⟨j,h1,h2⟩:=ih (k:=q)
  refine⟨j,h1,?_⟩
  rcases h2 with rfl | h2
  ·rcases hqq with rfl | rfl
   ·exact .inl rfl
   ·exact .inr aKV
  ·exact .inr (aKU _ h2)
theorem A3:nxt cM cs st t=none↔wt cs st t=[]:=by
 unfold nxt
 cases h:wt cs st t with
 | nil=>exact⟨fun _=>rfl,fun _=>rfl⟩
 |
  cons i ws =>
  refine⟨fun h2 => ?_,fun h2=>(by cases h2)⟩
  rw[aNE] at h2
  obtain⟨j,h3,_⟩:=Q8 (cM:=cM) (cs:=cs) (ws:=ws) (k:=i)
  rw[show Cc cM cs none i=some i from rfl,h3] at h2
  cases h2
theorem S9 {k:Nat} (h:nxt cM cs st t=some k):k∈wt cs st t:=by
 unfold nxt at h
 cases hw:wt cs st t with
 | nil=>rw[hw] at h;cases h
 |
  cons i ws =>
  rw[hw,aNE] at h
  obtain⟨j,h3,h4⟩:=Q8 (cM:=cM) (cs:=cs) (ws:=ws) (k:=i)
  rw[show Cc cM cs none i=some i from rfl,h3] at h
  injection h with h
  subst h
  rcases h4 with rfl | h4
  ·exact aKV
  ·exact aKU _ h4
theorem PF {k:Nat}:k∈wt cs st t↔k<cs.length∧KQ st k<0∧PU cs k≤t:=by
 simp[wt,isW]
theorem anK:(wt cs st t).Nodup:=List.Pairwise.filter _ List.nodup_range
theorem JQ {k i:Nat} (hk:k<st.length):KQ (st.set k t) i=if i=k then t else KQ st i:=by
 unfold KQ
 rw[List.getElem?_set]
 by_cases h:i=k
 ·subst h
  simp[hk]
 ·rw[if_neg (fun h'=>h h'.symm),if_neg h]
theorem Sx {p q:Nat→Bool} {k:Nat} (hp:p k=false) (h:∀i,i≠k→q i=p i):∀n,(aKh n).countP q=(aKh n).countP p+if k<n∧q k=true then 1 else 0:=by
 intro n
 induction n with
 | zero=>simp
 |
  succ n ih =>
  rw[aNF,aNG,aNG,ih]
  by_cases hk:n=k
  ·subst hk
   simp only[aNH,hp]
   cases hq:q n<;>simp
  ·rw[aNH,aNH,h n hk]
   have:(k<n+1∧q k=true)↔(k<n∧q k=true):=by
    constructor
    ·rintro⟨h1,h2⟩;exact⟨by omega,h2⟩
    ·rintro⟨h1,h2⟩;exact⟨by omega,h2⟩
   simp only[this]
   omega
theorem ayM {k:Nat} {u:Int} (hk:k<cs.length) (hl:st.length=cs.length) (hs:KQ st k<0) (h0:0≤t):bz cs (st.set k t) u=bz cs st u+if t≤u∧u<t+wkC cs k then 1 else 0:=by
 unfold bz
 rw[Sx (p:=inS cs st u) (q:=inS cs (st.set k t) u) (k:=k)]
 ·congr 1
  have:(k<cs.length∧inS cs (st.set k t) u k=true)↔(t≤u∧u<t+wkC cs k):=by
   simp only[inS,JQ (t:=t) (i:=k) (by omega:k<st.length),if_true,aKT,decide_eq_true_eq]
   constructor
   ·rintro⟨_,⟨_,h1⟩,h2⟩;exact⟨h1,h2⟩
   ·rintro⟨h1,h2⟩;exact⟨hk,⟨h0,h1⟩,h2⟩
  simp only[this]
 ·simp only[inS]
  rw[decide_eq_false (by omega)]
  rfl
 ·intro i hi
  simp only[inS,JQ (t:=t) (i:=i) (by omega:k<st.length),if_neg hi]
theorem axC {k:Nat} {u:Int} (hl:st.length=cs.length) (hk:k<cs.length) (h0:0≤t):wt cs (st.set k t) u=(wt cs st u).filter (· != k):=by
 unfold wt
 rw[List.filter_filter]
 refine List.filter_congr fun i hi => ?_
 simp only[isW,JQ (t:=t) (i:=i) (by omega:k<st.length)]
 by_cases h:i=k
 ·subst h
  simp
  omega
 ·simp[h]
def HR (st:List Int):Nat:=st.countP (fun s=>decide (s<0))
theorem Db {k:Nat} (hk:k<st.length) (hs:KQ st k<0) (h0:0≤t):HR (st.set k t)+1=HR st:=by
 unfold HR
 rw[List.countP_set hk]
 have hx:st[k]=KQ st k:=by
  rw[amQ (x:=st[k]) (aKs hk)]
 have h1:decide (st[k]<0)=true:=by rw[hx];exact decide_eq_true hs
 have h2:decide (t<0)=false:=decide_eq_false (by omega)
 have h3:0<st.countP (fun s=>decide (s<0)):=by
  rw[List.countP_pos_iff]
  exact⟨st[k],aKy hk,h1⟩
 simp only[h1,h2,if_true,Bool.false_eq_true,if_false]
 omega
theorem abR (hl:st.length=cs.length) (h0:0≤t):∀(n m:Nat),HR st≤n→HR st≤m→fill cM vH cs t n st=fill cM vH cs t m st:=by
 intro n
 induction n generalizing st with
 |
  zero =>
  intro m hn hm
  have hf:full cM vH cs st t:=by
   right
   rw[A3]
   cases hw:wt cs st t with
   | nil=>rfl
   |
    cons i ws =>
    have h1:i∈wt cs st t:=by rw[hw];exact aKV
    obtain⟨h2,h3,_⟩:=PF.1 h1
    have:=Db (t:=t) (by omega:i<st.length) h3 h0
    omega
  rw[AF hf,AF hf]
 |
  succ n ih =>
  intro m hn hm
  cases m with
  |
   zero =>
   have hf:full cM vH cs st t:=by
    right
    rw[A3]
    cases hw:wt cs st t with
    | nil=>rfl
    |
     cons i ws =>
     have h1:i∈wt cs st t:=by rw[hw];exact aKV
     obtain⟨h2,h3,_⟩:=PF.1 h1
     have:=Db (t:=t) (by omega:i<st.length) h3 h0
     omega
   rw[AF hf,AF hf]
  |
   succ m =>
   rw[fill,fill]
   split
   ·split
    ·rfl
    ·rename_i k hk
     obtain⟨h2,h3,_⟩:=PF.1 (S9 hk)
     have:=Db (t:=t) (by omega:k<st.length) h3 h0
     exact ih (by simp[hl]) m (by omega) (by omega)
   ·rfl
theorem ZJ:HR st≤st.length:=List.countP_le_length
theorem adP {k:Nat} (hl:st.length=cs.length) (h0:0≤t) (hb:(bz cs st t:Int)<vH) (hk:nxt cM cs st t=some k):fill cM vH cs t cs.length (st.set k t)=fill cM vH cs t cs.length st:=by
 obtain⟨h2,h3,_⟩:=PF.1 (S9 hk)
 have h4:=Db (t:=t) (by omega:k<st.length) h3 h0
 have h5:=ZJ (st:=st)
 rw[abR (st:=st) hl h0 cs.length (cs.length+1) (by omega) (by omega)]
 conv=>rhs;rw[fill,if_pos hb,hk]
def evT (cs:List lJ) (st:List Int) (i:Nat):Int:=if 0≤KQ st i then KQ st i+wkC cs i else PU cs i
def ayI (cs:List lJ) (st:List Int) (t:Int) (b:Int) (i:Nat):Int:=if t<evT cs st i∧(b<0∨evT cs st i<b) then evT cs st i else b
def later (cs:List lJ) (st:List Int) (t:Int):Int:=(aKh cs.length).foldl (ayI cs st t) (-1)
structure Way (cs:List lJ) (st:List Int) (t:Int):Prop where
 len:st.length=cs.length
 low:∀i,i<cs.length → -1≤KQ st i
 high:∀i,i<cs.length→KQ st i≤t
 bd:∀i,i<cs.length→KQ st i+1000*(HR st:Int)≤10000+1000*(cs.length:Int)
 tm:0≤t∧t+1000*(HR st:Int)≤11000+1000*(cs.length:Int)
theorem Way.set {k:Nat} (h:Way cs st t) (hk:k<cs.length) (hs:KQ st k<0):Way cs (st.set k t) t:=by
 have hl:=h.len
 have htm:=h.tm
 have h4:=Db (t:=t) (by omega:k<st.length) hs htm.1
 refine⟨by simp[hl],fun i hi => ?_,fun i hi => ?_,fun i hi => ?_,htm.1,by omega⟩
 all_goals rw[JQ (by omega:k<st.length)]
 ·have:=h.low i hi
  split<;>omega
 ·have:=h.high i hi
  split<;>omega
 ·have:=h.bd i hi
  split<;>omega
theorem Way.le (h:Way cs st t) (hc:pH cs):t≤35000∧∀i,i<cs.length→KQ st i≤34000:=by
 have hlen:=hc.2
 have htm:=h.tm
 refine⟨by omega,fun i hi => ?_⟩
 have:=h.bd i hi
 omega
theorem pH.bnd (hc:pH cs) {i:Nat} (hi:i<cs.length):(0≤PU cs i∧PU cs i≤10000)∧(1≤wkC cs i∧wkC cs i≤1000):=by
 have hx:cs[i]? = some cs[i]:=aKs hi
 have:=hc.at hx
 rw[Yg hx,azC hx]
 exact⟨this.1,this.2.1⟩
def OE (cM:Int) (cs:List lJ) (ws:List Nat):Nat :=
 if cM=1 then ws.length-1 else if cM=2∨cM=3 then (aKh ws.length).foldl (fun b k=>if MX cM cs (ws.getD k 0) (ws.getD b 0) then k else b) 0 else 0
theorem YJ {ws:List Nat} {k:Nat} (h:∀i j,MX cM cs i j=false):ws.foldl (Cc cM cs) (some k)=some k:=by
 induction ws with
 | nil=>rfl
 |
  cons i ws ih =>
  rw[aNE]
  have:Cc cM cs (some k) i=some k:=by
   unfold Cc
   simp only[h]
   rfl
  rw[this,ih]
theorem ahH {ws:List Nat} (gD:ws≠[]) (hr:0≤cM∧cM≤3):OE cM cs ws<ws.length∧ws[OE cM cs ws]? = ws.foldl (Cc cM cs) none:=by
 have hlen:0<ws.length:=List.length_pos_iff.2 gD
 unfold OE
 by_cases h1:cM=1
 ·rw[if_pos h1]
  rcases List.eq_nil_or_concat ws with rfl | ⟨xs,y,rfl⟩
  ·exact absurd rfl gD
  ·rw[List.concat_eq_append,aNI]
   refine⟨by simp,?_⟩
   simp only[aKw,aKv,aLY,aLT,Nat.add_sub_cancel,aNE,aNJ]
   rw[List.getElem?_append_right (aKl _),aKE]
   unfold Cc
   split
   ·rfl
   ·simp only[MX,if_pos h1,if_true]
    rfl
 ·rw[if_neg h1]
  by_cases h2:cM=2∨cM=3
  ·rw[if_pos h2]
   have aEE:∀i,MX cM cs i i=false:=fun i=>by
    unfold MX
    rw[if_neg h1]
    split
    ·exact decide_eq_false (by omega)
    ·split
     ·exact decide_eq_false (by omega)
     ·rfl
   have key:∀n,n<ws.length→(aKh (n+1)).foldl (fun b k=>if MX cM cs (ws.getD k 0) (ws.getD b 0) then k else b) 0<ws.length ∧
     ws[(aKh (n+1)).foldl (fun b k=>if MX cM cs (ws.getD k 0) (ws.getD b 0) then k else b) 0]? = (ws.take (n+1)).foldl (Cc cM cs) none:=by
    intro n
    induction n with
    |
     zero =>
     intro _
     have:(aKh (0+1)).foldl (fun b k=>if MX cM cs (ws.getD k 0) (ws.getD b 0) then k else b) 0=0:=by
      simp[aNF,aEE]
     rw[this]
     refine⟨hlen,?_⟩
     cases ws with
     | nil=>exact absurd rfl gD
     | cons i ws=>rfl
    |
     succ n ih =>
     intro hn
     obtain⟨g1,g2⟩:=ih (by omega)
     rw[aNF,aNI,aNE,aNJ]
     generalize (aKh (n+1)).foldl (fun b k=>if MX cM cs (ws.getD k 0) (ws.getD b 0) then k else b) 0=b at *
     obtain⟨x,hx⟩:∃x,ws[n+1]? = some x:=⟨_,aKs hn⟩
     obtain⟨y,hy⟩:∃y,ws[b]? = some y:=⟨_,aKs g1⟩
     rw[aMb,hx,aNI,←g2,hy]
     simp only[Option.toList_some,aNE,aNJ,aKi,hx,hy,aNx,Cc]
     split
     ·exact⟨hn,hx⟩
     ·exact⟨g1,hy⟩
   have:=key (ws.length-1) (by omega)
   rw[show ws.length-1+1=ws.length by omega,aLe (aKl _)] at this
   exact this
  ·rw[if_neg h2]
   refine⟨hlen,?_⟩
   have hb:∀i j,MX cM cs i j=false:=fun i j=>by
    unfold MX
    rw[if_neg h1,if_neg (by omega),if_neg (by omega)]
   cases ws with
   | nil=>exact absurd rfl gD
   |
    cons i ws =>
    rw[aNE,show Cc cM cs none i=some i from rfl,YJ hb]
    rfl
end
end Go.PM
namespace Go.PM
def Xa (st:List Int) (i:Nat):Bool:=decide (KQ st i<0)
def gtB (u e:Int):Bool:=decide (u<e)
section
variable {cM vH:Int} {cs:List lJ} {st:List Int} {t:Int}
theorem pH.sorted (hc:pH cs):∀ {i j:Nat},i≤j→j<cs.length→PU cs i≤PU cs j:=by
 intro i j Qo hj
 induction j with
 |
  zero =>
  have:i=0:=by omega
  subst this
  exact aND _
 |
  succ j ih =>
  rcases Nat.lt_or_ge i (j+1) with h | h
  ·have h1:=ih (by omega) (by omega)
   have hx:cs[j+1]? = some cs[j+1]:=aKs hj
   have hy:cs[j]? = some cs[j]:=aKs (by omega)
   have h2:=(hc.1 (j+1) _ hx).2 _ (by omega) (by rw[Nat.add_sub_cancel];exact hy)
   rw[Yg hx]
   rw[Yg hy] at h1
   omega
  ·have:i=j+1:=by omega
   subst this
   exact aND _
theorem J1 {fR:Nat} (aB0:fR≤cs.length) (past:∀i,i<fR→PU cs i≤t) (fut:∀i,fR≤i→i<cs.length→t<PU cs i):wt cs st t=(aKh fR).filter (Xa st):=by
 unfold wt
 rw[show cs.length=fR+(cs.length-fR) by omega,List.range_add,List.filter_append]
 have h1:(aKh fR).filter (isW cs st t)=(aKh fR).filter (Xa st):=by
  refine List.filter_congr fun i hi => ?_
  rw[aKW] at hi
  simp[isW,Xa,past i hi]
 have h2:((aKh (cs.length-fR)).map fun x=>fR+x).filter (isW cs st t)=[]:=by
  rw[List.filter_eq_nil_iff]
  intro i hi
  obtain⟨j,hj,rfl⟩:=aLW.1 hi
  rw[aKW] at hj
  have:=fut (fR+j) (by omega) (by omega)
  simp only[isW,aKT,decide_eq_true_eq]
  omega
 rw[h1,h2,aLt]
structure Tg (cM vH:Int) (cs:List lJ) (st:List Int) (t:Int) (fR:Nat) (ws:List Nat) (ends:List Int):Prop where
 len:st.length=cs.length
 low:∀i,i<cs.length → -1≤KQ st i
 high:∀i,i<cs.length→KQ st i≤t
 bd:∀i,i<cs.length→KQ st i+1000*(HR st:Int)≤10000+1000*(cs.length:Int)
 tm : -1≤t
 QM:fR≤cs.length
 past:∀i,i<fR→PU cs i≤t
 fut:∀i,fR≤i→i<cs.length→t<PU cs i∧KQ st i<0
 wsq:ws=wt cs st t
 cnt:∀u,t≤u→ends.countP (gtB u)=bz cs st u
 ef:∀e∈ends,t<e
 eb:∀e∈ends,e+1000*(HR st:Int)≤11000+1000*(cs.length:Int)
 fl:full cM vH cs st t
 room:ws.length+ends.length≤fR
 es:(ends.length:Int)≤vH
 run:runT cM vH cs (t+1) (100000-(t+1)).toNat st=stL cM vH cs
theorem JE {n i:Nat} (h:i<n):KQ (aLb n (-1)) i = -1:=amQ (by rw[aNK,if_pos h])
theorem Tg.start (hc:pH cs) (hs:1≤vH):Tg cM vH cs (aLb cs.length (-1)) (-1) 0 [] []:=by
 have hw:wt cs (aLb cs.length (-1)) (-1)=[]:=by
  rw[J1 (aKP _) (fun i hi=>by omega) fun i _ hi=>by have:=hc.bnd hi;omega]
  rfl
 have hu:HR (aLb cs.length (-1))=cs.length:=by simp[HR,List.countP_replicate]
 refine⟨by simp,fun i hi=>by rw[JE hi];decide,fun i hi=>by rw[JE hi];decide,fun i hi=>by rw[JE hi,hu];omega,by decide,aKP _,fun i hi=>by omega,fun i _ hi=>⟨by have:=hc.bnd hi;omega,by rw[JE hi];decide⟩,hw.symm,fun u _ => ?_,fun e he=>(by cases he),fun e he=>(by cases he),.inr (A3.2 hw),aKl _,by simp;omega,rfl⟩
 unfold bz
 rw[(List.countP_eq_zero (p:=inS cs (aLb cs.length (-1)) u)).2]
 ·rfl
 ·intro i hi
  rw[aKW] at hi
  simp only[inS,JE hi,aKT,decide_eq_true_eq]
  omega
def TI (w:Bool) (b e:Int):Int:=if b<0∨(w=true∧e<b) then e else b
theorem ayY {es:List Int} {b:Int} (h:0≤b):es.foldl (TI false) b=b:=by
 induction es with
 | nil=>rfl
 |
  cons e es ih =>
  rw[aNE]
  have:TI false b e=b:=by
   unfold TI
   rw[if_neg (by simp;omega)]
  rw[this,ih]
theorem auZ:∀ {es:List Int} {b:Int},(∀e∈es,0≤e)→(es.foldl (TI true) b=b∨es.foldl (TI true) b∈es)∧(∀e∈es,es.foldl (TI true) b≤e)∧(0≤b→es.foldl (TI true) b≤b)∧(es≠[]→0≤es.foldl (TI true) b)
 | [],b,_=>⟨.inl rfl,fun e he=>(by cases he),fun _=>aND _,fun h=>absurd rfl h⟩
 |
  e::es,b,h=>by
  rw[aNE]
  have h1:=h e aKV
  have h2:∀e'∈es,0≤e':=fun e' he=>h e' (aKU _ he)
  have hm:(TI true b e=b∨TI true b e=e)∧TI true b e≤e∧(0≤b→TI true b e≤b)∧0≤TI true b e:=by
   unfold TI
   by_cases hc:b<0∨(true=true∧e<b)
   ·rw[if_pos hc]
    refine⟨.inr rfl,aND _,fun hb => ?_,h1⟩
    rcases hc with hc | hc<;>omega
   ·rw[if_neg hc]
    simp at hc
    exact⟨.inl rfl,hc.2,fun _=>aND _,hc.1⟩
  obtain⟨m1,m2,m3,m4⟩:=hm
  obtain⟨g1,g2,g3,g4⟩:=auZ (es:=es) (b:=TI true b e) h2
  have g3:=g3 m4
  refine⟨?_,?_,fun hb=>by have:=m3 hb;omega,fun _ => ?_⟩
  ·rcases g1 with g1 | g1
   ·rw[g1]
    rcases m1 with m1 | m1
    ·exact .inl m1
    ·rw[m1];exact .inr aKV
   ·exact .inr (aKU _ g1)
  ·intro e' he
   rcases List.mem_cons.1 he with rfl | he
   ·omega
   ·exact g2 e' he
  ·rcases g1 with g1 | g1
   ·rw[g1];exact m4
   ·exact h2 _ g1
def S5 (cs:List lJ) (fR:Nat):Int:=if fR<cs.length then PU cs fR else -1
def Oo (cs:List lJ) (fR:Nat) (ws:List Nat) (ends:List Int):Int:=ends.foldl (TI (decide (0<ws.length))) (S5 cs fR)
theorem Tg.ahS {fR:Nat} {ws:List Nat} {ends:List Int} (h:Tg cM vH cs st t fR ws ends):ends.length=bz cs st t:=by
 rw[←h.cnt t (aND _),aNL.2]
 intro e he
 exact decide_eq_true (h.ef e he)
theorem Tg.time {fR:Nat} {ws:List Nat} {ends:List Int} (h:Tg cM vH cs st t fR ws ends) (hc:pH cs) (hs:1≤vH) (hg:fR<cs.length∨0<ws.length) :
  (t<Oo cs fR ws ends∧Oo cs fR ws ends+1000*(HR st:Int)≤11000+1000*(cs.length:Int))∧(∀i,fR≤i→i<cs.length→Oo cs fR ws ends≤PU cs i) ∧
   (fR<cs.length∧PU cs fR=Oo cs fR ws ends∨0<ws.length∧Oo cs fR ws ends∈ends)∧runT cM vH cs (Oo cs fR ws ends) (100000-Oo cs fR ws ends).toNat st=stL cM vH cs:=by
 have htm:=h.tm
 have TG:=ZJ (st:=st)
 have hlen:=h.len
 have he0:∀e∈ends,0≤e:=fun e he=>by have:=h.ef e he;omega
 have aFn:=hc.2
 by_cases hw:0<ws.length
 ·have hbz:vH≤(bz cs st t:Int):=by
   rcases h.fl with hf | hf
   ·exact hf
   ·rw[A3,←h.wsq] at hf
    rw[hf] at hw
    simp at hw
  have gD:ends≠[]:=by
   intro he
   have:=h.ahS
   rw[he] at this
   simp at this
   omega
  obtain⟨g1,g2,g3,g4⟩:=auZ (es:=ends) (b:=S5 cs fR) he0
  have afA:Oo cs fR ws ends=ends.foldl (TI true) (S5 cs fR):=by unfold Oo;rw[decide_eq_true hw]
  rw[afA]
  generalize ends.foldl (TI true) (S5 cs fR)=w at *
  have g4:=g4 gD
  have Px:(fR<cs.length∧PU cs fR=w)∨w∈ends:=by
   rcases g1 with g1 | g1
   ·unfold S5 at g1
    split at g1
    ·rename_i mM
     exact .inl ⟨mM,g1.symm⟩
    ·omega
   ·exact .inr g1
  have htw:t<w∧w+1000*(HR st:Int)≤11000+1000*(cs.length:Int):=by
   rcases Px with⟨h1,h2⟩ | h1
   ·have:=h.fut fR (aKl _) h1
    have:=hc.bnd h1
    omega
   ·exact⟨h.ef _ h1,h.eb _ h1⟩
  refine⟨htw,fun i h1 h2 => ?_,Px.imp id fun h1=>⟨hw,h1⟩,?_⟩
  ·have h3:=hc.sorted h1 h2
   have h4:=hc.bnd (i:=fR) (by omega)
   have h5:S5 cs fR=PU cs fR:=by unfold S5;rw[if_pos (by omega)]
   have:=g3 (by rw[h5];omega)
   omega
  ·rw[←h.run]
   refine(Zq (by omega) (by omega) (by omega) fun u h1 h2 => .inl ?_).symm
   rw[←h.cnt u (by omega),(aNL (p:=gtB u)).2 fun e he=>decide_eq_true (by have:=g2 e he;omega),h.ahS]
   exact hbz
 ·have mM:fR<cs.length:=by omega
  have h5:S5 cs fR=PU cs fR:=by unfold S5;rw[if_pos mM]
  have h4:=hc.bnd mM
  have hf:=(h.fut fR (aKl _) mM).1
  have afA:Oo cs fR ws ends=PU cs fR:=by unfold Oo;rw[decide_eq_false hw,ayY (by rw[h5];omega),h5]
  rw[afA]
  refine⟨⟨hf,by omega⟩,fun i h1 h2=>hc.sorted h1 h2,.inl ⟨mM,rfl⟩,?_⟩
  rw[←h.run]
  refine(Zq (by omega) (by omega) (by omega) fun u h1 h2 => .inr ?_).symm
  rw[A3,J1 h.QM (fun i hi=>by have:=h.past i hi;omega) fun i h3 h4=>by have:=hc.sorted h3 h4;omega]
  have e1:=J1 (st:=st) h.QM h.past fun i h3 h4=>(h.fut i h3 h4).1
  rw[←e1,←h.wsq]
  exact aKr (by omega)
theorem Tg.done {fR:Nat} {ws:List Nat} {ends:List Int} (h:Tg cM vH cs st t fR ws ends) (aB0:¬fR<cs.length) (hw:¬0<ws.length):st=stL cM vH cs:=by
 rw[←h.run]
 refine(aeJ _ _ fun u hu => .inr ?_).symm
 have mM:=h.QM
 have e1:=J1 (st:=st) h.QM h.past fun i h3 h4=>(h.fut i h3 h4).1
 rw[A3,J1 h.QM (fun i hi=>by have:=h.past i hi;omega) fun i h3 h4=>by omega,←e1,←h.wsq]
 exact aKr (by omega)
structure Ph4 (cM vH:Int) (cs:List lJ) (IM:List Int) (now:Int) (fR tot:Nat) (st:List Int) (ws:List Nat) (ends:List Int):Prop where
 way:Way cs st now
 wsq:ws=wt cs st now
 cnt:∀u,now≤u→ends.countP (gtB u)=bz cs st u
 ef:∀e∈ends,now<e
 eb:∀e∈ends,e+1000*(HR st:Int)≤11000+1000*(cs.length:Int)
 fl:fill cM vH cs now cs.length st=fill cM vH cs now cs.length IM
 past:∀i,i<fR→PU cs i≤now
 fut:∀i,fR≤i→i<cs.length→now<PU cs i∧KQ st i<0
 tot:ws.length+ends.length=tot
 es:(ends.length:Int)≤vH
theorem EI:∀ {l:List Nat} {i k:Nat},l.Nodup→l[i]? = some k→l.eraseIdx i=l.filter (· != k)
 | [],_,_,_,h=>by cases h
 |
  x::l,0,k,hn,h=>by
  injection h with h
  subst h
  rw[List.nodup_cons] at hn
  rw[List.eraseIdx_cons_zero,List.filter_cons_of_neg (by simp),List.filter_eq_self.2]
  intro y hy
  have:y≠x:=fun he=>hn.1 (he▸hy)
  simpa using this
 |
  x::l,i+1,k,hn,h=>by
  rw[List.nodup_cons] at hn
  rw[List.getElem?_cons_succ] at h
  have hx:x≠k:=fun he=>hn.1 (he▸aLf h)
  rw[List.eraseIdx_cons_succ,List.filter_cons_of_pos (by simpa using hx),EI hn.2 h]
theorem Ph4.step {now:Int} {IM:List Int} {fR tot:Nat} {ws:List Nat} {ends:List Int} (h:Ph4 cM vH cs IM now fR tot st ws ends) (hc:pH cs) (hr:0≤cM∧cM≤3) (hb:(ends.length:Int)<vH) (gD:0<ws.length) :
  ∃k,ws[OE cM cs ws]? = some k∧k<cs.length∧OE cM cs ws<ws.length∧(0≤now∧now≤35000)∧Ph4 cM vH cs IM now fR tot (st.set k now) (ws.eraseIdx (OE cM cs ws)) (ends++[now+wkC cs k]):=by
 have abX:ws≠[]:=fun he=>by rw[he] at gD;simp at gD
 obtain⟨g1,g2⟩:=ahH (cs:=cs) abX hr
 obtain⟨k,hk⟩:∃k,ws[OE cM cs ws]? = some k:=⟨_,aKs g1⟩
 have hnx:nxt cM cs st now=some k:=by
  unfold nxt
  rw[←h.wsq,←g2,hk]
 obtain⟨m1,m2,m3⟩:=PF.1 (S9 hnx)
 have htm:=h.way.tm
 have hle:=(h.way.le hc).1
 have hbz:(bz cs st now:Int)=ends.length:=by
  rw[←h.cnt now (aND _),(aNL (p:=gtB now)).2 fun e he=>decide_eq_true (h.ef e he)]
 have S7:k<st.length:=by rw[h.way.len];exact m1
 have hus:=Db (t:=now) S7 m2 htm.1
 have hwk:=(hc.bnd m1).2
 refine⟨k,hk,m1,g1,⟨htm.1,hle⟩,h.way.set m1 m2,?_,?_,?_,?_,?_,h.past,?_,?_,?_⟩
 ·rw[axC h.way.len m1 htm.1,←h.wsq]
  exact EI (by rw[h.wsq];exact anK) hk
 ·intro u hu
  rw[aNG,h.cnt u hu,ayM m1 h.way.len m2 htm.1,aNH]
  congr 1
  simp only[gtB,decide_eq_true_eq]
  by_cases hq:u<now+wkC cs k
  ·rw[if_pos hq,if_pos ⟨hu,hq⟩]
  ·rw[if_neg hq,if_neg fun h'=>hq h'.2]
 ·intro e he
  rcases aLh.1 he with he | he
  ·exact h.ef e he
  ·rw[aLr] at he
   omega
 ·intro e he
  rcases aLh.1 he with he | he
  ·have:=h.eb e he
   omega
  ·rw[aLr] at he
   omega
 ·rw[adP h.way.len htm.1 (by rw[hbz];exact hb) hnx,h.fl]
 ·intro i h1 h2
  have h3:=h.fut i h1 h2
  refine⟨h3.1,?_⟩
  rw[JQ S7,if_neg (fun he=>by subst he;omega)]
  exact h3.2
 ·rw[List.length_eraseIdx_of_lt g1,aKw,aKv,aLY]
  have:=h.tot
  omega
 ·rw[aKw,aKv,aLY]
  omega
theorem Ph4.done {now:Int} {IM:List Int} {fR tot:Nat} {ws:List Nat} {ends:List Int} (h:Ph4 cM vH cs IM now fR tot st ws ends) (hc:pH cs) (mM:fR≤cs.length) (ht:tot≤fR) (hf:vH≤(ends.length:Int)∨ws=[])
  (hr:runT cM vH cs now (100000-now).toNat IM=stL cM vH cs):Tg cM vH cs st now fR ws ends:=by
 have htm:=h.way.tm
 have hle:=(h.way.le hc).1
 have hbz:(bz cs st now:Int)=ends.length:=by
  rw[←h.cnt now (aND _),(aNL (p:=gtB now)).2 fun e he=>decide_eq_true (h.ef e he)]
 have atX:full cM vH cs st now:=by
  rcases hf with hf | hf
  ·exact .inl (by rw[hbz];exact hf)
  ·exact .inr (A3.2 (by rw[←h.wsq];exact hf))
 refine⟨h.way.len,h.way.low,h.way.high,h.way.bd,by omega,mM,h.past,h.fut,h.wsq,h.cnt,h.ef,h.eb,atX,by rw[h.tot];exact ht,h.es,?_⟩
 have h1:=AF atX cs.length
 rw[h.fl] at h1
 rw[anH htm.1 (by omega),h1] at hr
 exact hr
end
end Go.PM
namespace Go.PM
theorem GR (n:Nat) (h:n<4294967296):TC 207 [VK .u64 1,VK .u64 (n:Int)] (.dU [VK .u64 0,VK .u64 (n:Int)]):=by
 refine TC.walk ⟨true,false⟩ IX rfl (aL9 rfl) rfl rfl ?_
 have a1:dK .and (.int .u64 1) (.int .u64 4294967295)=some (.int .u64 1):=SY 1 (by decide)
 have a2:dK .and (.int .u64 (n:Int)) (.int .u64 4294967295)=some (.int .u64 (n:Int)):=by rw[SY n (by omega),Nat.mod_eq_of_lt h]
 have a0:dK .and (.int .u64 0) (.int .u64 4294967295)=some (.int .u64 0):=SY 0 (by decide)
 have s1:dK .shr (.int .u64 1) (.int .u64 32)=some (.int .u64 0):=qV 1 .u64
 have s0:dK .shr (.int .u64 0) (.int .u64 32)=some (.int .u64 0):=qV 0 .u64
 have s2:dK .shr (.int .u64 (n:Int)) (.int .u64 32)=some (.int .u64 0):=by rw[qV n .u64,Nat.div_eq_of_lt h];rfl
 have w0:IntKind.u64.wrap 0=0:=eT 0 (by decide)
 have wn:IntKind.u64.wrap (n:Int)=n:=eT n (by omega)
 simp only[Eo,Cb,a0,a1,a2,s0,s1,s2,w0,wn,Int.one_mul,Int.zero_mul,Int.mul_zero,Int.add_zero,VX,Nat.reduceEqDiff,Nat.reduceAdd]
 exact aH rfl
theorem J4 (n:Nat) (h:n<4294967296):TC 187 [VK .u64 1,VK .u64 (n:Int)] (.dU [VK .u64 0,VK .u64 (n:Int)]):=by
 refine TC.walk ⟨true,false⟩ MI rfl (aL9 rfl) rfl rfl ?_
 simp only[Hl,Em,GR n h,VX,Nat.reduceEqDiff,Nat.reduceAdd]
 exact aH rfl
end Go.PM
namespace Go.PM
section
variable {α:Type} {f:α→VV} {H:aA} {b g e lo:Nat} {X Y:List α}
theorem UT {o:Nat}:dE (X.map f) o (Y.map f)=(X.take o++Y++X.drop (o+Y.length)).map f:=by
 simp[dE]
theorem Q2 {o d cc:Nat} {y:VV} (h:aG H b g=some (X.map f,e,true)) (hy:dF e y H=some (Y.map f)) (dQ:lo≤b) (ho:o+(Y.take d).length≤X.length) :
  Ml lo e (.ref b g o d cc) y H=some (VI (Y.take d).length,H.set b (.row g ((X.take o++Y.take d++X.drop (o+(Y.take d).length)).map f) e true)):=by
 simp only[Ml,hy,h]
 rw[←List.map_take,UT,if_pos ⟨trivial,dQ,by simpa using ho⟩,aL2]
end
end Go.PM
namespace Go.PM
def fO:aE:=(LS [LO 68 (.bin .lss (LT 67) (LT 66))] (.seq (.cond (LT 68) .skip (.exit 0)) (.seq (.block 1 (LS [LM 69 67,LO 70 (.iaddr 1 (LT 65) (LT 67)),LO 71 (LL 70),LM 10 69,LM 11 71] (LS [LM 73 11,LO 74 (.call 65 [(LT 73)]),LM 72 74,LO 75 (LX 72 0),LO 76 (LX 72 1),LM 12 75,LM 13 76] (.seq (LS [LM 77 13,LO 78 (.un .not (LT 77)),LM 79 78,LZ 79 80 (.mv (LT 12)),LZ 79 81 (.len (LT 80)),LZ 79 82 (.mv (LT 4)),LZ 79 83 (.bin .neq (LT 81) (LT 82)),LO 84 (.pick (LT 79) LG (LT 83)),LM 85 84,LZ 85 86 (.mv (LT 12)),LZ 85 87 (.call 66 [(LT 86),(.func 67)]),LO 88 (.pick (LT 85) LG (LT 87)),LM 89 88,LZ 89 90 (.mv (LT 12)),LZ 89 91 (.mv (LT 10)),LZ 89 92 (.iaddr 3 (LT 90) (LT 91)),LZ 89 93 (LK 92),LZ 89 94 (.call 68 [(LT 93)]),LZ 89 95 (.bin .neq (LT 94) (LI 0)),LO 96 (.pick (LT 89) LG (LT 95))] (.cond (LT 96) (LS [LO 97 (.build [(.slice none 0 0),(.slice none 0 0),(.slice none 0 0)] [(0,1),(1,1),(2,1)] []),LN (.store 3 (LT 2) (LT 97)),LO 3 (.mv LF)] .ret) .skip)) (.cV [LO 98 (LA 1 9),LO 99 (LL 98),LM 100 12,LO 101 (.lit [(.slice none 0 0)] 1 [(0,(LT 100))]),LO 102 (.app 1 24 (LT 99) (LT 101)),LO 103 (LA 1 9),LN (.store 1 (LT 103) (LT 102))]))))) (.cV [LO 104 (.bin .add (LT 67) (LI 1)),LM 67 104]))))
def dX:aE:=(LS [LO 1 (.box (LT 0)),LO 2 (.new [(.slice none 0 0),(.slice none 0 0),(.slice none 0 0)]),LO 3 (.mv LF)] (LS [LO 14 (LA 0 1),LO 15 (LL 14),LO 16 (.len (LT 15)),LM 4 16] (.seq (LS [LM 17 4,LO 18 (.bin .lss (LT 17) (LI 1)),LM 19 18,LZ 19 20 (.mv (LT 4)),LZ 19 21 (.bin .gtr (LT 20) (LI 6)),LO 22 (.pick (LT 19) LG (LT 21)),LM 23 22,LZ 23 24 (LA 1 1),LZ 23 25 (LL 24),LZ 23 26 (.len (LT 25)),LZ 23 27 (.mv (LT 4)),LZ 23 28 (.bin .neq (LT 26) (LT 27)),LO 29 (.pick (LT 23) LG (LT 28)),LM 30 29,LZ 30 31 (LA 2 1),LZ 30 32 (LL 31),LZ 30 33 (.len (LT 32)),LZ 30 34 (.mv (LT 4)),LZ 30 35 (.bin .neq (LT 33) (LT 34)),LO 36 (.pick (LT 30) LG (LT 35))] (.cond (LT 36) (LS [LO 37 (.build [(.slice none 0 0),(.slice none 0 0),(.slice none 0 0)] [(0,1),(1,1),(2,1)] []),LN (.store 3 (LT 2) (LT 37)),LO 3 (.mv LF)] .ret) .skip)) (LS [LO 39 (LA 0 1),LO 40 (LL 39),LO 41 (.call 98 [(LT 40)]),LM 38 41,LO 42 (LX 38 0),LO 43 (LX 38 1),LM 5 42,LM 6 43] (LS [LO 45 (LA 2 1),LO 46 (LL 45),LO 47 (.call 65 [(LT 46)]),LM 44 47,LO 48 (LX 44 0),LO 49 (LX 44 1),LM 7 48,LM 8 49] (.seq (LS [LM 50 6,LO 51 (.un .not (LT 50)),LM 52 51,LZ 52 53 (.mv (LT 8)),LZ 52 54 (.un .not (LT 53)),LO 55 (.pick (LT 52) LG (LT 54)),LM 56 55,LZ 56 57 (.mv (LT 7)),LZ 56 58 (.call 66 [(LT 57),(.func 67)]),LO 59 (.pick (LT 56) LG (LT 58))] (.cond (LT 59) (LS [LO 60 (.build [(.slice none 0 0),(.slice none 0 0),(.slice none 0 0)] [(0,1),(1,1),(2,1)] []),LN (.store 3 (LT 2) (LT 60)),LO 3 (.mv LF)] .ret) .skip)) (LS [LM 61 5,LM 62 7,LO 63 (.build [(.slice none 0 0),(.slice none 0 0),(.slice none 0 0)] [(0,1),(1,1),(2,1)] [(0,(LT 61)),(2,(LT 62))]),LO 9 (.new [(.slice none 0 0),(.slice none 0 0),(.slice none 0 0)]),LN (.store 3 (LT 9) (LT 63))] (.seq (LS [LO 64 (LA 1 1),LO 65 (LL 64),LO 66 (.len (LT 65)),LO 67 (.mv (LI 0))] (.block 0 (.loop fO))) (LS [LO 105 (LK 9),LO 106 (LA 1 9),LO 107 (LL 106),LM 108 7,LQ 109 (.call 195 [(LT 107),(LT 108)]),LQ 110 (.call 194 [(LT 109),LF]),LO 111 (.un .not (LT 110)),LN (.store 3 (LT 2) (LT 105)),LM 3 111] .ret)))))))))
def gC:aU:=⟨112,[(.cell 2 true 3),(.tmp 3)],dX⟩
theorem KJ:fQ 176=some gC:=by kernel_rfl
def nB:aE:=(LS [LO 42 (.bin .lss (LT 41) (LT 40))] (.seq (.cond (LT 42) .skip (.exit 4)) (.seq (.block 5 (LS [LM 43 41,LO 44 (.iaddr 3 (LT 39) (LT 41)),LO 45 (LK 44),LO 8 (.new [(.bool false),(.slice none 0 0),(.slice none 0 0)]),LM 7 43,LN (.store 3 (LT 8) (LT 45))] (.cV [LM 46 5,LM 47 6,LM 48 5,LM 49 6,LO 50 (.iaddr 1 (LT 48) (LT 49)),LO 51 (LL 50),LM 52 51,LZ 52 53 (LK 8),LZ 52 54 (.call 68 [(LT 53)]),LZ 52 55 (.bin .gtr (LT 54) (LI 0)),LZ 52 56 (.mv (LT 55)),LY 56 57 (.mv (LT 5)),LY 56 58 (.mv (LT 7)),LY 56 59 (.iaddr 1 (LT 57) (LT 58)),LY 56 60 (LL 59),LZ 52 61 (.pick (LT 56) (LT 60) LF),LO 62 (.pick (LT 52) LG (LT 61)),LO 63 (.iaddr 1 (LT 46) (LT 47)),LN (.store 1 (LT 63) (LT 62))]))) (.cV [LO 64 (.bin .add (LT 41) (LI 1)),LM 41 64]))))
def pZ:aE:=(LS [LO 19 (.bin .lss (LT 18) (LT 17))] (.seq (.cond (LT 19) .skip (.exit 2)) (.seq (.block 3 (LS [LM 20 18,LM 6 20] (LS [LM 21 5,LM 22 6,LM 23 5,LM 24 6,LO 25 (.iaddr 1 (LT 23) (LT 24)),LO 26 (LL 25),LM 27 26,LZ 27 28 (.mv (LT 1)),LZ 27 29 (.mv (LT 6)),LZ 27 30 (.iaddr 3 (LT 28) (LT 29)),LZ 27 31 (LK 30),LZ 27 32 (.call 68 [(LT 31)]),LZ 27 33 (.bin .gtr (LT 32) (LI 0)),LO 34 (.pick (LT 27) LG (LT 33)),LO 35 (.iaddr 1 (LT 21) (LT 22)),LN (.store 1 (LT 35) (LT 34))] (LS [LM 36 0,LM 37 6,LO 38 (.iaddr 1 (LT 36) (LT 37)),LO 39 (LL 38),LO 40 (.len (LT 39)),LO 41 (.mv (LI 0))] (.block 4 (.loop nB)))))) (.cV [LO 65 (.bin .add (LT 18) (LI 1)),LM 18 65]))))
def Cn:aE:=(LS [LO 15 (.bin .lss (LT 14) (LT 13))] (.seq (.cond (LT 15) .skip (.exit 0)) (.seq (.block 1 (LS [LM 16 1,LO 17 (.len (LT 16)),LO 18 (.mv (LI 0))] (.block 2 (.loop pZ)))) (.cV [LO 66 (.bin .add (LT 14) (LI 1)),LM 14 66]))))
def Jp:aE:=(LS [LO 4 (.mv (.const (.slice none 0 0)))] (LS [LM 9 1,LO 10 (.len (LT 9)),LO 11 (.make [(.bool false)] 1 (LT 10) (LT 10)),LM 5 11] (.seq (LS [LM 12 1,LO 13 (.len (LT 12)),LO 14 (.mv (LI 0))] (.block 0 (.loop Cn))) (LS [LM 67 5,LM 4 67] .ret))))
def OY:aU:=⟨68,[(.tmp 4)],Jp⟩
theorem SD:fQ 195=some OY:=by kernel_rfl
def pI:aE:=(LS [LO 2 (.box (LT 0)),LO 4 (.mv (.const (.string ⟨#[]⟩))),LO 5 (.mv LF)] (LS [LM 9 1,LO 10 (.call 115 [(LT 9)]),LM 8 10,LO 11 (LX 8 0),LO 12 (LX 8 1),LO 6 (.new [(.bool false),(.slice none 0 0),(.slice none 0 0)]),LN (.store 3 (LT 6) (LT 11)),LM 7 12] (.seq (LS [LM 13 7,LO 14 (.un .not (LT 13)),LM 15 14,LZ 15 16 (LK 6),LZ 15 17 (.call 68 [(LT 16)]),LZ 15 18 (.bin .lss (LT 17) (LI 0)),LO 19 (.pick (LT 15) LG (LT 18))] (.cond (LT 19) (LS [LO 4 (.mv (.const (.string ⟨#[]⟩))),LO 5 (.mv LF)] .ret) .skip)) (LS [LO 20 (LK 2),LO 21 (.mkfn 117 [(LT 6)]),LO 22 (.call 116 [(LT 20),(LT 21)]),LO 23 (LX 22 0),LO 24 (LX 22 1),LM 4 23,LM 5 24] .ret))))
def sW:aU:=⟨25,[(.tmp 4),(.tmp 5)],pI⟩
theorem HW:fQ 47=some sW:=by kernel_rfl
def oI:aE:=(LS [LO 2 (.box (LT 0)),LO 4 (.mv (.const (.string ⟨#[]⟩))),LO 5 (.mv LF)] (LS [LO 9 (LK 2),LO 10 (.call 176 [(LT 9)]),LM 8 10,LO 11 (LX 8 0),LO 12 (LX 8 1),LO 6 (.new [(.slice none 0 0),(.slice none 0 0),(.slice none 0 0)]),LN (.store 3 (LT 6) (LT 11)),LM 7 12] (.seq (LS [LM 13 7,LO 14 (.un .not (LT 13))] (.cond (LT 14) (LS [LO 4 (.mv (.const (.string ⟨#[]⟩))),LO 5 (.mv LF)] .ret) .skip)) (LS [LM 15 1,LO 16 (LK 6),LO 17 (.callv (LT 15) [(LT 16)]),LO 18 (.call 137 [(LT 17)]),LO 19 (LX 18 0),LO 20 (LX 18 1),LM 4 19,LM 5 20] .ret))))
def rK:aU:=⟨21,[(.tmp 4),(.tmp 5)],oI⟩
theorem Km:fQ 116=some rK:=by kernel_rfl
def zL:aE:=(LS [LO 2 (.box (LT 0)),LO 3 (.new [(.bool false),(.slice none 0 0),(.slice none 0 0)])] (LS [LO 7 (LK 2),LO 8 (LK 1),LQ 9 (.call 119 [(LT 7),(LT 8),LF]),LO 10 (LA 2 2),LO 11 (LL 10),LQ 12 (.call 120 [(LT 11)]),LO 13 (.call 118 [(LT 9),(LT 12)]),LM 6 13,LO 14 (LX 6 0),LO 15 (LX 6 1),LM 4 14,LM 5 15] (LS [LO 16 (LK 2),LM 17 4,LO 18 (.call 121 [(LT 16),(LT 17)]),LN (.store 3 (LT 3) (LT 18))] .ret)))
def AO:aU:=⟨19,[(.cell 3 true 3)],zL⟩
theorem E2:fQ 117=some AO:=by kernel_rfl
def nE:aE:=(LS [LO 23 (.bin .lss (LT 22) (LT 21))] (.seq (.cond (LT 23) .skip (.exit 2)) (.seq (.block 3 (LS [LM 24 22,LM 9 24] (LS [LM 25 2] (.cond (LT 25) (.cV [LM 26 7,LM 27 9,LO 28 (.iaddr 1 (LT 26) (LT 27)),LO 29 (LL 28),LM 30 8,LO 31 (LA 1 3),LO 32 (LL 31),LM 33 8,LO 34 (.iaddr 1 (LT 32) (LT 33)),LO 35 (LL 34),LM 36 9,LO 37 (.iaddr 3 (LT 35) (LT 36)),LO 38 (LK 37),LQ 39 (.call 177 [(LT 38)]),LO 40 (.iaddr 3 (LT 29) (LT 30)),LN (.store 3 (LT 40) (LT 39))]) (.cV [LM 41 7,LM 42 8,LO 43 (.iaddr 1 (LT 41) (LT 42)),LO 44 (LL 43),LM 45 9,LO 46 (LA 1 3),LO 47 (LL 46),LM 48 8,LO 49 (.iaddr 1 (LT 47) (LT 48)),LO 50 (LL 49),LM 51 9,LO 52 (.iaddr 3 (LT 50) (LT 51)),LO 53 (LK 52),LQ 54 (.call 177 [(LT 53)]),LO 55 (.iaddr 3 (LT 44) (LT 45)),LN (.store 3 (LT 55) (LT 54))]))))) (.cV [LO 56 (.bin .add (LT 22) (LI 1)),LM 22 56]))))
def mZ:aE:=(LS [LO 18 (.bin .lss (LT 17) (LT 16))] (.seq (.cond (LT 18) .skip (.exit 0)) (.seq (.block 1 (LS [LM 19 17,LM 8 19] (LS [LM 20 7,LO 21 (.len (LT 20)),LO 22 (.mv (LI 0))] (.block 2 (.loop nE))))) (.cV [LO 57 (.bin .add (LT 17) (LI 1)),LM 17 57]))))
def nF:aE:=(LS [LO 61 (.bin .lss (LT 60) (LT 59))] (.seq (.cond (LT 61) .skip (.exit 4)) (.seq (.block 5 (LS [LM 62 60,LM 10 62] (.cV [LM 63 7,LM 64 10,LO 65 (.iaddr 1 (LT 63) (LT 64)),LO 66 (LL 65),LM 67 10,LM 68 7,LM 69 10,LO 70 (.iaddr 1 (LT 68) (LT 69)),LO 71 (LL 70),LM 72 10,LO 73 (.iaddr 3 (LT 71) (LT 72)),LO 74 (LK 73),LO 75 (LK 3),LM 76 10,LQ 77 (.call 136 [(LT 75),(LT 76)]),LQ 78 (.call 69 [(LT 74),(LT 77)]),LO 79 (LK 4),LQ 80 (.call 69 [(LT 78),(LT 79)]),LO 81 (.iaddr 3 (LT 66) (LT 67)),LN (.store 3 (LT 81) (LT 80))]))) (.cV [LO 82 (.bin .add (LT 60) (LI 1)),LM 60 82]))))
def vE:aE:=(LS [LO 3 (.box (LT 0)),LO 4 (.box (LT 1)),LO 6 (.mv (.const (.slice none 0 0)))] (LS [LO 11 (LA 0 3),LO 12 (LL 11),LO 13 (.len (LT 12)),LO 14 (.call 99 [(LT 13)]),LM 7 14] (.seq (LS [LM 15 7,LO 16 (.len (LT 15)),LO 17 (.mv (LI 0))] (.block 0 (.loop mZ))) (.seq (LS [LM 58 7,LO 59 (.len (LT 58)),LO 60 (.mv (LI 0))] (.block 4 (.loop nF))) (LS [LM 83 7,LM 6 83] .ret)))))
def xC:aU:=⟨84,[(.tmp 6)],vE⟩
theorem CU:fQ 119=some xC:=by kernel_rfl
def oC:aE:=(LS [LO 13 (.bin .lss (LT 12) (LT 11))] (.seq (.cond (LT 13) .skip (.exit 0)) (.seq (.block 1 (LS [LM 14 12,LO 15 (.iaddr 3 (LT 10) (LT 12)),LO 16 (LK 15),LO 7 (.new [(.bool false),(.slice none 0 0),(.slice none 0 0)]),LM 6 14,LN (.store 3 (LT 7) (LT 16))] (.cV [LO 17 (LK 5),LO 18 (LK 7),LM 19 1,LM 20 6,LO 21 (.iaddr 3 (LT 19) (LT 20)),LO 22 (LK 21),LQ 23 (.call 132 [(LT 18),(LT 22)]),LQ 24 (.call 69 [(LT 17),(LT 23)]),LN (.store 3 (LT 5) (LT 24))]))) (.cV [LO 25 (.bin .add (LT 12) (LI 1)),LM 12 25]))))
def wU:aE:=(LS [LO 2 (.box (LT 0)),LO 4 (.new [(.bool false),(.slice none 0 0),(.slice none 0 0)])] (LS [LO 8 (.call 64 [(LI 0)]),LO 5 (.new [(.bool false),(.slice none 0 0),(.slice none 0 0)]),LN (.store 3 (LT 5) (LT 8))] (.seq (LS [LO 9 (LA 0 2),LO 10 (LL 9),LO 11 (.len (LT 10)),LO 12 (.mv (LI 0))] (.block 0 (.loop oC))) (LS [LO 26 (LK 5),LN (.store 3 (LT 4) (LT 26))] .ret))))
def zS:aU:=⟨27,[(.cell 4 true 3)],wU⟩
theorem D8:fQ 121=some zS:=by kernel_rfl
def zF:aE:=(LS [LO 2 (.box (LT 0)),LO 4 (.new [(.bool false),(.slice none 0 0),(.slice none 0 0)])] (LS [LO 5 (LA 1 2),LO 6 (LL 5),LM 7 1,LO 8 (.iaddr 1 (LT 6) (LT 7)),LO 9 (LL 8),LQ 10 (.call 70 [(LT 9)]),LO 11 (LA 2 2),LO 12 (LL 11),LM 13 1,LO 14 (.iaddr 3 (LT 12) (LT 13)),LO 15 (LK 14),LQ 16 (.call 69 [(LT 10),(LT 15)]),LN (.store 3 (LT 4) (LT 16))] .ret))
def Bp:aU:=⟨17,[(.cell 4 true 3)],zF⟩
theorem FP:fQ 136=some Bp:=by kernel_rfl
end Go.PM
namespace Go.PM
open Go.Lib
def Jx {α:Type} (f:α→VV) (e:Nat) (cE:List α) (lo hi:Nat) (H:aA) (v:VV):Prop :=
 ∃b g c,lo≤b∧b<hi∧v = .ref b g 0 cE.length c∧cE.length≤c∧aG H b g=some (cE.map f,e,true)
def TabIs {α:Type} (f:α→VV) (e:Nat) (m:List (List α)) (lo hi:Nat) (H:aA) (v:VV):Prop :=
 ∃b g c rs,v = .ref b g 0 m.length c∧m.length≤c∧MG f e lo hi b g H rs∧rs.map (·.xs)=m
theorem OV {α:Type} {f:α→VV} {lo b k e bytes:Nat} {H:aA} {xs:List α} {x:α} (h:aG H b k=some (xs.map f,e,true)) (hk:k=xs.length) (dQ:lo≤b) (he:1≤e) (hb:1≤bytes) (DO:(k+1)*bytes≤140737488355328) :
 dI lo e bytes (.ref b k 0 k k) [f x] H=some (.ref b (k+1) 0 (k+1) (k+1),H.set b (.row (k+1) ((xs++[x]).map f) e true)):=jU h hk dQ he hb DO
theorem Jx.rd {α:Type} {f:α→VV} {e lo hi:Nat} {cE:List α} {H:aA} {v:VV} (h:Jx f e cE lo hi H v):Rd f e cE H v:=by
 obtain⟨b,g,c,h1,h2,rfl,h3,h4⟩:=h
 exact Rd.row h4 rfl
theorem GZ {lo:Nat} {H:aA} (q:Rat) (N:Nat) (hN:N≤1000000) (dQ:lo≤H.length) :
  jA 162 [.tree [aF q] (.cl 3),VI N] lo H fun r H'=>r = .ref H.length 0 0 N N∧H'=H++[.row 0 ((aLb N q).map aF) 3 true]:=by
 refine jA.walk ⟨true,false⟩ tF (aL9 rfl) ?_
 have eM:=J4 N (by omega)
 have c1:IntKind.u64.wrap ((1:Nat):Int)=1:=eT 1 (by decide)
 have c2:IntKind.u64.wrap (N:Int)=(N:Int):=eT N (by omega)
 have c3:IntKind.i64.wrap (N:Int)=(N:Int):=wrap64 (by omega) (by omega)
 have g1:¬(N:Int)<0:=by omega
 have g2:¬(0:Int)<0:=by decide
 have g3:¬(9223372036854775807:Int)<(N:Int):=by omega
 have em:=fun H=>oG (H:=H) (f:=id) (x:=rz) (z:=[.bool false,.slice none 0 0,.slice none 0 0]) (bytes:=56) (n:=N) rfl (by omega) (by omega)
 have s1:dF 3 (.tree [aF q] (.cl 3)) (H++[.row 0 ((aLb N rz).map id) 3 true])=some ([aF q].map id):=gS (v:=aF q) rfl rfl
 have r1:aG (H++[.row 0 ((aLb N rz).map id) 3 true]) H.length 0=some ((aLb N rz).map id,3,true):=by rw[BS,aT]
 have s2:=Q2 (f:=id) (Y:=[aF q]) (lo:=lo) (o:=0) (d:=N) (cc:=N) (y := .tree [aF q] (.cl 3)) r1 s1 dQ (by simp;omega)
 rw[Sf] at s2
 simp only[lL,kR,eM,c1,c2,c3,g1,g2,g3,em,s2,eH,VX,Nat.reduceEqDiff,Nat.reduceAdd,Nat.reduceLeDiff,Nat.reduceLT,Nat.reduceSub]
 refine aR (fun(i:Nat) ρ H1=>i≤N∧(i=0→N=0)∧H1=H++[.row 0 ((aLb i (aF q)++aLb (N-i) rz).map id) 3 true]∧ρ 7 = .ref H.length 0 0 N N∧ρ 8=VI i) (fun i=>N-i) (min 1 N) ?_ ?_
 refine⟨by omega,by omega,?_,rfl,?_⟩
 ·congr 2
  cases N with
  | zero=>rfl
  |
   succ N =>
   have:min 1 (N+1)=1:=by omega
   rw[this]
   simp[aLv]
 ·cases N with
  | zero=>rfl
  |
   succ N =>
   have:min 1 (N+1)=1:=by omega
   simp only[this,eH,VX,Nat.reduceEqDiff,Nat.reduceAdd,Nat.reduceLeDiff,Nat.reduceLT,Nat.reduceSub]
   try simp
 rintro i ρ H1 ⟨hi,h0,rfl,h7,h8⟩
 have hr:aG (H++[.row 0 ((aLb i (aF q)++aLb (N-i) rz).map id) 3 true]) H.length 0=some ((aLb i (aF q)++aLb (N-i) rz).map id,3,true):=by rw[BS,aT]
 have el:=eK (o:=0) (n:=N) (c:=N) hr
 by_cases bX:(i:Int)<(N:Int)
 ·have hXl:(aLb i (aF q)++aLb (N-i) rz).length=N:=by simp;omega
  have BQ:∀X:List VV,X=aLb i (aF q)++aLb (N-i) rz→(((X.map id).drop 0).take i).all (fun x=>(aB x).all bL)=true:=by
   rintro X rfl
   rw[aNM,List.drop_zero,aMU (by simp),aLe (by simp),List.all_eq_true]
   intro x hx
   rw[List.eq_of_mem_replicate hx]
   rfl
  have q1:=PZ (o:=0) (n:=N) (c:=N) (l:=i) (k1 := .i64) hr hi (aKl _)
  have q2:=rP (o:=0) (n:=N) (c:=N) (h:=i) (k2 := .i64) hr hi
  have hY:((aLb i (aF q)++aLb (N-i) rz).drop 0).take i=aLb i (aF q):=by
   rw[List.drop_zero,aMU (by simp),aLe (by simp)]
  have q3:dF 3 (.ref H.length 0 0 i N) (H++[.row 0 ((aLb i (aF q)++aLb (N-i) rz).map id) 3 true])=some ((aLb i (aF q)).map id):=by
   have hs:=BQ _ rfl
   simp only[dF,hr]
   rw[if_pos ⟨trivial,by rw[aL2,hXl];omega,hs⟩,aNM,aNM,hY]
  have hYd:(aLb i (aF q)).take (N-i)=aLb (min (N-i) i) (aF q):=List.take_replicate
  have q4:=Q2 (f:=id) (lo:=lo) (o:=i) (d:=N-i) (cc:=N-i) hr q3 dQ (by rw[hYd,hXl];simp;omega)
  rw[Sf,hYd,aMa,aMU (by simp),aLe (by simp)] at q4
  have hX':aLb i (aF q)++aLb (min (N-i) i) (aF q)++(aLb i (aF q)++aLb (N-i) rz).drop (i+min (N-i) i)=aLb (i+min (N-i) i) (aF q)++aLb (N-(i+min (N-i) i)) rz:=by
   rw[List.replicate_append_replicate,List.drop_append,List.drop_of_length_le (by simp),List.nil_append,aMa,List.drop_replicate]
   congr 2
   omega
  rw[hX'] at q4
  have wi:IntKind.i64.wrap ((i:Int)+((min (N-i) i:Nat):Int))=((i+min (N-i) i:Nat):Int):=wrapN _ (by omega) (by omega)
  simp only[fC,h7,h8,el,bX,q1,q2,q3,q4,wi,eH,VX,Nat.reduceEqDiff,Nat.reduceAdd,Nat.reduceLeDiff,Nat.reduceLT,Nat.reduceSub]
  exact⟨i+min (N-i) i,by omega,by omega,by omega,by (repeat' apply aL1)<;>first | rfl | trivial | assumption⟩
 ·have nC:i=N:=by omega
  subst nC
  simp only[fC,h7,h8,el,bX,eH,VX,Nat.reduceEqDiff,Nat.reduceAdd,Nat.reduceLeDiff,Nat.reduceLT,Nat.reduceSub]
  rw[aKE,aNN,aLt,aNM,List.map_replicate]
theorem Yu (a n:Nat):((aKh n).map fun k=>a+k).Nodup:=List.pairwise_map.2 (List.nodup_range.imp fun h=>by omega)
theorem Tj {lo:Nat} {H:aA} (N:Nat) (hN:N≤1000) (dQ:lo≤H.length) :
  jA 99 [VI N] lo H (Rr (TabIs aF 3 (aLb N (aLb N (0:Rat)))) H):=by
 refine jA.walk ⟨true,false⟩ TA (aL9 rfl) ?_
 have em:=fun H=>oG (H:=H) (f:=id) (x := .tree [] .nil) (z:=[.slice none 0 0]) (bytes:=24) (n:=N) rfl (by omega) (by omega)
 have el0:=eK (H:=H++[.row 0 ((aLb N (VV.tree [] .nil)).map id) 1 true]) (b:=H.length) (g:=0) (o:=0) (n:=N) (c:=N) kD
 simp only[OX,JT,em,el0,aKv,aLY,aLT,eH,VX,Nat.reduceEqDiff,Nat.reduceAdd,Nat.reduceLeDiff,Nat.reduceLT,Nat.reduceSub]
 refine aR (fun(i:Nat) ρ H1=>i≤N∧H1=H ++ .row 0 (((aKh i).map fun k=>VV.ref (H.length+1+k) 0 0 N N)++aLb (N-i) (VV.tree [] TK.nil)) 1 true::aLb i (.row 0 ((aLb N (0:Rat)).map aF) 3 true)∧ρ 0=VI N∧ρ 3 = .ref H.length 0 0 N N∧ρ 8=VI N∧ρ 9=VI i) (fun i=>N-i) 0 ⟨aKP _,by simp,rfl,rfl,rfl,rfl⟩ ?_
 rintro i ρ H1 ⟨hi,rfl,g0,g3,g8,g9⟩
 have e1:TC 64 [VI 0] (aF 0):=wA 0 (by decide) (by decide)
 have eL:∀H,oD false [.bool false,.slice none 0 0,.slice none 0 0] 1 [(0,aF 0)] H=some (.tree [aF 0] (.cl 3),H):=fun H=>lS rfl rfl rfl
 by_cases bX:(i:Int)<(N:Int)
 ·have wi:IntKind.i64.wrap ((i:Int)+1)=((i+1:Nat):Int):=wrapN (i+1) (by omega) (by omega)
  simp only[Cm,g0,g3,g8,g9,bX,e1,eL,eH,VX,Nat.reduceEqDiff,Nat.reduceAdd,Nat.reduceLeDiff,Nat.reduceLT,Nat.reduceSub]
  refine fS rfl ((GZ 0 N (by omega) (by rw[aKw];omega)).mono ?_)
  rintro r H' ⟨rfl,rfl⟩
  have hl:(H++fK.row 0 (((aKh i).map fun k=>VV.ref (H.length+1+k) 0 0 N N)++aLb (N-i) (VV.tree [] TK.nil)) 1 true::aLb i (.row 0 ((aLb N (0:Rat)).map aF) 3 true)).length=H.length+1+i:=by simp;omega
  rw[hl,List.append_assoc,List.cons_append]
  have hr:aG (H++fK.row 0 (((aKh i).map fun k=>VV.ref (H.length+1+k) 0 0 N N)++aLb (N-i) (VV.tree [] TK.nil)) 1 true::(aLb i (.row 0 ((aLb N (0:Rat)).map aF) 3 true)++[.row 0 ((aLb N (0:Rat)).map aF) 3 true])) H.length 0=some ((((aKh i).map fun k=>VV.ref (H.length+1+k) 0 0 N N)++aLb (N-i) (VV.tree [] TK.nil)),1,true):=by rw[BS,aT]
  have a1:=bA (o:=0) (n:=N) (c:=N) (i:=i) (k := .i64) hr (by omega)
  have a2:=bR (lo:=lo) (v := .ref (H.length+1+i) 0 0 N N) (j:=i) hr (by simp;omega) dQ rfl rfl
  rw[Sf,aLZ] at a2
  have hs:(((aKh i).map fun k=>VV.ref (H.length+1+k) 0 0 N N)++aLb (N-i) (VV.tree [] TK.nil)).set i (.ref (H.length+1+i) 0 0 N N)=((aKh (i+1)).map fun k=>VV.ref (H.length+1+k) 0 0 N N)++aLb (N-(i+1)) (VV.tree [] TK.nil):=by
   obtain⟨m,hm⟩:∃m,N-i=m+1:=⟨N-i-1,by omega⟩
   have hm':N-(i+1)=m:=by omega
   rw[List.set_append_right _ _ (by simp),hm,hm',aL2,List.length_range,aKE,aLv,aLZ,aNF,aMG,List.append_assoc]
   rfl
  rw[hs] at a2
  rw[aLT] at a1
  simp only[a1,a2,wi,g9,eH,VX,Nat.reduceEqDiff,Nat.reduceAdd,Nat.reduceLeDiff,Nat.reduceLT,Nat.reduceSub]
  exact⟨i+1,by omega,by omega,by rw[List.replicate_succ'],by (repeat' apply aL1)<;>first | rfl | trivial | assumption⟩
 ·have nC:i=N:=by omega
  subst nC
  simp only[Cm,g3,g8,g9,bX,eH,VX,Nat.reduceEqDiff,Nat.reduceAdd,Nat.reduceLeDiff,Nat.reduceLT,Nat.reduceSub]
  refine⟨aMg _ _,H.length,0,i,(aKh i).map fun k=>⟨H.length+1+k,0,i,aLb i 0⟩,by rw[aMa],by rw[aMa];exact aKl _,⟨?_,aKl _,by simp,?_,?_⟩,?_⟩
  ·rw[BS,aT,aKE,aNN,aLt,aNO]
   simp[tU,Function.comp_def]
  ·rw[aNO]
   exact Yu (H.length+1) i
  ·intro r hr
   obtain⟨k,hk,rfl⟩:=aLW.1 hr
   rw[aKW] at hk
   refine⟨by simp only;omega,by simp;omega,by simp only;omega,by simp,?_⟩
   have:H.length+1+k=H.length+(k+1):=by omega
   simp only[this]
   rw[NA,dZ,cH,aNK,if_pos hk]
  ·rw[aNO]
   apply aNP
   intro k
   rw[aNQ,aNK]
   by_cases hk:k<i
   ·simp[hk,List.getElem?_range]
   ·simp[hk]
end Go.PM
namespace Go.PM
def Pk (s:tA) (left:Int):Int:=if HK s.b left<0 then -1 else if Fe s.g (HK s.b left)<0 then -1 else if HK s.e (Fe s.g (HK s.b left))<0 then -1 else HK s.e (Fe s.g (HK s.b left))
theorem asY {s:tA} {l:Int} (h:0≤Pk s l):Pk s l≤l∧(s.b.length:Int)≤l∧(s.g.length:Int)≤l∧(∀x∈s.g,(x.length:Int)≤l)∧(s.e.length:Int)≤l:=by
 unfold Pk at h ⊢
 split at h
 ·omega
 rename_i h0
 split at h
 ·omega
 rename_i h1
 split at h
 ·omega
 rename_i h2
 rw[if_neg h0,if_neg h1,if_neg h2]
 have b0:=ID (xs:=s.b) (l:=l) (by omega)
 have b1:=Sw (xs:=s.g) (l:=HK s.b l) (by omega)
 have b2:=ID (xs:=s.e) (l:=Fe s.g (HK s.b l)) (by omega)
 exact⟨by omega,b0.2.1,by omega,fun x hx=>by have:=(b1.2.2 x hx).1;omega,by omega⟩
theorem YP {lo:Nat} {s:tA} {bare:Bool} {H:aA} {K:VV→aA→Prop} (hb:s.b.length≤1000000000) (hg:s.g.length≤1000000000∧∀x∈s.g,x.length≤1000000000) (he:s.e.length≤1000000000)
  (hk:∀c H',H <+: H'→vS H.length H' bare s c→K c H'):dH 46 [tR s,.sc (.bool bare)] lo H K:=by
 refine(KA s bare hb hg he).call rfl (mapM_pure (n:=7) (by simp only[aO,mT,Bool.true_and];rfl)) ?_
 intro r L h
 exact hk r _ (aMg _ _) (h.dB fun b g x hb h=>Kr (Nat.le_of_lt hb) h)
theorem aEx {n lo:Nat} {s:tA} {bare:Bool} {H:aA} {c:VV} (hc:vS n H bare s c) (dQ:lo≤H.length):bK lo 3 (.ptr H.length 0 0 0) c (H++[.row 0 [.agg [.tree [] .nil,.tree [] .nil,.tree [] .nil]] 3 true])=some (H++[.row 0 [c] 3 true]):=by
 obtain⟨c0,c1,c2,rfl,h0,h1,h2⟩:=hc
 rw[bR (e:=3) (g:=0) (lo:=lo) (v := .agg [c0,c1,c2]) (j:=0) kD (by decide) dQ rfl (by simp[aB,h0.cell.2.1,h1.cell.2,h2.cell.2.1]),Oa]
 rfl
theorem ld3 {n b:Nat} {s:tA} {bare:Bool} {H H':aA} {c:VV} (hc:vS n H bare s c) (h:aG H' b 0=some ([c],3,true)):bI true 3 (.ptr b 0 0 0) H'=some c:=by
 obtain⟨c0,c1,c2,rfl,_⟩:=hc
 rw[bS,h]
 rfl
theorem kJ {s:tA}:dP true 3 (tR s) 0=some (tR s):=rfl
theorem gG {s:tA}:(aB (tR s)).all bL=true:=rfl
structure N5 (s:tA):Prop where
 b4:s.b.length≤400000000
 e4:s.e.length≤400000000
 g4:s.g.length≤400000000∧∀x∈s.g,x.length≤400000000
 bs:∀x∈s.b,x.size≤1000000000
 es:∀x∈s.e,x.size≤1000000000
 gs:∀x∈s.g,∀y∈x,y.size≤1000000000
theorem N5.g9 {s:tA} (h:N5 s):s.g.length≤1000000000∧∀x∈s.g,x.length≤1000000000:=⟨by have:=h.g4.1;omega,fun x hx=>by have:=h.g4.2 x hx;omega⟩
theorem aqB {s:tA} {l:Int} (h:Pk s l<0):Pk s l = -1:=by
 unfold Pk at h ⊢
 split
 ·rfl
 rename_i h0
 rw[if_neg h0] at h
 split
 ·rfl
 rename_i h1
 rw[if_neg h1] at h
 split
 ·rfl
 rename_i h2
 rw[if_neg h2] at h
 omega
theorem atQ {s:tA} {l:Int} (h:0≤Pk s l) (hl:l≤1000000):Pk s l≤l∧N5 s:=by
 have hle:=asY h
 unfold Pk at h
 split at h
 ·omega
 rename_i h0
 split at h
 ·omega
 rename_i h1
 split at h
 ·omega
 rename_i h2
 have b0:=ID (xs:=s.b) (l:=l) (by omega)
 have b1:=Sw (xs:=s.g) (l:=HK s.b l) (by omega)
 have b2:=ID (xs:=s.e) (l:=Fe s.g (HK s.b l)) (by omega)
 exact⟨hle.1,by omega,by omega,⟨by omega,fun x hx=>by have:=(b1.2.2 x hx).1;omega⟩,fun x hx=>by have:=b0.2.2 x hx;omega,fun x hx=>by have:=b2.2.2 x hx;omega,fun x hx y hy=>by have:=(b1.2.2 x hx).2 y hy;omega⟩
end Go.PM
namespace Go.PM
def Ip {β:Type} (xs:List (List β)):Nat:=(xs.map aNu).sum
section
variable {β:Type}
end
def svN (s:tA):Nat:=s.b.length+Ip s.g+s.e.length
theorem WU.cell {α:Type} {f:α→VV} {e lo hi:Nat} {H:aA} {v:VV} {cE:List α} (h:WU f e cE lo hi H v):bL v=true:=by
 rcases h with⟨rfl,rfl⟩ | ⟨b,g,c,h1,h2,rfl,h3⟩<;>rfl
theorem RG.cell {α:Type} {f:α→VV} {e lo hi:Nat} {H:aA} {v:VV} {cE:List (List α)} (h:RG f e cE lo hi H v):bL v=true:=by
 rcases h with⟨rfl,rfl⟩ | ⟨b,g,c,rs,h1,h2,rfl,h3⟩<;>rfl
end Go.PM
namespace Go.PM
open Go.Lib
section
variable {α:Type} {f:α→VV} {e:Nat}
def Uy (f:α→VV) (e:Nat) (cE:List (List α)) (lo hi:Nat) (H:aA) (v:VV):Prop :=
 (v = .tree [] .nil∧cE=[])∨∃b g rs,lo≤b∧b<hi∧v = .ref b g 0 cE.length cE.length∧aG H b g=some (rs.map tU,1,true)∧rs.map (·.xs)=cE∧Zi f e lo hi b H rs
theorem Uy.rg {cE:List (List α)} {lo hi:Nat} {H:aA} {v:VV} (h:Uy f e cE lo hi H v):RG f e cE lo hi H v:=by
 rcases h with h | ⟨b,g,rs,h1,h2,h3,h5,h6,h7⟩
 ·exact .inl h
 ·exact .inr ⟨b,g,_,rs,h1,h2,h3,aKl _,h5,h6,h7⟩
theorem Uy.dB {cE:List (List α)} {lo hi:Nat} {H H':aA} {v:VV} (h:Uy f e cE lo hi H v) (hk:jT lo hi H H'):Uy f e cE lo hi H' v:=by
 rcases h with h | ⟨b,g,rs,h1,h2,h3,h5,h6,h7⟩
 ·exact .inl h
 ·exact .inr ⟨b,g,rs,h1,h2,h3,hk _ _ _ h1 h2 h5,h6,h7.nd,fun r hr=>by
   obtain⟨k1,k2,k3,k4,k5⟩:=h7.row r hr
   exact⟨k1,k2,k3,k4,hk _ _ _ k1 k2 k5⟩⟩
theorem Uy.wide {cE:List (List α)} {lo hi fZ qM:Nat} {H:aA} {v:VV} (h:Uy f e cE lo hi H v) (hl:fZ≤lo) (hh:hi≤qM):Uy f e cE fZ qM H v:=by
 rcases h with h | ⟨b,g,rs,h1,h2,h3,h5,h6,h7⟩
 ·exact .inl h
 ·exact .inr ⟨b,g,rs,by omega,by omega,h3,h5,h6,h7.nd,fun r hr=>by
   obtain⟨k1,k2,k3,k4,k5⟩:=h7.row r hr
   exact⟨by omega,by omega,k3,k4,k5⟩⟩
theorem Uy.iQ {cE:List (List α)} {lo hi:Nat} {H:aA} {v:VV} (h:Uy f e cE lo hi H v):bL v=true∧aB v=[v]∧isAny v=false:=by
 rcases h with⟨rfl,rfl⟩ | ⟨b,g,rs,h1,h2,rfl,h3⟩<;>exact⟨rfl,rfl,rfl⟩
theorem Uy.axO {cE:List (List α)} {lo hi:Nat} {H:aA} {v:VV} (h:Uy f e cE lo hi H v):rC v H=some (VI cE.length):=by
 rcases h with⟨rfl,rfl⟩ | ⟨b,g,rs,h1,h2,rfl,h5,h6,h7⟩
 ·rfl
 ·exact eK h5
theorem Uy.snoc {cE:List (List α)} {lo fZ hi:Nat} {H:aA} {v:VV} (h:Uy f e cE lo hi H v) (dQ:fZ≤lo) (hn:cE.length≤1000000000) (r:Ck α) (hhi:hi≤r.b) (AU:lo≤r.b) (hc:r.xs.length≤r.c) (hr:aG H r.b r.g=some (r.xs.map f,e,true)) :
  ∃v' H3,dI fZ 1 24 v [.ref r.b r.g 0 r.xs.length r.c] H=some (v',H3)∧Uy f e (cE++[r.xs]) lo H3.length H3 v'∧(∀b' g' x,b'<lo→aG H b' g'=some x→aG H3 b' g'=some x)∧H.length≤H3.length ∧
   (∀n,n≤lo→Dl n H→Dl n H3)∧(∀H0:aA,H0.length≤lo→H0 <+: H→H0 <+: H3)∧(∀b' g' x,aG H b' g'=some x→(∀g0 n0 c0,v ≠ .ref b' g0 0 n0 c0)→aG H3 b' g'=some x):=by
 have hb:=kW hr
 rcases h with⟨rfl,rfl⟩ | ⟨b,g,rs,h1,h2,rfl,h5,h6,h7⟩
 ·refine⟨.ref H.length 0 0 1 1,H++[.row 0 [tU r] 1 true],by simp[dI,tU],.inr ⟨H.length,0,[r],by omega,by simp,rfl,kD,rfl,by simp,fun s hs => ?_⟩,fun _ _ _ _ h=>gP h,by simp,fun n hn hO=>hO.app (by simp[Ap,jS,tU];omega),fun H0 _ hp=>Fb hp,fun _ _ _ h _=>gP h⟩
  rw[aLr] at hs
  subst hs
  exact⟨AU,by simp;omega,by omega,hc,gP hr⟩
 ·subst h6
  rw[aL2] at hn ⊢
  have xH:=jU (f:=tU) (xs:=rs) (x:=r) (lo:=fZ) (bytes:=24) h5 rfl (by omega) (by decide) (by decide) (by omega)
  refine⟨_,_,xH,.inr ⟨b,g+1,rs++[r],h1,by rw[aMk];exact kW h5,by simp,cA h5,by simp,?_,fun s hs => ?_⟩,fun b' g' x xD h=>bC (by omega) h,by simp,fun n hn hO=>hO.set (by omega) ?_,fun H0 hl hp=>nX hp (by omega),fun b' g' x h gD=>bC (fun he=>gD g _ _ (by rw[he])) h⟩
  ·rw[aMG,List.nodup_append]
   refine⟨h7.nd,by simp,fun a ha c hc' => ?_⟩
   obtain⟨s,hs,rfl⟩:=aLW.1 ha
   have:=h7.row s hs
   simp only[List.map_cons,List.map_nil,aLr] at hc'
   omega
  ·rcases aLh.1 hs with hs | hs
   ·obtain⟨k1,k2,k3,k4,k5⟩:=h7.row s hs
    exact⟨k1,by rw[aMk];exact kW k5,k3,k4,bC (by omega) k5⟩
   ·rw[aLr] at hs
    subst hs
    exact⟨AU,by rw[aMk];exact hb,by omega,hc,bC (by omega) hr⟩
  ·rw[zA]
   intro x hx
   obtain⟨s,hs,rfl⟩:=aLW.1 hx
   rcases aLh.1 hs with hs | hs
   ·have:=h7.row s hs
    simp[tU,jS];omega
   ·rw[aLr] at hs
    subst hs
    simp[tU,jS];omega
end
def LsO {α:Type} (f:α→VV) (e:Nat) (o:Option (List α)) (lo hi:Nat) (H:aA) (v:VV):Prop:=match o with
 | none=>v = .tree [] .nil
 | some ys=>Jx f e ys lo hi H v
theorem Jx.dB {α:Type} {f:α→VV} {e:Nat} {ys:List α}:∀ {lo hi H H' v},Jx f e ys lo hi H v→jT lo hi H H'→Jx f e ys lo hi H' v:=by
 rintro lo hi H H' v ⟨b,g,c,h1,h2,h3,h4,h5⟩ hk
 exact⟨b,g,c,h1,h2,h3,h4,hk _ _ _ h1 h2 h5⟩
theorem LsO.dB {α:Type} {f:α→VV} {e:Nat} {o:Option (List α)}:∀ {lo hi H H' v},LsO f e o lo hi H v→jT lo hi H H'→LsO f e o lo hi H' v:=by
 intro lo hi H H' v h hk
 cases o with
 | none=>exact h
 | some ys=>exact Jx.dB h hk
end Go.PM
namespace Go.PM
open Go.Lib
def orJ (row:List Rat) (i:Nat) (st:List Bool) (j:Nat):List Bool:=st.set i (st.getD i false||(decide (0<row.getD j 0)&&st.getD j false))
def Q0 (row:List Rat) (i:Nat) (st:List Bool) (m:Nat):List Bool:=(aKh m).foldl (orJ row i) st
def Mq (g:List (List Rat)) (e:List Rat) (n:Nat) (st:List Bool) (i:Nat):List Bool:=Q0 (g.getD i []) i (st.set i (st.getD i false||decide (0<e.getD i 0))) n
def mH (g:List (List Rat)) (e:List Rat) (n:Nat) (st:List Bool) (m:Nat):List Bool:=(aKh m).foldl (Mq g e n) st
def qG (g:List (List Rat)) (e:List Rat) (n m:Nat):List Bool:=(aKh m).foldl (fun st _=>mH g e n st n) (aLb n false)
theorem sB {α:Type} {f:α→Nat→α} {s:α} {j:Nat}:(aKh (j+1)).foldl f s=f ((aKh j).foldl f s) j:=by rw[aNF,aNI];rfl
theorem Jj {f:List Bool→Nat→List Bool} (hf:∀st j,(f st j).length=st.length) {st:List Bool}:∀m,((aKh m).foldl f st).length=st.length
 | 0=>rfl
 | m+1=>by rw[sB,hf,Jj hf m]
theorem atJ (row:List Rat) (i:Nat) (st:List Bool) (j:Nat):(orJ row i st j).length=st.length:=aMk ..
theorem TB (row:List Rat) (i:Nat) (st:List Bool) (m:Nat):(Q0 row i st m).length=st.length:=Jj (atJ row i) m
theorem aeO (g:List (List Rat)) (e:List Rat) (n:Nat) (st:List Bool) (i:Nat):(Mq g e n st i).length=st.length:=by rw[Mq,TB,aMk]
theorem Iq (g:List (List Rat)) (e:List Rat) (n:Nat) (st:List Bool) (m:Nat):(mH g e n st m).length=st.length:=Jj (aeO g e n) m
theorem D7 (g:List (List Rat)) (e:List Rat) (n m:Nat):(qG g e n m).length=n:=by
 rw[qG,Jj (fun st _=>Iq g e n st n),aMa]
abbrev tS (st:List Bool):fK := .row 0 (st.map fun b=>VB b) 1 true
theorem xS {st:List Bool} {i n:Nat} (hi:i<n) (K:aA):bJ 1 (.ref 0 0 0 n n) (VI i) (tS st::K)=some (.ptr 0 0 i 0):=by
 have:=bA (b:=0) (g:=0) (o:=0) (n:=n) (c:=n) (k := .i64) (i:=i) (H:=tS st::K) aT hi
 rwa [aLT] at this
theorem xX {st:List Bool} {i:Nat} (hi:i<st.length) (K:aA):bI false 1 (.ptr 0 0 i 0) (tS st::K)=some (VB (st.getD i false)):=by
 have hx:st[i]? = some st[i]:=aKs hi
 rw[pW (f:=fun b=>VB b) aT hx,aKi,hx]
 rfl
theorem Dy {st:List Bool} {i:Nat} (hi:i<st.length) (v:Bool) (K:aA):bK 0 1 (.ptr 0 0 i 0) (VB v) (tS st::K)=some (tS (st.set i v)::K):=by
 rw[dN (f:=fun b=>VB b) (e:=1) (x:=v) aT hi (aKP _) rfl rfl,aLZ]
theorem Iu {R:fK} {q:Rat}:bK 0 3 (.ptr 1 0 0 0) (aF q) [R,cell0]=some [R,.row 0 [aF q] 3 true]:=by simp only[aK,cK,bH,aZ,aY,aS,fT,Nat.reduceLeDiff,Nat.reduceLT,Nat.reduceSub,eH,VX,Nat.reduceEqDiff,Nat.reduceAdd,Nat.reduceLeDiff,Nat.reduceLT,Nat.reduceSub]
theorem Rg {R:fK} {q:Rat}:bI true 3 (.ptr 1 0 0 0) [R,.row 0 [aF q] 3 true]=some (aF q):=by simp only[aK,cK,bH,aZ,aY,aS,fT,Nat.reduceLeDiff,Nat.reduceLT,Nat.reduceSub,eH,VX,Nat.reduceEqDiff,Nat.reduceAdd,Nat.reduceLeDiff,Nat.reduceLT,Nat.reduceSub]
section
variable {g:List (List Rat)} {e row:List Rat} {n i:Nat} {st:List Bool}
set_option maxHeartbeats 2000000 in
theorem Yn (hn:n≤1000000) (hi:i<n) (xA:st.length=n) (lX:row.length=n) {r:Int} {ρ:cT} {Q:VQ} (g0:ρ 0=aC (aC aF) g) (g1:ρ 1=aC aF e) (g5:ρ 5 = .ref 0 0 0 n n) (g6:ρ 6=VI i) (g13:ρ 13=VI n) (g14:ρ 14=VI r) (g17:ρ 17=VI n) (g18:ρ 18=VI i) (g39:ρ 39=aC aF row) (g40:ρ 40=VI n) (g41:ρ 41=VI 0)
  (hQ:∀aP,aP 0=aC (aC aF) g→aP 1=aC aF e→aP 5 = .ref 0 0 0 n n→aP 13=VI n→aP 14=VI r→aP 17=VI n→aP 18=VI i→Q .normal aP [tS (Q0 row i st n)]) :
  VW ⟨true,false⟩ 0 (.loop nB) (tI 4 Q) ρ [tS st]:=by
 refine O6 (fun(j:Nat) aP H=>j≤n∧H=[tS (Q0 row i st j)]∧aP 0=aC (aC aF) g∧aP 1=aC aF e∧aP 5 = .ref 0 0 0 n n∧aP 6=VI i∧aP 13=VI n∧aP 14=VI r∧aP 17=VI n∧aP 18=VI i∧aP 39=aC aF row∧aP 40=VI n∧aP 41=VI j) (fun j=>n-j) 0 ⟨aKP _,rfl,g0,g1,g5,g6,g13,g14,g17,g18,g39,g40,g41⟩ ?_
 clear g0 g1 g5 g6 g13 g14 g17 g18 g39 g40 g41
 rintro j aP H ⟨hj,rfl,g0,g1,g5,g6,g13,g14,g17,g18,g39,g40,g41⟩
 have hl:(Q0 row i st j).length=n:=by rw[TB,xA]
 have Cd:Q0 row i st (j+1)=orJ row i (Q0 row i st j) j:=sB
 generalize hs:Q0 row i st j=s at *
 by_cases bX:(j:Int)<(n:Int)
 ·have EY:j<n:=by omega
  obtain⟨q,hq⟩:∃q,row[j]? = some q:=⟨_,aKs (by omega)⟩
  have e1:=fun H=>aI (f:=aF) (t := .op) (H:=H) (size:=3) (k := .i64) hq rfl
  have wi:IntKind.i64.wrap ((j:Int)+1)=((j+1:Nat):Int):=wrapN (j+1) (by omega) (by omega)
  have e2:=dD q
  have a1:=fun K=>xS (st:=s) (n:=n) hi K
  have a2:=fun K=>xX (st:=s) (i:=i) (by omega) K
  have a3:=fun K=>xS (st:=s) (n:=n) EY K
  have a4:=fun K=>xX (st:=s) (i:=j) (by omega) K
  have a5:=fun v K=>Dy (st:=s) (i:=i) (by omega) v K
  have pU:∀v:Bool,v=(s.getD i false||(decide (0<q)&&s.getD j false))→Q0 row i st (j+1)=s.set i v:=by
   intro v hv
   rw[Cd,orJ,hv,aKi (l:=row),hq,aNx]
  have post:∀(v:Bool) (tG:cT),v=(s.getD i false||(decide (0<q)&&s.getD j false))→tG 0=aC (aC aF) g→tG 1=aC aF e→tG 5 = .ref 0 0 0 n n→tG 6=VI i→tG 13=VI n→tG 14=VI r→tG 17=VI n→tG 18=VI i→tG 39=aC aF row→tG 40=VI n→tG 41=VI ((j+1:Nat):Int) →
    ∃s',n-s'<n-j∧nR 1 [tS (s.set i v)]=true∧s'≤n∧[tS (s.set i v)]=[tS (Q0 row i st s')]∧rN 1 tG 0=aC (aC aF) g∧rN 1 tG 1=aC aF e∧rN 1 tG 5 = .ref 0 0 0 n n∧rN 1 tG 6=VI i∧rN 1 tG 13=VI n∧rN 1 tG 14=VI r∧rN 1 tG 17=VI n∧rN 1 tG 18=VI i∧rN 1 tG 39=aC aF row∧rN 1 tG 40=VI n∧rN 1 tG 41=VI s':=by
   intro v tG hv k0 k1 k5 k6 B5 CY Iw WN k39 k40 k41
   refine⟨j+1,by omega,by rw[Dq (oO _ (fM fun _=>rfl)),K1],by omega,by rw[pU v hv],?_⟩
   simp only[AW,k0,k1,k5,k6,B5,CY,Iw,WN,k39,k40,k41,CL (Jv _),CL (gL _),Pg,KS (Nat.lt_succ_self 0),and_self]
  cases XO:s.getD i false with
  |
   true =>
   rw[XO] at a2 post
   simp only[nB,g5,g6,g39,g40,g41,bX,e1,wi,a1,a2,a5,Iu,bH,VX,Nat.reduceEqDiff,Nat.reduceAdd,uT,rH,aKv,aLY]
   refine post true _ (by simp) ?_ ?_ ?_ ?_ ?_ ?_ ?_ ?_ ?_ ?_ ?_
   all_goals first | exact g0 | exact g1 | exact g5 | exact g6 | exact g13 | exact g14 | exact g17 | exact g18 | exact g39 | exact g40 | rfl
  |
   false =>
   rw[XO] at a2 post
   by_cases hp:0<iY q
   ·have BJ:0<q:=GD.1 hp
    simp only[nB,g5,g6,g39,g40,g41,bX,e1,e2,wi,a1,a2,a3,a4,a5,hp,Iu,Rg,bH,VX,Nat.reduceEqDiff,Nat.reduceAdd,uT,rH,aKv,aLY]
    refine post (s.getD j false) _ (by simp[BJ]) ?_ ?_ ?_ ?_ ?_ ?_ ?_ ?_ ?_ ?_ ?_
    all_goals first | exact g0 | exact g1 | exact g5 | exact g6 | exact g13 | exact g14 | exact g17 | exact g18 | exact g39 | exact g40 | rfl
   ·have BJ:¬0<q:=mt GD.2 hp
    simp only[nB,g5,g6,g39,g40,g41,bX,e1,e2,wi,a1,a2,a5,hp,Iu,Rg,bH,VX,Nat.reduceEqDiff,Nat.reduceAdd,uT,rH,aKv,aLY]
    refine post false _ (by simp[BJ]) ?_ ?_ ?_ ?_ ?_ ?_ ?_ ?_ ?_ ?_ ?_
    all_goals first | exact g0 | exact g1 | exact g5 | exact g6 | exact g13 | exact g14 | exact g17 | exact g18 | exact g39 | exact g40 | rfl
 ·have Yp:j=n:=by omega
  subst Yp
  subst hs
  simp only[nB,g40,g41,bX,eH,VX,Nat.reduceEqDiff,Nat.reduceAdd,Nat.reduceLeDiff,Nat.reduceLT,Nat.reduceSub]
  refine hQ _ ?_ ?_ ?_ ?_ ?_ ?_ ?_<;>first | exact g0 | exact g1 | exact g5 | exact g13 | exact g14 | exact g17 | exact g18 | rfl
set_option maxHeartbeats 2000000 in
theorem Yv (hn:n≤1000000) (xA:st.length=n) (hg:g.length=n) (WL:∀w∈g,w.length=n) (he:e.length=n) {r:Int} {ρ:cT} {Q:VQ} (g0:ρ 0=aC (aC aF) g) (g1:ρ 1=aC aF e) (g5:ρ 5 = .ref 0 0 0 n n) (g13:ρ 13=VI n) (g14:ρ 14=VI r) (g17:ρ 17=VI n) (g18:ρ 18=VI 0)
  (hQ:∀aP,aP 0=aC (aC aF) g→aP 1=aC aF e→aP 5 = .ref 0 0 0 n n→aP 13=VI n→aP 14=VI r→Q .normal aP [tS (mH g e n st n)]) :
  VW ⟨true,false⟩ 0 (.loop pZ) (tI 2 Q) ρ [tS st]:=by
 refine aR (fun(i:Nat) aP H=>i≤n∧H=[tS (mH g e n st i)]∧aP 0=aC (aC aF) g∧aP 1=aC aF e∧aP 5 = .ref 0 0 0 n n∧aP 13=VI n∧aP 14=VI r∧aP 17=VI n∧aP 18=VI i) (fun i=>n-i) 0 ⟨aKP _,rfl,g0,g1,g5,g13,g14,g17,g18⟩ ?_
 clear g0 g1 g5 g13 g14 g17 g18
 rintro i aP H ⟨hi,rfl,g0,g1,g5,g13,g14,g17,g18⟩
 have hl:(mH g e n st i).length=n:=by rw[Iq,xA]
 have Cd:mH g e n st (i+1)=Mq g e n (mH g e n st i) i:=sB
 generalize hs:mH g e n st i=s at *
 by_cases bX:(i:Int)<(n:Int)
 ·have EY:i<n:=by omega
  obtain⟨q,hq⟩:∃q,e[i]? = some q:=⟨_,aKs (by omega)⟩
  obtain⟨row,hr⟩:∃row,g[i]? = some row:=⟨_,aKs (by omega)⟩
  have AU:=WL row (aLf hr)
  have e1:=fun H=>aI (f:=aF) (t := .op) (H:=H) (size:=3) (k := .i64) hq rfl
  have e3:=fun H=>aI (f:=aC aF) (t := .op) (H:=H) (size:=1) (k := .i64) hr rfl
  have wi:IntKind.i64.wrap ((i:Int)+1)=((i+1:Nat):Int):=wrapN (i+1) (by omega) (by omega)
  have e2:=dD q
  have a1:=fun K=>xS (st:=s) (n:=n) EY K
  have a2:=fun K=>xX (st:=s) (i:=i) (by omega) K
  have a5:=fun v K=>Dy (st:=s) (i:=i) (by omega) v K
  have pU:∀v:Bool,v=(s.getD i false||decide (0<q))→mH g e n st (i+1)=Q0 row i (s.set i v) n:=by
   intro v hv
   rw[Cd,Mq,hv,aKi (l:=g),hr,aNx,aKi (l:=e),hq,aNx]
  have post:∀(v:Bool) (tG:cT),v=(s.getD i false||decide (0<q))→tG 0=aC (aC aF) g→tG 1=aC aF e→tG 5 = .ref 0 0 0 n n→tG 6=VI i→tG 13=VI n→tG 14=VI r→tG 17=VI n→tG 18=VI i→tG 39=aC aF row→tG 40=VI n→tG 41=VI 0 →
    ∀(Q':VQ),(∀wB,wB 0=aC (aC aF) g→wB 1=aC aF e→wB 5 = .ref 0 0 0 n n→wB 13=VI n→wB 14=VI r→wB 17=VI n→wB 18=VI i→Q' .normal wB [tS (mH g e n st (i+1))])→VW ⟨true,false⟩ 0 (.loop nB) (tI 4 Q') tG [tS (s.set i v)]:=by
   intro v tG hv k0 k1 k5 k6 B5 CY Iw WN k39 k40 k41 Q' hQ'
   refine Yn hn EY (by rw[aMk,hl]) AU k0 k1 k5 k6 B5 CY Iw WN k39 k40 k41 fun wB m0 m1 m5 m13 m14 m17 m18 => ?_
   rw[←pU v hv]
   exact hQ' wB m0 m1 m5 m13 m14 m17 m18
  have fin:∀(wB:cT),wB 0=aC (aC aF) g→wB 1=aC aF e→wB 5 = .ref 0 0 0 n n→wB 13=VI n→wB 14=VI r→wB 17=VI n→wB 18=VI ((i+1:Nat):Int)→∃s',n-s'<n-i∧s'≤n∧[tS (mH g e n st (i+1))]=[tS (mH g e n st s')]∧wB 0=aC (aC aF) g∧wB 1=aC aF e∧wB 5 = .ref 0 0 0 n n∧wB 13=VI n∧wB 14=VI r∧wB 17=VI n∧wB 18=VI s' :=
   fun wB m0 m1 m5 m13 m14 m17 m18=>⟨i+1,by omega,by omega,rfl,m0,m1,m5,m13,m14,m17,m18⟩
  have axI:((row.length:Nat):Int)=(n:Int):=by omega
  cases XO:s.getD i false with
  |
   true =>
   rw[XO] at a2 post
   simp only[pZ,g0,g1,g5,g17,g18,bX,e1,e3,a1,a2,a5,axI,eH,VX,Nat.reduceEqDiff,Nat.reduceAdd,Nat.reduceLeDiff,Nat.reduceLT,Nat.reduceSub]
   refine post true _ (by simp) ?_ ?_ ?_ ?_ ?_ ?_ ?_ ?_ ?_ ?_ ?_ _ fun wB m0 m1 m5 m13 m14 m17 m18 => ?_
   all_goals first | exact g0 | exact g1 | exact g5 | exact g13 | exact g14 | exact g17 | exact g18 | rfl | skip
   simp only[m18,wi,eH,VX,Nat.reduceEqDiff,Nat.reduceAdd,Nat.reduceLeDiff,Nat.reduceLT,Nat.reduceSub]
   exact⟨i+1,by omega,by omega,by (repeat' apply aL1)<;>first | rfl | trivial | assumption⟩
  |
   false =>
   rw[XO] at a2 post
   by_cases hp:0<iY q
   ·have BJ:0<q:=GD.1 hp
    simp only[pZ,g0,g1,g5,g17,g18,bX,e1,e2,e3,a1,a2,a5,axI,hp,bH,eH,VX,Nat.reduceEqDiff,Nat.reduceAdd,Nat.reduceLeDiff,Nat.reduceLT,Nat.reduceSub]
    refine post true _ (by simp[BJ]) ?_ ?_ ?_ ?_ ?_ ?_ ?_ ?_ ?_ ?_ ?_ _ fun wB m0 m1 m5 m13 m14 m17 m18 => ?_
    all_goals first | exact g0 | exact g1 | exact g5 | exact g13 | exact g14 | exact g17 | exact g18 | rfl | skip
    simp only[m18,wi,eH,VX,Nat.reduceEqDiff,Nat.reduceAdd,Nat.reduceLeDiff,Nat.reduceLT,Nat.reduceSub]
    exact⟨i+1,by omega,by omega,by (repeat' apply aL1)<;>first | rfl | trivial | assumption⟩
   ·have BJ:¬0<q:=mt GD.2 hp
    simp only[pZ,g0,g1,g5,g17,g18,bX,e1,e2,e3,a1,a2,a5,axI,hp,bH,eH,VX,Nat.reduceEqDiff,Nat.reduceAdd,Nat.reduceLeDiff,Nat.reduceLT,Nat.reduceSub]
    refine post false _ (by simp[BJ]) ?_ ?_ ?_ ?_ ?_ ?_ ?_ ?_ ?_ ?_ ?_ _ fun wB m0 m1 m5 m13 m14 m17 m18 => ?_
    all_goals first | exact g0 | exact g1 | exact g5 | exact g13 | exact g14 | exact g17 | exact g18 | rfl | skip
    simp only[m18,wi,eH,VX,Nat.reduceEqDiff,Nat.reduceAdd,Nat.reduceLeDiff,Nat.reduceLT,Nat.reduceSub]
    exact⟨i+1,by omega,by omega,by (repeat' apply aL1)<;>first | rfl | trivial | assumption⟩
 ·have nC:i=n:=by omega
  subst nC
  subst hs
  simp only[pZ,g17,g18,bX,eH,VX,Nat.reduceEqDiff,Nat.reduceAdd,Nat.reduceLeDiff,Nat.reduceLT,Nat.reduceSub]
  refine hQ _ ?_ ?_ ?_ ?_ ?_<;>first | exact g0 | exact g1 | exact g5 | exact g13 | exact g14 | exact g17 | exact g18 | rfl
theorem Mz (bs:List Bool):aX (aC (fun b=>VB b) bs)=true:=mN (fun _=>rfl) fun _=>rfl
theorem XK (bs:List Bool):gW (aC (fun b=>VB b) bs)=true:=zC (fun _=>rfl) (fun _=>rfl) fun _=>rfl
set_option maxHeartbeats 1000000 in
theorem SW (hn:n≤1000000) (hg:g.length=n) (WL:∀w∈g,w.length=n) (he:e.length=n):TC 195 [aC (aC aF) g,aC aF e] (aC (fun b=>VB b) (qG g e n n)):=by
 refine TC.walk ⟨true,false⟩ SD rfl (aL9 rfl) (by simp only[aO,Jv,gL];rfl) (XK _) ?_
 have e0:∀H,Bc [.bool false] 1 (VI n) (VI n) H=some (.ref H.length 0 0 n n,H++[tS (aLb n false)]):=fun H=>oG (f:=fun b=>VB b) rfl (by omega) (by omega)
 simp only[OY,Jp,he,e0,List.nil_append,aLY,eH,VX,Nat.reduceEqDiff,Nat.reduceAdd,Nat.reduceLeDiff,Nat.reduceLT,Nat.reduceSub]
 refine aR (fun(i:Nat) aP H=>i≤n∧H=[tS (qG g e n i)]∧aP 0=aC (aC aF) g∧aP 1=aC aF e∧aP 5 = .ref 0 0 0 n n∧aP 13=VI n∧aP 14=VI i) (fun i=>n-i) 0 ⟨aKP _,rfl,rfl,rfl,rfl,rfl,rfl⟩ ?_
 rintro i aP H ⟨hi,rfl,g0,g1,g5,g13,g14⟩
 have hl:=D7 g e n i
 have Cd:qG g e n (i+1)=mH g e n (qG g e n i) n:=sB
 by_cases bX:(i:Int)<(n:Int)
 ·have wi:IntKind.i64.wrap ((i:Int)+1)=((i+1:Nat):Int):=wrapN (i+1) (by omega) (by omega)
  have he':((e.length:Nat):Int)=(n:Int):=by omega
  simp only[Cn,g1,g13,g14,bX,he',eH,VX,Nat.reduceEqDiff,Nat.reduceAdd,Nat.reduceLeDiff,Nat.reduceLT,Nat.reduceSub]
  refine Yv (r:=(i:Int)) hn hl hg WL he ?_ ?_ ?_ ?_ ?_ ?_ ?_ fun wB m0 m1 m5 m13 m14 => ?_
  all_goals first | exact g0 | exact g1 | exact g5 | exact g13 | exact g14 | rfl | skip
  simp only[m14,wi,eH,VX,Nat.reduceEqDiff,Nat.reduceAdd,Nat.reduceLeDiff,Nat.reduceLT,Nat.reduceSub]
  exact⟨i+1,by omega,by omega,by rw[Cd],m0,m1,m5,m13,rfl⟩
 ·have nC:i=n:=by omega
  subst nC
  simp only[Cn,g5,g13,g14,bX,eH,VX,Nat.reduceEqDiff,Nat.reduceAdd,Nat.reduceLeDiff,Nat.reduceLT,Nat.reduceSub]
  have:=Zs (f:=fun b=>VB b) (e:=1) (b:=0) (g:=0) (c:=i) (xs:=qG g e i i) (H:=[tS (qG g e i i)]) (fun _=>rfl) (by rw[aT]) (by omega)
  rw[hl] at this
  exact this
end
end Go.PM
namespace Go.PM
end Go.PM
namespace Go.PM
end Go.PM
namespace Go.PM
open Go.Lib
theorem CG.wide {cE:List (List ByteArray)}:∀ {lo hi fZ qM:Nat} {H:aA} {v:VV},CG cE lo hi H v→fZ≤lo→hi≤qM→CG cE fZ qM H v:=by
 rintro lo hi fZ qM H v ⟨c,h1,h2⟩ hl hh
 exact⟨c,h1,h2.wide hl hh⟩
theorem CG.own {n lo hi:Nat} {H:aA} {v:VV} {cE:List (List ByteArray)} (h:CG cE lo hi H v) (hn:n≤lo):∃c,v = .agg [c]∧bL c=true∧aB c=[c]∧jS n c=true:=by
 obtain⟨c,rfl,h | ⟨b,g,cc,rs,h1,h2,rfl,h3⟩⟩:=h
 ·obtain⟨rfl,_⟩:=h
  exact⟨_,rfl,rfl,rfl,rfl⟩
 ·exact⟨_,rfl,rfl,rfl,by simp[jS];omega⟩
theorem SvG.wide {s:tA}:∀ {lo hi fZ qM:Nat} {H:aA} {v:VV},SvG s lo hi H v→fZ≤lo→hi≤qM→SvG s fZ qM H v:=by
 rintro lo hi fZ qM H v ⟨a,b,c,m1,m2,h1,k1,k2,k3,h2,h3,h4⟩ hl hh
 exact⟨a,b,c,m1,m2,h1,by omega,k2,by omega,h2.wide hl (aKl _),h3,h4.wide (aKl _) hh⟩
theorem Lm.start {n:Nat} {H:aA}:Lm n H.length H:=fun b g es e w hb hr=>by
 rw[aKL hb] at hr
 cases hr
def Cr (f:Rat→VV) (b:List Rat) (g:List (List Rat)) (e:List Rat):VV := .agg [aC f b,aC (aC f) g,aC f e]
end Go.PM
namespace Go.PM
section
variable {α:Type}
def vec (n:Nat) (f:Nat→α):List α:=(aKh n).map f
def P7 (n m:Nat) (F:Nat→Nat→α):List (List α):=vec n fun a=>vec m (F a)
theorem nM (n:Nat) (f:Nat→α):(vec n f).length=n:=by simp[vec]
theorem BZ (n m:Nat) (F:Nat→Nat→α):(P7 n m F).length=n:=nM ..
theorem yT {n i:Nat} {f:Nat→α} (h:i<n):(vec n f)[i]? = some (f i):=by simp[vec,h]
theorem Jr {n i:Nat} {f:Nat→α} (h:n≤i):(vec n f)[i]? = none:=by rw[aKL];rw[nM];exact h
theorem xW {n:Nat} {f g:Nat→α} (h:∀i,i<n→f i=g i):vec n f=vec n g:=List.map_congr_left fun i hi=>h i (aKW.1 hi)
theorem Lf {n m:Nat} {F G:Nat→Nat→α} (h:∀a b,a<n→b<m→F a b=G a b):P7 n m F=P7 n m G:=xW fun a ha=>xW fun b hb=>h a b ha hb
theorem NB {n m i:Nat} {F:Nat→Nat→α} (h:i<n):(P7 n m F)[i]? = some (vec m (F i)):=yT h
theorem Nw {n j:Nat} {f:Nat→α} {y:α}:(vec n f).set j y=vec n fun b=>if b=j then y else f b:=by
 apply aNP
 intro b
 rw[List.getElem?_set,nM]
 by_cases hb:b<n
 ·rw[yT hb,yT hb]
  by_cases hj:j=b
  ·subst hj;simp[hb]
  ·simp[hj,Ne.symm hj]
 ·rw[Jr (by omega),Jr (by omega)]
  split
  ·rw[if_neg (by omega)]
  ·rfl
theorem Se {n m i:Nat} {F:Nat→Nat→α} {g:Nat→α}:(P7 n m F).set i (vec m g)=P7 n m fun a b=>if a=i then g b else F a b:=by
 rw[P7,Nw]
 refine xW fun a _ => ?_
 split
 ·rename_i h
  exact xW fun b _=>(if_pos h).symm
 ·rename_i h
  exact xW fun b _=>(if_neg h).symm
theorem QZ {n:Nat} {x:α}:aLb n x=vec n fun _=>x:=by
 apply aNP
 intro i
 by_cases h:i<n
 ·rw[yT h,aNK,if_pos h]
 ·rw[Jr (by omega),aNK,if_neg h]
theorem abO {n m:Nat} {x:α}:aLb n (aLb m x)=P7 n m fun _ _=>x:=by rw[QZ,QZ];rfl
theorem XM (xs:List α) (d:α):xs=vec xs.length fun i=>xs.getD i d:=by
 apply aNP
 intro i
 by_cases h:i<xs.length
 ·rw[yT h,aKi,aKs h]
  rfl
 ·rw[Jr (by omega),aKL (by omega)]
theorem JZ {n:Nat} {f:Nat→α} {x:α}:x∈vec n f↔∃i,i<n∧f i=x:=by simp[vec]
theorem ZB {n m:Nat} {F:Nat→Nat→α} {r:List α} (h:r∈P7 n m F):∃i,i<n∧r=vec m (F i):=by
 obtain⟨i,hi,rfl⟩:=JZ.1 h
 exact⟨i,hi,rfl⟩
theorem Jo {n:Nat} {f:Nat→α}:vec (n+1) f=vec n f++[f n]:=by simp[vec,aNF]
end
end Go.PM
namespace Go.PM
open Go.Lib
theorem ahV {qs:List Rat} {B i:Nat} {y:Rat} (h:∀q∈qs,aM q≤B) (hy:aM y≤B):∀q∈qs.set i y,aM q≤B:=fun q hq=>by
 rcases List.mem_or_eq_of_mem_set hq with h1 | rfl
 ·exact h q h1
 ·exact hy
theorem SvG.own {n lo hi:Nat} {s:tA} {H:aA} {v:VV} (h:SvG s lo hi H v) (hn:n≤lo):∃a b c,v = .agg [a,b,c]∧bL a=true∧bL b=true∧bL c=true∧jS n a=true∧jS n b=true∧jS n c=true:=by
 obtain⟨a,b,c,m1,m2,rfl,l1,l2,l3,ha,hb,hc⟩:=h
 refine⟨a,b,c,rfl,ha.cell,hb.cell,hc.cell,?_,?_,?_⟩
 ·rcases ha with⟨rfl,_⟩ | ⟨b,g,c,h1,h2,rfl,h3⟩
  ·rfl
  ·simp[jS];omega
 ·rcases hb with⟨rfl,_⟩ | ⟨b,g,c,rs,h1,h2,rfl,h3⟩
  ·rfl
  ·simp[jS];omega
 ·rcases hc with⟨rfl,_⟩ | ⟨b,g,c,h1,h2,rfl,h3⟩
  ·rfl
  ·simp[jS];omega
abbrev kS:fK := .row 0 [.agg [.tree [] .nil,.tree [] .nil,.tree [] .nil]] 3 true
end Go.PM
namespace Go.PM
open Go.Lib
section
variable {α:Type} {f:α→VV} {e:Nat}
structure RdT (f:α→VV) (e:Nat) (m:List (List α)) (H:aA) (v:VV):Prop where
 len:∀H',H <+: H'→rC v H'=some (VI m.length)
 get:∀H',H <+: H'→∀(i:Nat) r,m[i]? = some r→∃p w,bJ 1 v (VI i) H'=some p∧bI false 1 p H'=some w∧Rd f e r H' w
theorem RdT.pre {m:List (List α)} {H H':aA} {v:VV} (h:RdT f e m H v) (hh:H <+: H'):RdT f e m H' v:=⟨fun H2 h2=>h.len H2 (hh.trans h2),fun H2 h2=>h.get H2 (hh.trans h2)⟩
theorem RdT.tree {m:List (List α)} {H:aA} {t:TK} (hs:∀x,(aB (f x)).length=e):RdT f e m H (.tree (m.map (aC f)) t) :=
 ⟨fun _ _=>eR,fun _ _ i x hx=>⟨_,_,aI hx rfl,by rw[Nr];rfl,Rd.tree hs⟩⟩
theorem RdT.row {m:List (List α)} {H:aA} {b g n c:Nat} {w:Bool} (h:aG H b g=some (m.map (aC f),1,w)) (hn:n=m.length) (hs:∀x,(aB (f x)).length=e):RdT f e m H (.ref b g 0 n c):=by
 subst hn
 refine⟨fun H' hh=>eK (cR hh h),fun H' hh i x hx => ?_⟩
 have hi:=(List.getElem?_eq_some_iff.1 hx).1
 have e1:=bA (o:=0) (n:=m.length) (c:=c) (i:=i) (k := .i64) (cR hh h) hi
 rw[aLT] at e1
 exact⟨_,_,e1,by rw[pW (f:=aC f) (cR hh h) hx];rfl,Rd.tree hs⟩
theorem MG.snoc {lo hi fZ b g:Nat} {H:aA} {rs:List (Ck α)} (h:MG f e lo hi b g H rs) (hg:g=rs.length) (dQ:fZ≤lo) (hn:g≤1000000000) (r:Ck α) (hhi:hi≤r.b) (hc:r.xs.length≤r.c) (hr:aG H r.b r.g=some (r.xs.map f,e,true)) :
  dI fZ 1 24 (.ref b g 0 g g) [.ref r.b r.g 0 r.xs.length r.c] H=some (.ref b (g+1) 0 (g+1) (g+1),H.set b (.row (g+1) ((rs++[r]).map tU) 1 true))∧MG f e lo H.length b (g+1) (H.set b (.row (g+1) ((rs++[r]).map tU) 1 true)) (rs++[r]):=by
 have aH7:=h.blo
 have aHZ:=h.bhi
 have AU:=kW hr
 have xH:=jU (f:=tU) (xs:=rs) (x:=r) (lo:=fZ) (bytes:=24) h.out hg (by omega) (by decide) (by decide) (by omega)
 refine⟨xH,cA h.out,h.blo,kW h.out,?_,fun s hs => ?_⟩
 ·rw[aMG,List.nodup_append]
  refine⟨h.rows.nd,by simp,fun a ha c hc' => ?_⟩
  obtain⟨s,hs,rfl⟩:=aLW.1 ha
  have:=h.rows.row s hs
  simp only[List.map_cons,List.map_nil,aLr] at hc'
  omega
 ·rcases aLh.1 hs with hs | hs
  ·obtain⟨k1,k2,k3,k4,k5⟩:=h.rows.row s hs
   exact⟨k1,by omega,k3,k4,bC (by omega) k5⟩
  ·rw[aLr] at hs
   subst hs
   exact⟨by omega,AU,by omega,hc,bC (by omega) hr⟩
end
def qZ (m:List (List Rat)) (i:Nat):Rat:=(m.take i).foldl (fun a r=>if a<dO r then dO r else a) 0
def HO (m:List (List Rat)):Rat:=qZ m m.length
theorem Mk {m:List (List Rat)} {i:Nat} {r:List Rat} (h:m[i]? = some r):qZ m (i+1)=if qZ m i<dO r then dO r else qZ m i:=by
 unfold qZ
 rw[sG h,aNI]
 rfl
def YZ (d:Rat) (i:Nat) (r:List Rat):List Rat:=(r.map (· / d)).set i (1-dO (r.map (· / d)))
def Uz (m:List (List Rat)):List (List Rat):=vec m.length fun i=>YZ (HO m) i (m.getD i [])
theorem DT {qs:List Rat} {B n:Nat} (h:∀q∈qs,aM q≤B) (hn:qs.length≤n):aM (dO qs)≤n*(B+1)+1:=by
 have h1:=AP h qs.length
 rw[aLy] at h1
 have h2:qs.length*(B+1)≤n*(B+1):=aKM _ hn
 omega
theorem Kq {m:List (List Rat)} {B n:Nat} (h:∀r∈m,r.length≤n∧∀q∈r,aM q≤B):∀i,aM (qZ m i)≤n*(B+1)+1
 |
  0=>by
  show aM 0≤_
  rw[vB]
  omega
 |
  i+1=>by
  cases hr:m[i]? with
  |
   none =>
   have:qZ m (i+1)=qZ m i:=by
    unfold qZ
    rw[aMb,hr]
    simp
   rw[this]
   exact Kq h i
  |
   some r =>
   rw[Mk hr]
   have:=h r (aLf hr)
   split
   ·exact DT this.2 this.1
   ·exact Kq h i
theorem acA {qs:List Rat} {d:Rat} {B D:Nat} (h:∀q∈qs,aM q≤B) (hd:aM d≤D):∀q∈qs.map (· / d),aM q≤B+D+1:=fun q hq=>by
 obtain⟨p,hp,rfl⟩:=aLW.1 hq
 have h1:=h p hp
 have h2:=GH p d
 omega
end Go.PM
namespace Go.PM
open Go.Lib
theorem Lg {a:Nat} (h:a≤12):a*(665+1)+1≤7993:=by omega
def iE (n i:Nat) (xs:List ByteArray):Option (List Rat):=match sY xs with
 | some r=>if r.length=n∧(r.any fun q=>decide (q<0))=false∧r.getD i 0=0 then some r else none
 | none=>none
def iR (c:List (List ByteArray)):Nat→Option (List (List Rat))
 | 0=>some []
 |
  i+1=>match iR c i,iE c.length i (c.getD i []) with
  | some out,some r=>some (out++[r])
  | _,_=>none
theorem Jt {n i:Nat} {xs:List ByteArray} {r:List Rat} (h:iE n i xs=some r):sY xs=some r∧r.length=n∧(∀q∈r,0≤q)∧r.getD i 0=0:=by
 unfold iE at h
 split at h
 ·rename_i ps hp
  split at h
  ·rename_i hc
   cases h
   refine⟨hp,hc.1,fun q hq => ?_,hc.2.2⟩
   have:=List.any_eq_false.1 hc.2.1 q hq
   exact Rat.not_lt.1 (by simpa using this)
  ·cases h
 ·cases h
theorem DR {c:List (List ByteArray)} {i:Nat} (h:iR c i=none):∀j,i≤j→iR c j=none:=by
 intro j hj
 induction j with
 |
  zero =>
  have:i=0:=by omega
  subst this
  exact h
 |
  succ j ih =>
  by_cases Qo:i≤j
  ·rw[iR,ih Qo]
  ·have:i=j+1:=by omega
   subst this
   exact h
theorem tW {c:List (List ByteArray)}:∀ {i:Nat} {m:List (List Rat)},iR c i=some m→m.length=i∧∀r∈m,r.length=c.length∧∀q∈r,0≤q∧aM q≤665
 | 0,m,h=>by cases h;exact⟨rfl,fun r hr=>by cases hr⟩
 |
  i+1,m,h=>by
  rw[iR] at h
  split at h
  ·rename_i out r h1 h2
   cases h
   obtain⟨k1,k2⟩:=tW h1
   obtain⟨j1,j2,j3,_⟩:=Jt h2
   refine⟨by rw[aKw,k1];rfl,fun s hs => ?_⟩
   rcases aLh.1 hs with hs | hs
   ·exact k2 s hs
   ·rw[aLr] at hs
    subst hs
    exact⟨j2,fun q hq=>⟨j3 q hq,(nD j1).1 q hq⟩⟩
  ·cases h
theorem WC {qs:List Rat} (h:∀q∈qs,0≤q):0≤dO qs:=by
 have key:∀i,i≤qs.length→0≤dO (qs.take i):=by
  intro i
  induction i with
  | zero=>intro _;show (0:Rat)≤0;exact aNR
  |
   succ i ih =>
   intro hi
   have hq:qs[i]? = some qs[i]:=aKs (by omega)
   rw[Ds hq]
   have h1:=ih (by omega)
   have h2:=h _ (aKy (by omega:i<qs.length))
   grind
 have:=key qs.length (aKl _)
 rwa [aLy] at this
theorem Om {m:List (List Rat)} (h:∀r∈m,0≤dO r):∀i,0≤qZ m i∧0≤dO ((m.map dO).take i)∧(dO ((m.map dO).take i)=0↔qZ m i=0)∧(((m.take i).any fun r => !decide (dO r=0)) = !decide (qZ m i=0))
 | 0=>⟨aNR,aNR,⟨fun _=>rfl,fun _=>rfl⟩,rfl⟩
 |
  i+1=>by
  obtain⟨h1,h2,h3,h4⟩:=Om h i
  cases hr:m[i]? with
  |
   none =>
   have e1:qZ m (i+1)=qZ m i:=by unfold qZ;rw[aMb,hr];simp
   have e2:(m.map dO).take (i+1)=(m.map dO).take i:=by rw[aMb,aNQ,hr];simp
   have e3:m.take (i+1)=m.take i:=by rw[aMb,hr];simp
   rw[e1,e2,e3]
   exact⟨h1,h2,h3,h4⟩
  |
   some r =>
   have h0:=h r (aLf hr)
   have IY:(m.map dO)[i]? = some (dO r):=by rw[aNQ,hr];rfl
   rw[Mk hr,Ds IY,sG hr,List.any_append,h4]
   simp only[List.any_cons,List.any_nil,Bool.or_false]
   by_cases hc:qZ m i<dO r
   ·rw[if_pos hc]
    have hp:¬dO r=0:=by grind
    have hs:¬dO ((m.map dO).take i)+dO r=0:=by grind
    refine⟨h0,by grind,⟨fun h=>absurd h hs,fun h=>absurd h hp⟩,by simp[hp]⟩
   ·rw[if_neg hc]
    refine⟨h1,by grind,?_,?_⟩
    ·constructor
     ·intro h;exact h3.1 (by grind)
     ·intro h;have:=h3.2 h;grind
    ·by_cases hz:qZ m i=0
     ·have:dO r=0:=by grind
      simp[hz,this]
     ·simp[hz]
theorem abU {m:List (List Rat)} {n B:Nat} (hm:m.length=n) (hb:∀r∈m,r.length=n∧∀q∈r,aM q≤B) (hn:n≤100) (hB:B≤1000000):(Uz m).length=n∧∀r∈Uz m,r.length=n∧∀q∈r,aM q≤100000000000:=by
 refine⟨by rw[Uz,nM,hm],fun r hr => ?_⟩
 obtain⟨i,hi,rfl⟩:=JZ.1 hr
 have hgi:m[i]? = some m[i]:=aKs hi
 have MB:=hb _ (aKy hi)
 rw[aKi,hgi,aNx]
 have bm:=Kq (n:=n) (B:=B) (fun r hr=>⟨aNS (hb r hr).1,(hb r hr).2⟩) m.length
 rw[←HO] at bm
 have qb:=acA MB.2 bm
 have hl:(m[i].map (· / HO m)).length=n:=by rw[aL2];exact MB.1
 have b3:=DT qb (aNS hl)
 have m1:n*(B+1)≤100*(B+1):=aKM _ hn
 have m2:n*(B+(n*(B+1)+1)+1+1)≤100*(B+(n*(B+1)+1)+1+1):=aKM _ hn
 have b4:=acC 1 (dO (m[i].map (· / HO m)))
 rw[Kw] at b4
 refine⟨by rw[YZ,aMk,hl],ahV (fun q hq => ?_) (by omega)⟩
 have:=qb q hq
 omega
end Go.PM
namespace Go.PM
abbrev PV:=Nat×Nat×Rat
def M7 (F:Nat→Nat→Rat) (i j:Nat) (q:Rat) (a b:Nat):Rat:=if i≠j∧a=i∧b=j then F a b+q else F a b
theorem abF {F:Nat→Nat→Rat} {i:Nat} {q:Rat}:M7 F i i q=F:=by
 funext a b
 exact if_neg fun h=>h.1 rfl
def IU (F:Nat→Nat→Rat) (L:List PV):Nat→Nat→Rat:=L.foldl (fun F t=>M7 F t.1 t.2.1 t.2.2) F
def iU (L:List PV):Nat→Nat→Rat:=IU (fun _ _=>0) L
theorem H8 {F:Nat→Nat→Rat} {t:PV} {L:List PV}:IU F (t::L)=IU (M7 F t.1 t.2.1 t.2.2) L:=rfl
theorem JF {F:Nat→Nat→Rat} {L M:List PV}:IU F (L++M)=IU (IU F L) M:=aNI
theorem X9 {L:List PV} {i j:Nat} {q:Rat}:iU (L++[(i,j,q)])=M7 (iU L) i j q:=JF
theorem Xt {L:List PV} {i:Nat} {q:Rat}:iU (L++[(i,i,q)])=iU L:=by rw[X9,abF]
theorem NI {Q:Nat}:∀(L:List PV) (F:Nat→Nat→Rat) (B:Nat),(∀t∈L,aM t.2.2≤Q)→(∀a b,aM (F a b)≤B)→∀a b,aM (IU F L a b)≤B+L.length*(Q+1)
 |
  [],F,B,_,hF,a,b=>by
  have:=hF a b
  show aM (F a b)≤_
  omega
 |
  t::L,F,B,hL,hF,a,b=>by
  rw[H8]
  have ht:=hL t aKV
  have:=NI L (M7 F t.1 t.2.1 t.2.2) (B+(Q+1)) (fun s hs=>hL s (aKU _ hs)) (fun a b=>by
   unfold M7
   have h1:=hF a b
   have h2:=yE (F a b) t.2.2
   split<;>omega) a b
  rw[aKv,Nat.succ_mul]
  omega
theorem O0 {Q:Nat} {L:List PV} (h:∀t∈L,aM t.2.2≤Q) (a b:Nat):aM (iU L a b)≤1+L.length*(Q+1) :=
 NI L _ 1 h (fun _ _=>by show aM 0≤1;rw[vB];exact aKl _) a b
theorem N6:∀(L:List PV) (F:Nat→Nat→Rat),(∀t∈L,0≤t.2.2)→∀a b,F a b≤IU F L a b
 | [],F,_,a,b=>aNR
 |
  t::L,F,hL,a,b=>by
  rw[H8]
  have ht:=hL t aKV
  have h1:=N6 L (M7 F t.1 t.2.1 t.2.2) (fun s hs=>hL s (aKU _ hs)) a b
  have h2:F a b≤M7 F t.1 t.2.1 t.2.2 a b:=by
   unfold M7
   split<;>grind
  exact Rat.le_trans h2 h1
theorem J2 {L:List PV} (h:∀t∈L,0≤t.2.2) (a b:Nat):0≤iU L a b:=N6 L _ h a b
theorem aaZ {L:List PV} {i j:Nat} {q:Rat} (h:∀t∈L,0≤t.2.2) (ht:(i,j,q)∈L) (Qo:i≠j) (hq:0<q):0<iU L i j:=by
 obtain⟨s,r,rfl⟩:=List.append_of_mem ht
 have hs:∀t∈s,0≤t.2.2:=fun t ht=>h t (List.mem_append_left _ ht)
 have hr:∀t∈r,0≤t.2.2:=fun t ht=>h t (List.mem_append_right _ (aKU _ ht))
 have h1:=N6 r (M7 (iU s) i j q) hr i j
 have h2:iU (s++(i,j,q)::r)=IU (M7 (iU s) i j q) r:=by
  unfold iU
  rw[JF,H8]
 rw[h2]
 have h3:=J2 hs i j
 have h4:M7 (iU s) i j q i j=iU s i j+q:=if_pos ⟨Qo,rfl,rfl⟩
 rw[h4] at h1
 grind
theorem asU {qs:List Rat} (h:∀q∈qs,0≤q) {q:Rat} (hq:q∈qs):q≤dO qs:=by
 have key:∀i,i≤qs.length→0≤dO (qs.take i)∧∀p∈qs.take i,p≤dO (qs.take i):=by
  intro i
  induction i with
  | zero=>intro _;exact⟨by show (0:Rat)≤0;exact aNR,by simp⟩
  |
   succ i ih =>
   intro hi
   have hq:qs[i]? = some qs[i]:=aKs (by omega)
   obtain⟨h1,h2⟩:=ih (by omega)
   have h3:=h _ (aKy (by omega:i<qs.length))
   rw[Ds hq]
   refine⟨by grind,fun p hp => ?_⟩
   rw[sG hq] at hp
   rcases aLh.1 hp with hp | hp
   ·have:=h2 p hp
    grind
   ·rw[aLr] at hp
    subst hp
    grind
 have:=(key qs.length (aKl _)).2
 rw[aLy] at this
 exact this q hq
theorem Xe {N:Nat} {L:List PV} {i j:Nat} {q:Rat} (h:∀t∈L,0≤t.2.2) (ht:(i,j,q)∈L) (Qo:i≠j) (hq:0<q) (hi:i<N) (hj:j<N):HO (P7 N N (iU L))≠0:=by
 have hnn:∀r∈P7 N N (iU L),∀q∈r,0≤q:=fun r hr q hq=>by
  obtain⟨a,_,rfl⟩:=ZB hr
  obtain⟨b,_,rfl⟩:=JZ.1 hq
  exact J2 h a b
 obtain⟨_,_,_,h4⟩:=Om (fun r hr=>WC (hnn r hr)) (P7 N N (iU L)).length
 rw[aLy] at h4
 intro h0
 rw[←HO,h0,decide_eq_true rfl,Bool.not_true] at h4
 have lX:=aLf (NB (m:=N) (F:=iU L) hi)
 have h5:=List.any_eq_false.1 h4 _ lX
 have h6:=asU (hnn _ lX) (q:=iU L i j) (JZ.2 ⟨j,hj,rfl⟩)
 have h7:=aaZ h ht Qo hq
 simp only[Bool.not_eq_true',decide_eq_false_iff_not,not_true_eq_false,Classical.not_not] at h5
 rw[h5] at h6
 grind
theorem Xj {Q N:Nat} {L:List PV} (h:∀t∈L,aM t.2.2≤Q):∀r∈P7 N N (iU L),r.length=N∧∀q∈r,aM q≤1+L.length*(Q+1):=fun r hr=>by
 obtain⟨a,_,rfl⟩:=ZB hr
 refine⟨nM ..,fun q hq => ?_⟩
 obtain⟨b,_,rfl⟩:=JZ.1 hq
 exact O0 h a b
end Go.PM
namespace Go.PM
theorem fL (q:Rat):(aB (aF q)).all bL=true:=rfl
def Pt (F:Nat→Nat→Rat) (i j:Nat) (y:Rat) (a b:Nat):Rat:=if a=i∧b=j then y else F a b
def Tb (f:Rat→VV) (lo hi N M b g:Nat) (F:Nat→Nat→Rat) (H:aA):Prop:=∃rs,MG f 3 lo hi b g H rs∧rs.map (·.xs)=P7 N M F
def Qn (lo hi:Nat) (H H':aA):Prop:=H'.length=H.length∧∀b g x,b<lo∨hi≤b→aG H b g=some x→aG H' b g=some x
theorem Qn.refl {lo hi:Nat} {H:aA}:Qn lo hi H H:=⟨rfl,fun _ _ _ _ h=>h⟩
section
variable {f:Rat→VV} {lo hi N M b g:Nat} {F:Nat→Nat→Rat} {H H':aA}
theorem Tb.dB (h:Tb f lo hi N M b g F H) (hk:jT lo hi H H'):Tb f lo hi N M b g F H':=by
 obtain⟨rs,h1,h2⟩:=h
 exact⟨rs,h1.dB hk,h2⟩
theorem Tb.pre (h:Tb f lo hi N M b g F H) (hh:H <+: H'):Tb f lo hi N M b g F H':=h.dB (jT.pre hh)
theorem Tb.congr {G:Nat→Nat→Rat} (h:Tb f lo hi N M b g F H) (hF:∀a c,a<N→c<M→F a c=G a c):Tb f lo hi N M b g G H:=by
 obtain⟨rs,h1,h2⟩:=h
 exact⟨rs,h1,h2.trans (Lf hF)⟩
theorem Tb.lt (h:Tb f lo hi N M b g F H):lo≤b∧b<hi∧b<H.length:=by
 obtain⟨rs,h1,_⟩:=h
 exact⟨h1.blo,h1.bhi,kW h1.out⟩
theorem Tb.addr {c i:Nat} (h:Tb f lo hi N M b g F H) (qM:i<N):bJ 1 (.ref b g 0 N c) (VI i) H=some (.ptr b g i 0):=by
 obtain⟨rs,h1,_⟩:=h
 exact h1.addr qM
theorem Tb.len {c:Nat} (h:Tb f lo hi N M b g F H):rC (.ref b g 0 N c) H=some (VI N):=by
 obtain⟨rs,h1,_⟩:=h
 exact h1.len
theorem Tb.fz {d c:Nat} (h:Tb f lo hi N M b g F H) (hc:N≤c) (hp:∀x,aX (f x)=true):PM.fz (d+3) H (.ref b g 0 N c)=some (aC (aC f) (P7 N M F)):=by
 obtain⟨rs,h1,h2⟩:=h
 have hl:=congrArg aNu h2
 rw[aL2,BZ] at hl
 rw[←h2,←hl]
 exact h1.fz (by omega) hp
theorem TabIs.tb {v:VV} (h:TabIs f 3 (P7 N M F) lo hi H v):∃b g c,v = .ref b g 0 N c∧N≤c∧Tb f lo hi N M b g F H:=by
 obtain⟨b,g,c,rs,h1,h2,h3,h4⟩:=h
 rw[BZ] at h1 h2
 exact⟨b,g,c,h1,h2,rs,h3,h4⟩
theorem Tb.spot {i j:Nat} (h:Tb f lo hi N M b g F H) (qM:i<N) (hj:j<M) (hfs:∀x,(aB (f x)).length=3) (hfa:∀x,(aB (f x)).all bL=true) :
  ∃rb rg rc,bI false 1 (.ptr b g i 0) H=some (.ref rb rg 0 M rc)∧bJ 3 (.ref rb rg 0 M rc) (VI j) H=some (.ptr rb rg j 0)∧(∀ag,bI ag 3 (.ptr rb rg j 0) H=dP ag 3 (f (F i j)) 0) ∧
  ∀fZ y,fZ≤lo→∃H',bK fZ 3 (.ptr rb rg j 0) (f y) H=some H'∧Qn lo hi H H'∧Tb f lo hi N M b g (Pt F i j y) H'∧∀k,bI false 1 (.ptr b g k 0) H'=bI false 1 (.ptr b g k 0) H:=by
 obtain⟨rs,hM,hx⟩:=h
 have hl:=congrArg aNu hx
 rw[aL2,BZ] at hl
 obtain⟨r,hr⟩:∃r,rs[i]? = some r:=⟨_,aKs (by omega)⟩
 have Na:r.xs=vec M (F i):=by
  have h1:(rs.map (·.xs))[i]? = some r.xs:=by rw[aNQ,hr];rfl
  rw[hx,NB qM] at h1
  exact(Option.some.inj h1).symm
 have AU:r.xs.length=M:=by rw[Na,nM]
 have hgj:r.xs[j]? = some (F i j):=by rw[Na,yT hj]
 refine⟨r.b,r.g,r.c,?_,hM.at hr hj,fun ag=>hM.get hr hgj,fun fZ y dQ => ?_⟩
 ·have:=hM.cell hr
  rw[AU] at this
  exact this
 ·have h1:=hM.put (j:=j) (fZ:=fZ) (y:=y) hr (by omega) dQ (hfs y) (hfa y)
  have h2:=hM.set (ys:=r.xs.set j y) hr (by rw[aMk])
  have MB:=hM.rows.row r (aLf hr)
  refine⟨_,h1,⟨by rw[aMk],fun b' g' x xD I1=>bC (by have h7:=MB.1;have h8:=MB.2.1;omega) I1⟩,⟨_,h2,?_⟩,fun k => ?_⟩
  ·have e:(rs.set i { r with xs:=r.xs.set j y }).map (fun r:Ck Rat=>r.xs)=(rs.map (fun r:Ck Rat=>r.xs)).set i (r.xs.set j y):=aNT
   rw[e,hx,Na,Nw,Se]
   exact Lf fun a c _ _=>by unfold Pt;by_cases ha:a=i<;>by_cases hc:c=j<;>simp[ha,hc]
  ·rw[bS,bS,bC MB.2.2.1 hM.out,hM.out]
end
theorem aiR {N:Nat}:aLb N (aLb N (0:Rat))=P7 N N fun _ _=>0:=abO
end Go.PM
namespace Go.PM
def CW (s:Int) (g:Nat) (a:Rat):Prop:=∃M:Int,a*(s:Rat)=(M:Rat)∧M.natAbs<2^g
theorem CW.bits {s:Int} {g:Nat} {a:Rat} (h:CW s g a) (hs:s≠0) (hg:s.natAbs<2^g):aM a≤g:=by
 obtain⟨M,hM,hl⟩:=h
 have h1:1≤g:=by
  cases g with
  | zero=>simp at hg;omega
  | succ g=>omega
 have hsr:(s:Rat)≠0:=by
  intro h
  exact hs (by exact_mod_cast h)
 have ha:a=(M:Rat) / (s:Rat):=by grind
 rcases Int.lt_or_gt_of_ne hs with jV | lR
 ·have e:a=mkRat (-M) s.natAbs:=by
   rw[Rat.mkRat_eq_div]
   have:((s.natAbs:Nat):Int) = -s:=by omega
   have e2:((s.natAbs:Nat):Rat) = -(s:Rat):=by
    rw[←Rat.intCast_natCast,this,Rat.intCast_neg]
   rw[e2,Rat.intCast_neg,ha]
   grind
  rw[e]
  exact Dk (by rw[Int.natAbs_neg];exact C3 hl) (C3 hg) h1
 ·have e:a=mkRat M s.natAbs:=by
   rw[Rat.mkRat_eq_div]
   have:((s.natAbs:Nat):Int)=s:=by omega
   have e2:((s.natAbs:Nat):Rat)=(s:Rat):=by
    rw[←Rat.intCast_natCast,this]
   rw[e2,ha]
  rw[e]
  exact Dk (C3 hl) (C3 hg) h1
def qE (g n m:Nat) (A:Nat→Nat→Rat):Prop:=∃s:Int,s≠0∧s.natAbs<2^g∧∀i j,i<n→j<m→CW s g (A i j)
theorem qE.bits {g n m:Nat} {A:Nat→Nat→Rat} (h:qE g n m A) {i j:Nat} (hi:i<n) (hj:j<m):aM (A i j)≤g:=by
 obtain⟨s,h1,h2,h3⟩:=h
 exact(h3 i j hi hj).bits h1 h2
theorem VG (a b:Nat):2^a*2^b=2^(a+b):=(aMt 2 a b).symm
theorem yO {x y:Int} {g:Nat} (hx:x.natAbs<2^g) (hy:y.natAbs<2^g):(x*y).natAbs<2^(2*g):=by
 rw[aMX,show 2*g=g+g by omega,←VG]
 exact aNU hx hy
theorem qE.G4 {g n m k:Nat} {A:Nat→Nat→Rat} {c:Nat→Rat} (h:qE g n m A) (hk:k<n) (hkm:k<m) (Su:A k k≠0) (hc:∀i,i<n→c i=0∨c i=A i k / A k k):qE (2*g+1) n m (G4 c k A):=by
 obtain⟨s,h1,h2,h3⟩:=h
 obtain⟨K,hK,hKl⟩:=h3 k k hk hkm
 have hsr:(s:Rat)≠0:=fun h=>h1 (by exact_mod_cast h)
 have hKr:(K:Rat)≠0:=by
  rw[←hK]
  grind
 have hK0:K≠0:=by
  intro h
  rw[h] at hKr
  exact hKr rfl
 have hp:2^(2*g+1)=2^(2*g)+2^(2*g):=by rw[aLM];omega
 refine⟨s*K,Int.mul_ne_zero h1 hK0,by have:=yO h2 hKl;omega,fun i j hi hj => ?_⟩
 obtain⟨M,hM,hMl⟩:=h3 i j hi hj
 obtain⟨N,hN,hNl⟩:=h3 i k hi hkm
 obtain⟨R,hR,hRl⟩:=h3 k j hk hj
 rcases hc i hi with hci | hci
 ·refine⟨M*K,?_,by have:=yO hMl hKl;omega⟩
  unfold Go.PM.G4
  rw[hci,aNV,aNV,←hM]
  grind
 ·refine⟨M*K-N*R,?_,?_⟩
  ·unfold Go.PM.G4
   rw[hci,aNV,Rat.intCast_sub,aNV,aNV,←hM,←hN,←hR,←hK]
   grind
  ·have e1:=yO hMl hKl
   have e2:=yO hNl hRl
   have e3:(M*K-N*R).natAbs≤(M*K).natAbs+(N*R).natAbs:=by omega
   omega
theorem qE.swp {g n m k r:Nat} {A:Nat→Nat→Rat} (h:qE g n m A) (hk:k<n) (hr:r<n):qE g n m (swp k r A):=by
 obtain⟨s,h1,h2,h3⟩:=h
 refine⟨s,h1,h2,fun i j hi hj => ?_⟩
 unfold Go.PM.swp
 split
 ·exact h3 r j hr hj
 ·split
  ·exact h3 k j hk hj
  ·exact h3 i j hi hj
def rhs (n:Nat) (B:Nat→Nat→Rat):Nat→Rat:=fun i=>B i n
theorem aqQ {n k r:Nat} {B:Nat→Nat→Rat}:rhs n (swp k r B)=swp k r (rhs n B):=by
 funext i
 unfold rhs swp
 split
 ·rfl
 ·split<;>rfl
theorem BM.alE {n g:Nat} {B:Nat→Nat→Rat} (hF:BM n B) (hS:qE g n (n+1) B):∀k,k≤n →
  ∃B',MS n k B'∧BM n B'∧qE (2^k*(g+1)-1) n (n+1) B'∧∀x,fJ n B' (rhs n B') x↔fJ n B (rhs n B) x
 | 0,_=>⟨B,⟨fun _ _ _ h _=>absurd h (Nat.not_lt_zero _),fun _ h=>absurd h (Nat.not_lt_zero _)⟩,hF,by simpa using hS,fun _=>Iff.rfl⟩
 |
  k+1,hk=>by
  obtain⟨B',h1,h2,h3,h4⟩:=BM.alE hF hS k (by omega)
  obtain⟨m,Qe,Yz,hm3⟩:=h2.aiT (by omega) h1.upper
  have g1:=h1.swp Qe Yz
  have g2:=Pc (k:=k) (m:=m) (by omega) Yz h2
  have g3:=h3.swp (k:=k) (r:=m) (by omega) Yz
  have Su:swp k m B' k k≠0:=by
   unfold Go.PM.swp
   rw[if_pos rfl]
   exact hm3
  have hck:(fun i=>if i=k then 0 else swp k m B' i k / swp k m B' k k) k=0:=if_pos rfl
  refine⟨G4 (fun i=>if i=k then 0 else swp k m B' i k / swp k m B' k k) k (swp k m B'),g1.step Su (by omega),OF (by omega) hck g2,?_,fun x => ?_⟩
  ·have e:2^(k+1)*(g+1)-1=2*(2^k*(g+1)-1)+1:=by
    have h0:0<2^k*(g+1):=Nat.mul_pos (aNW _) (by omega)
    have:2^(k+1)*(g+1)=2*(2^k*(g+1)):=by rw[aLM];grind
    omega
   rw[e]
   refine g3.G4 (by omega) (by omega) Su fun i hi => ?_
   by_cases Wp:i=k
   ·exact .inl (if_pos Wp)
   ·exact .inr (if_neg Wp)
  ·have e1:=DN (n:=n) (k:=k) (b:=rhs n (swp k m B')) (x:=x) (c:=fun i=>if i=k then 0 else swp k m B' i k / swp k m B' k k) (A:=swp k m B') (by omega) hck
   have e2:=DD (n:=n) (k:=k) (m:=m) (b:=rhs n B') (x:=x) (A:=B') (by omega) Yz
   rw[←aqQ] at e2
   exact(e1.trans e2).trans (h4 x)
theorem BM.anB {n g:Nat} {B:Nat→Nat→Rat} (hF:BM n B) (hS:qE g n (n+1) B):∃X,fJ n B (rhs n B) X∧∀i,i<n→aM (X i)≤2*(2^n*(g+1)):=by
 obtain⟨B',h1,h2,h3,h4⟩:=BM.alE hF hS n (aKl _)
 refine⟨fun i=>rhs n B' i / B' i i,(h4 _).1 (h1.ahF _),fun i hi => ?_⟩
 have b1:=h3.bits hi (Nat.lt_succ_self n)
 have b2:=h3.bits hi (show i<n+1 by omega)
 have b3:=GH (B' i n) (B' i i)
 show aM (B' i n / B' i i)≤_
 omega
end Go.PM
namespace Go.PM
theorem CW.wide {s:Int} {g g':Nat} {a:Rat} (h:CW s g a) (hg:g≤g'):CW s g' a:=by
 obtain⟨M,h1,h2⟩:=h
 exact⟨M,h1,Nat.lt_of_lt_of_le h2 (aMp (by decide) hg)⟩
theorem CW.zero {s:Int} {g:Nat}:CW s g 0:=⟨0,by simp,by simpa using aNW g⟩
theorem CW.mul {s t:Int} {g h:Nat} {a b:Rat} (ha:CW s g a) (hb:CW t h b):CW (s*t) (g+h) (a*b):=by
 obtain⟨M,m1,m2⟩:=ha
 obtain⟨N,n1,n2⟩:=hb
 refine⟨M*N,?_,?_⟩
 ·rw[aNV,aNV,←m1,←n1]
  grind
 ·rw[aMX,aMt]
  exact aNU m2 n2
theorem CW.sum {s:Int} {g:Nat} {f:Nat→Rat}:∀ {n:Nat},(∀j,j<n→CW s g (f j))→∃M:Int,Sg f n*(s:Rat)=(M:Rat)∧M.natAbs≤n*(2^g-1)
 | 0,_=>⟨0,by simp[Sg],by simp⟩
 |
  n+1,h=>by
  obtain⟨M,m1,m2⟩:=CW.sum (n:=n) fun j hj=>h j (by omega)
  obtain⟨N,n1,n2⟩:=h n (by omega)
  refine⟨M+N,?_,?_⟩
  ·rw[Sg,Rat.add_mul,m1,n1,Rat.intCast_add]
  ·have:=Int.natAbs_add_le M N
   rw[Nat.add_mul]
   omega
theorem CW.aiO {s:Int} {g n:Nat} {f:Nat→Rat} (hn:n≤16) (h:∀j,j<n→CW s g (f j)):CW s (g+4) (Sg f n):=by
 obtain⟨M,m1,m2⟩:=CW.sum h
 refine⟨M,m1,?_⟩
 have h1:n*(2^g-1)≤16*(2^g-1):=aKM _ hn
 have h2:=aNW g
 rw[aMt]
 omega
def cU (h n:Nat) (X:Nat→Rat):Prop:=∃t:Int,t≠0∧t.natAbs<2^h∧∀i,i<n→CW t h (X i)
theorem cU.bits {h n:Nat} {X:Nat→Rat} (hX:cU h n X) {i:Nat} (hi:i<n):aM (X i)≤h:=by
 obtain⟨t,h1,h2,h3⟩:=hX
 exact(h3 i hi).bits h1 h2
theorem qE.row {g n m:Nat} {A:Nat→Nat→Rat} (h:qE g n m A) {i:Nat} (hi:i<n):cU g m (A i):=by
 obtain⟨s,h1,h2,h3⟩:=h
 exact⟨s,h1,h2,fun j hj=>h3 i j hi hj⟩
theorem cU.mix {g h n:Nat} {c X:Nat→Rat} (hc:cU g n c) (hX:cU h n X) (hn:n≤16):aM (Sg (fun j=>c j*X j) n)≤g+h+4:=by
 obtain⟨s,s1,s2,s3⟩:=hc
 obtain⟨t,t1,t2,t3⟩:=hX
 have h1:=CW.aiO (s:=s*t) (g:=g+h) hn fun j hj=>(s3 j hj).mul (t3 j hj)
 refine h1.bits (Int.mul_ne_zero s1 t1) ?_
 rw[aMX]
 have h2:s.natAbs*t.natAbs<2^g*2^h:=aNU s2 t2
 rw[←aMt] at h2
 exact Nat.lt_of_lt_of_le h2 (aMp (by decide) (by omega))
theorem cU.some {g n:Nat} {c:Nat→Rat} (hc:cU g n c) (p:Nat→Prop) [DecidablePred p]:cU g n fun j=>if p j then 0 else c j:=by
 obtain⟨s,s1,s2,s3⟩:=hc
 refine⟨s,s1,s2,fun j hj => ?_⟩
 by_cases h:p j
 ·simp only[h,if_true]
  exact CW.zero
 ·simp only[h,if_false]
  exact s3 j hj
structure XC (n k g:Nat) (A:Nat→Nat→Rat) (b X:Nat→Rat):Prop where
 f:BM n A
 u:BC n k A
 s:fJ n A b X
 z:qE g n n A
structure DgS (n k g:Nat) (A:Nat→Nat→Rat) (b X:Nat→Rat):Prop where
 f:BM n A
 u:MS n k A
 s:fJ n A b X
 z:qE g n n A
section
variable {n k m g h:Nat} {A:Nat→Nat→Rat} {b X:Nat→Rat}
theorem XC.swp (H:XC n k g A b X) (hk:k≤m) (hm:m<n):XC n k g (swp k m A) (swp k m b) X :=
 ⟨Pc (by omega) hm H.f,H.u.swp hk hm,(DD (by omega) hm).2 H.s,H.z.swp (by omega) hm⟩
theorem DgS.swp (H:DgS n k g A b X) (hk:k≤m) (hm:m<n):DgS n k g (swp k m A) (swp k m b) X :=
 ⟨Pc (by omega) hm H.f,H.u.swp hk hm,(DD (by omega) hm).2 H.s,H.z.swp (by omega) hm⟩
def M3 (k:Nat) (A:Nat→Nat→Rat):Nat→Rat:=fun i=>if k<i then A i k / A k k else 0
def cDg (k:Nat) (A:Nat→Nat→Rat):Nat→Rat:=fun i=>if i=k then 0 else A i k / A k k
theorem XC.step (H:XC n k g A b X) (Su:A k k≠0) (hk:k<n):XC n (k+1) (2*g+1) (G4 (M3 k A) k A) (TF (M3 k A) k b) X:=by
 have hc:M3 k A k=0:=if_neg (Nat.lt_irrefl _)
 refine⟨OF hk hc H.f,H.u.step Su hk,(DN hk hc).2 H.s,H.z.G4 hk hk Su fun i _ => ?_⟩
 unfold M3
 by_cases h:k<i
 ·exact .inr (if_pos h)
 ·exact .inl (if_neg h)
theorem DgS.step (H:DgS n k g A b X) (Su:A k k≠0) (hk:k<n):DgS n (k+1) (2*g+1) (G4 (cDg k A) k A) (TF (cDg k A) k b) X:=by
 have hc:cDg k A k=0:=if_pos rfl
 refine⟨OF hk hc H.f,H.u.step Su hk,(DN hk hc).2 H.s,H.z.G4 hk hk Su fun i _ => ?_⟩
 unfold cDg
 by_cases h:i=k
 ·exact .inl (if_pos h)
 ·exact .inr (if_neg h)
theorem XC.right (H:XC n k g A b X) (hX:cU h n X) (hn:n≤16) {i:Nat} (hi:i<n):aM (b i)≤g+h+4:=by
 rw[←H.s i hi]
 exact(H.z.row hi).mix hX hn
theorem DgS.right (H:DgS n k g A b X) (hX:cU h n X) (hn:n≤16) {i:Nat} (hi:i<n):aM (b i)≤g+h+4:=by
 rw[←H.s i hi]
 exact(H.z.row hi).mix hX hn
theorem DgS.done (H:DgS n n g A b X) {i:Nat} (hi:i<n):X i=b i / A i i:=(H.f.uniq H.s (H.u.ahF b)) i hi
def bk (A:Nat→Nat→Rat) (b X:Nat→Rat) (k j:Nat):Rat:=b k-(Sg (fun m=>A k m*X m) j-Sg (fun m=>A k m*X m) (k+1))
theorem ahN:bk A b X k (k+1)=b k:=by unfold bk;grind
theorem asG {j:Nat}:bk A b X k (j+1)=bk A b X k j-A k j*X j:=by unfold bk;rw[Sg];grind
theorem ayX {f:Nat→Rat} {a:Nat}:∀ {j n:Nat},a≤j→j≤n→Sg f n-(Sg f j-Sg f a)=Sg (fun m=>if a≤m∧m<j then 0 else f m) n:=by
 intro j n haj EY
 induction n with
 |
  zero =>
  have h1:j=0:=by omega
  have h2:a=0:=by omega
  subst h1 h2
  simp only[Sg]
  grind
 |
  succ n ih =>
  by_cases hj:j=n+1
  ·subst hj
   have e:Sg (fun m=>if a≤m∧m<n+1 then 0 else f m) (n+1)=Sg f a:=by
    clear ih EY
    have key:∀k,Sg (fun m=>if a≤m∧m<n+1 then 0 else f m) (min k a)=Sg f (min k a):=fun k=>iT fun i hi=>if_neg (by omega)
    have h1:=key (n+1)
    have h2:∀d,a+d≤n+1→Sg (fun m=>if a≤m∧m<n+1 then 0 else f m) (a+d)=Sg (fun m=>if a≤m∧m<n+1 then 0 else f m) a:=by
     intro d
     induction d with
     | zero=>intro _;rfl
     |
      succ d ih =>
      intro hd
      rw[←Nat.add_assoc,Sg,ih (by omega),if_pos ⟨by omega,by omega⟩]
      grind
    have h3:=h2 (n+1-a) (by omega)
    rw[show a+(n+1-a)=n+1 by omega] at h3
    rw[h3]
    have h4:=key a
    rwa [Nat.min_self] at h4
   rw[e]
   grind
  ·rw[Sg,Sg,←ih (by omega),if_neg (by omega)]
   grind
theorem XC.part (H:XC n n g A b X) (hX:cU h n X) (hn:n≤16) {j:Nat} (hk:k<n) (hj:k+1≤j) (EY:j≤n):aM (bk A b X k j)≤g+h+4:=by
 have e:bk A b X k j=Sg (fun m=>(if k+1≤m∧m<j then 0 else A k m)*X m) n:=by
  unfold bk
  rw[←H.s k hk,ayX hj EY]
  refine iT fun m _ => ?_
  by_cases hm:k+1≤m∧m<j
  ·rw[if_pos hm,if_pos hm];grind
  ·rw[if_neg hm,if_neg hm]
 rw[e]
 exact((H.z.row hk).some fun m=>k+1≤m∧m<j).mix hX hn
theorem XC.back (H:XC n n g A b X) (hk:k<n):X k=bk A b X k n / A k k:=H.u.back H.s hk
end
def gk (g:Nat):Nat→Nat
 | 0=>g
 | k+1=>2*gk g k+1
theorem avB {g:Nat}:∀ {k n:Nat},k≤n→gk g k≤2^n*(g+1)
 |
  0,n,_=>by
  have:=Nat.one_le_two_pow (n:=n)
  have h:1*(g+1)≤2^n*(g+1):=aKM _ this
  show g≤_
  omega
 |
  k+1,n,hk=>by
  have key:∀k,gk g k+1=2^k*(g+1):=by
   intro k
   induction k with
   | zero=>simp[gk]
   | succ k ih=>rw[gk,aLM];grind
  have h1:=key (k+1)
  have h2:2^(k+1)*(g+1)≤2^n*(g+1):=aKM _ (aMp (by decide) hk)
  omega
end Go.PM
namespace Go.PM
theorem Tb.swap {f:Rat→VV} {lo hi N M b g:Nat} {F:Nat→Nat→Rat} {H:aA} (h:Tb f lo hi N M b g F H) {k m:Nat} (hk:k<N) (hm:m<N) :
  ∃u v,bI false 1 (.ptr b g k 0) H=some u∧bI false 1 (.ptr b g m 0) H=some v∧∀fZ,fZ≤lo→∃H1 H2,bK fZ 1 (.ptr b g k 0) v H=some H1∧(∀c,bJ 1 (.ref b g 0 N c) (VI m) H1=some (.ptr b g m 0))∧bK fZ 1 (.ptr b g m 0) u H1=some H2∧Qn lo hi H H1∧Qn lo hi H H2∧Tb f lo hi N M b g (swp k m F) H2:=by
 obtain⟨rs,hM,hx⟩:=h
 have hl:=congrArg aNu hx
 rw[aL2,BZ] at hl
 have hkl:k<rs.length:=by omega
 have hml:m<rs.length:=by omega
 have hrk:rs[k]? = some rs[k]:=aKs hkl
 have MB:rs[m]? = some rs[m]:=aKs hml
 have Na:∀i (hi:i<rs.length),rs[i].xs=vec M (F i):=fun i hi=>by
  have h1:(rs.map (·.xs))[i]? = some rs[i].xs:=by rw[aNQ,aKs hi];rfl
  rw[hx,NB (by omega)] at h1
  exact(Option.some.inj h1).symm
 have avA:((rs.set k rs[m]).set m rs[k]).Perm rs:=List.set_set_perm hkl hml
 refine⟨_,_,hM.cell hrk,hM.cell MB,fun fZ dQ => ?_⟩
 have s1:=dN (f:=tU) (e:=1) (x:=rs[m]) (j:=k) (lo:=fZ) hM.out hkl (aKm dQ hM.blo) rfl rfl
 have o1:=cA (es:=(rs.set k rs[m]).map tU) (e:=1) (w:=true) (g:=g) hM.out
 have s2:=dN (f:=tU) (e:=1) (x:=rs[k]) (j:=m) (lo:=fZ) o1 (by rw[aMk];exact hml) (aKm dQ hM.blo) rfl rfl
 have o2:=cA (es:=((rs.set k rs[m]).set m rs[k]).map tU) (e:=1) (w:=true) (g:=g) o1
 have EU:=hM.blo
 have hb2:=hM.bhi
 refine⟨_,_,s1,fun c => ?_,s2,⟨by rw[aMk],fun b' g' x xD h=>bC (by omega) h⟩,⟨by rw[aMk,aMk],fun b' g' x xD h=>bC (by omega) (bC (by omega) h)⟩,(rs.set k rs[m]).set m rs[k],⟨o2,hM.blo,hM.bhi,?_,fun r hr => ?_⟩,?_⟩
 ·have:=bA (o:=0) (n:=N) (c:=c) (i:=m) (k := .i64) o1 hm
  rwa [aLT] at this
 ·exact(avA.map (·.b)).nodup_iff.2 hM.rows.nd
 ·obtain⟨k1,k2,k3,k4,k5⟩:=hM.rows.row r (avA.mem_iff.1 hr)
  exact⟨k1,k2,k3,k4,bC (Ne.symm k3) (bC (Ne.symm k3) k5)⟩
 ·have e:((rs.set k rs[m]).set m rs[k]).map (fun r:Ck Rat=>r.xs)=((rs.map (fun r:Ck Rat=>r.xs)).set k rs[m].xs).set m rs[k].xs:=by rw[aNT,aNT]
  rw[e,hx,Na m hml,Na k hkl,Se,Se]
  refine Lf fun a c _ _ => ?_
  unfold swp
  by_cases h1:a=m
  ·subst h1
   rw[if_pos rfl]
   by_cases h2:a=k
   ·subst h2;rw[if_pos rfl]
   ·rw[if_neg h2,if_pos rfl]
  ·rw[if_neg h1]
   by_cases h2:a=k
   ·rw[if_pos h2,if_pos h2]
   ·rw[if_neg h2,if_neg h2,if_neg h1]
def zQ (bb:Nat→Rat) (i:Nat) (y:Rat) (j:Nat):Rat:=if j=i then y else bb j
def Rw (f:Rat→VV) (rb rg n:Nat) (bb:Nat→Rat) (H:aA):Prop:=aG H rb rg=some ((vec n bb).map f,3,true)
section
variable {f:Rat→VV} {rb rg n i:Nat} {bb:Nat→Rat} {H:aA}
theorem Rw.addr {c:Nat} (h:Rw f rb rg n bb H) (hi:i<n):bJ 3 (.ref rb rg 0 n c) (VI i) H=some (.ptr rb rg i 0):=by
 have:=bA (o:=0) (n:=n) (c:=c) (i:=i) (k := .i64) h hi
 rwa [aLT] at this
theorem Rw.get (h:Rw f rb rg n bb H) (hi:i<n) (ag:Bool):bI ag 3 (.ptr rb rg i 0) H=dP ag 3 (f (bb i)) 0:=pW (f:=f) h (yT hi)
theorem Rw.put {lo:Nat} (h:Rw f rb rg n bb H) (hi:i<n) (dQ:lo≤rb) (hfs:∀x,(aB (f x)).length=3) (hfa:∀x,(aB (f x)).all bL=true) (y:Rat) :
  ∃H',bK lo 3 (.ptr rb rg i 0) (f y) H=some H'∧H'.length=H.length∧(∀b g x,b≠rb→aG H b g=some x→aG H' b g=some x)∧Rw f rb rg n (zQ bb i y) H':=by
 have s:=dN (lo:=lo) (f:=f) (x:=y) (j:=i) h (by rw[nM];exact hi) dQ (hfs y) (hfa y)
 rw[Nw] at s
 exact⟨_,s,by rw[aMk],fun b g x hb h=>bC (Ne.symm hb) h,cA h⟩
theorem Rw.congr {IF:Nat→Rat} (h:Rw f rb rg n bb H) (he:∀j,j<n→bb j=IF j):Rw f rb rg n IF H:=by
 unfold Rw at *
 rw[←xW he]
 exact h
end
structure Sy (f:Rat→VV) (lo hi n b g rb rg:Nat) (A:Nat→Nat→Rat) (bb:Nat→Rat) (H:aA):Prop where
 t:Tb f lo hi n n b g A H
 r:Rw f rb rg n bb H
 d:rb<lo∨hi≤rb
def C5 (lo hi rb:Nat) (H H':aA):Prop:=H.length≤H'.length∧∀b g x,(b<lo∨hi≤b)→b≠rb→aG H b g=some x→aG H' b g=some x
theorem C5.refl {lo hi rb:Nat} {H:aA}:C5 lo hi rb H H:=⟨aKl _,fun _ _ _ _ _ h=>h⟩
theorem C5.trans {lo hi rb:Nat} {H H' Vr:aA} (h:C5 lo hi rb H H') (h':C5 lo hi rb H' Vr):C5 lo hi rb H Vr:=⟨aKm h.1 h'.1,fun b g x h1 h2 h3=>h'.2 b g x h1 h2 (h.2 b g x h1 h2 h3)⟩
theorem C5.app {lo hi rb:Nat} {H L:aA}:C5 lo hi rb H (H++L):=⟨by simp,fun _ _ _ _ _ h=>gP h⟩
theorem Qn.aBy {lo hi rb:Nat} {H H':aA} (h:Qn lo hi H H'):C5 lo hi rb H H':=⟨aNS h.1.symm,fun b g x h1 _ h3=>h.2 b g x h1 h3⟩
section
variable {f:Rat→VV} {lo hi n b g rb rg i j:Nat} {A:Nat→Nat→Rat} {bb:Nat→Rat} {H H':aA}
theorem Sy.app {L:aA} (h:Sy f lo hi n b g rb rg A bb H):Sy f lo hi n b g rb rg A bb (H++L):=⟨h.t.pre (aMg _ _),gP h.r,h.d⟩
theorem Sy.congr {A':Nat→Nat→Rat} {IF:Nat→Rat} (h:Sy f lo hi n b g rb rg A bb H) (h1:∀a c,a<n→c<n→A a c=A' a c) (h2:∀a,a<n→bb a=IF a):Sy f lo hi n b g rb rg A' IF H:=⟨h.t.congr h1,h.r.congr h2,h.d⟩
theorem Sy.spot (h:Sy f lo hi n b g rb rg A bb H) (qM:i<n) (hj:j<n) (hfs:∀x,(aB (f x)).length=3) (hfa:∀x,(aB (f x)).all bL=true) :
  ∃p q,bI false 1 (.ptr b g i 0) H=some p∧bJ 3 p (VI j) H=some q∧(∀ag,bI ag 3 q H=dP ag 3 (f (A i j)) 0) ∧
  ∀fZ y,fZ≤lo→∃H',bK fZ 3 q (f y) H=some H'∧C5 lo hi rb H H'∧Sy f lo hi n b g rb rg (Pt A i j y) bb H':=by
 obtain⟨rb1,rg1,rc1,c1,c2,c3,c4⟩:=h.t.spot qM hj hfs hfa
 refine⟨_,_,c1,c2,c3,fun fZ y dQ => ?_⟩
 obtain⟨H',d1,d2,d3,_⟩:=c4 fZ y dQ
 exact⟨H',d1,d2.aBy,d3,d2.2 _ _ _ h.d h.r,h.d⟩
theorem Sy.put {fZ:Nat} (h:Sy f lo hi n b g rb rg A bb H) (qM:i<n) (dQ:fZ≤rb) (hfs:∀x,(aB (f x)).length=3) (hfa:∀x,(aB (f x)).all bL=true) (y:Rat) :
  ∃H',bK fZ 3 (.ptr rb rg i 0) (f y) H=some H'∧C5 lo hi rb H H'∧Sy f lo hi n b g rb rg A (zQ bb i y) H':=by
 obtain⟨H',h1,h2,h3,h4⟩:=h.r.put qM dQ hfs hfa y
 have hd:=h.d
 exact⟨H',h1,⟨aNS h2.symm,fun b g x _ hb hx=>h3 b g x hb hx⟩,h.t.dB fun b' g' x k1 k2 hx=>h3 b' g' x (by omega) hx,h4,h.d⟩
end
end Go.PM
namespace Go.PM
def OC (p:Nat×List PV):List (List Rat):=P7 p.1 p.1 (iU p.2)
structure QOk (p:Nat×List PV):Prop where
 n:p.1≤12
 l:p.2.length≤400
 t:∀t∈p.2,aM t.2.2≤1331∧0≤t.2.2
 s:∃i j q,(i,j,q)∈p.2∧i≠j∧0<q∧i<p.1∧j<p.1
theorem QOk.aHb {p:Nat×List PV} (h:QOk p):HO (OC p)≠0:=by
 obtain⟨i,j,q,h1,h2,h3,h4,h5⟩:=h.s
 exact Xe (fun t ht=>(h.t t ht).2) h1 h2 h3 h4 h5
theorem QOk.rows {p:Nat×List PV} (h:QOk p):∀r∈OC p,r.length=p.1∧∀q∈r,aM q≤600000:=fun r hr=>by
 obtain⟨h1,h2⟩:=Xj (Q:=1331) (fun t ht=>(h.t t ht).1) r hr
 have h3:p.2.length*(1331+1)≤400*(1331+1):=aKM _ h.l
 exact⟨h1,fun q hq=>by have:=h2 q hq;omega⟩
theorem Xo {p:Nat×List PV}:(OC p).length=p.1:=BZ ..
end Go.PM