/- Texts of a claim, in one: part 12. -/
import Derived.KernelRfl
import Derived.Test.YtjmflicajplclaaGreatDoorKAk
open And renaming intro → aMk
open Int renaming le_refl → aN2,natAbs_mul → aNi
open List renaming append_nil → aLM,countP_eq_length → aN4,eq_nil_of_length_eq_zero → aKK,ext_getElem? → aN8,foldl_append → aNP,getD_eq_getElem?_getD → aKB,getElem?_eq_getElem → aKL,getElem?_eq_none → aK4,getElem?_map → aN9,getElem?_replicate → aN3,getElem_mem → aKR,length → aNO,length_append → aKP,length_cons → aKO,length_map → aMl,length_nil → aMh,length_replicate → aMt,length_set → aMC,map_append → aM1,map_id → aN5,map_map → aN7,map_set → aOc,mem_append → aLA,mem_cons_of_mem → aLd,mem_cons_self → aLe,mem_map → aMf,mem_of_getElem? → aLy,mem_range → aLf,mem_singleton → aLK,prefix_append → aMy,range → aKA,range_succ → aNZ,replicate → aLu,replicate_succ → aLO,replicate_zero → aN6,set_cons_zero → aMi,take_add_one → aMu,take_append_of_le_length → aNf,take_length → aLR,take_of_length_le → aLx
open Nat renaming le_of_ble_eq_true → aMs,le_of_eq → aOb,le_refl → aKE,le_trans → aKF,mul_le_mul_right → aK5,mul_lt_mul'' → aOd,pow_add → aMS,pow_le_pow_right → aMH,pow_succ → aL5,sub_self → aKX,two_pow_pos → aOf,zero_add → aMc,zero_le → aK8
open Option renaming getD_some → aNS
open Rat renaming intCast_mul → aOe,le_refl → aOa
set_option linter.unusedSimpArgs false
set_option linter.unusedVariables false
namespace Go.PM
def Yi (st:List Int) (i:Nat):Bool:=decide (Kt st i<0)
def gtB (u e:Int):Bool:=decide (u<e)
section
variable {cO wF:Int} {cs:List lZ} {st:List Int} {t:Int}
theorem pP.sorted (hc:pP cs):∀ {i j:Nat},i≤j→j<cs.length→Qb cs i≤Qb cs j:=by
 intro i j Qv hj
 induction j with
 |
  zero =>
  have:i=0:=by omega
  subst this
  exact aN2 _
 |
  succ j ih =>
  rcases Nat.lt_or_ge i (j+1) with h | h
  ·have h1:=ih (by omega) (by omega)
   have hx:cs[j+1]? = some cs[j+1]:=aKL hj
   have hy:cs[j]? = some cs[j]:=aKL (by omega)
   have h2:=(hc.1 (j+1) _ hx).2 _ (by omega) (by rw[Nat.add_sub_cancel];exact hy)
   rw[Yb hx]
   rw[Yb hy] at h1
   omega
  ·have:i=j+1:=by omega
   subst this
   exact aN2 _
theorem JX {fT:Nat} (aCa:fT≤cs.length) (past:∀i,i<fT→Qb cs i≤t) (fut:∀i,fT≤i→i<cs.length→t<Qb cs i):wt cs st t=(aKA fT).filter (Yi st):=by
 unfold wt
 rw[show cs.length=fT+(cs.length-fT) by omega,List.range_add,List.filter_append]
 have h1:(aKA fT).filter (isW cs st t)=(aKA fT).filter (Yi st):=by
  refine List.filter_congr fun i hi => ?_
  rw[aLf] at hi
  simp[isW,Yi,past i hi]
 have h2:((aKA (cs.length-fT)).map fun x=>fT+x).filter (isW cs st t)=[]:=by
  rw[List.filter_eq_nil_iff]
  intro i hi
  obtain⟨j,hj,rfl⟩:=aMf.1 hi
  rw[aLf] at hj
  have:=fut (fT+j) (by omega) (by omega)
  simp only[isW,Bool.and_eq_true,decide_eq_true_eq]
  omega
 rw[h1,h2,aLM]
structure SX (cO wF:Int) (cs:List lZ) (st:List Int) (t:Int) (fT:Nat) (ws:List Nat) (ends:List Int):Prop where
 len:st.length=cs.length
 low:∀i,i<cs.length → -1≤Kt st i
 high:∀i,i<cs.length→Kt st i≤t
 bd:∀i,i<cs.length→Kt st i+1000*(II st:Int)≤10000+1000*(cs.length:Int)
 tm : -1≤t
 Rm:fT≤cs.length
 past:∀i,i<fT→Qb cs i≤t
 fut:∀i,fT≤i→i<cs.length→t<Qb cs i∧Kt st i<0
 wsq:ws=wt cs st t
 cnt:∀u,t≤u→ends.countP (gtB u)=bz cs st u
 ef:∀e∈ends,t<e
 eb:∀e∈ends,e+1000*(II st:Int)≤11000+1000*(cs.length:Int)
 fl:full cO wF cs st t
 room:ws.length+ends.length≤fT
 es:(ends.length:Int)≤wF
 run:runT cO wF cs (t+1) (100000-(t+1)).toNat st=stL cO wF cs
theorem IX {n i:Nat} (h:i<n):Kt (aLu n (-1)) i = -1:=akS (by rw[aN3,if_pos h])
theorem SX.start (hc:pP cs) (hs:1≤wF):SX cO wF cs (aLu cs.length (-1)) (-1) 0 [] []:=by
 have hw:wt cs (aLu cs.length (-1)) (-1)=[]:=by
  rw[JX (aK8 _) (fun i hi=>by omega) fun i _ hi=>by have:=hc.bnd hi;omega]
  rfl
 have hu:II (aLu cs.length (-1))=cs.length:=by simp[II,List.countP_replicate]
 refine⟨by simp,fun i hi=>by rw[IX hi];decide,fun i hi=>by rw[IX hi];decide,fun i hi=>by rw[IX hi,hu];omega,by decide,aK8 _,fun i hi=>by omega,fun i _ hi=>⟨by have:=hc.bnd hi;omega,by rw[IX hi];decide⟩,hw.symm,fun u _ => ?_,fun e he=>(by cases he),fun e he=>(by cases he),.inr (BB.2 hw),aKE _,by simp;omega,rfl⟩
 unfold bz
 rw[(List.countP_eq_zero (p:=inS cs (aLu cs.length (-1)) u)).2]
 ·rfl
 ·intro i hi
  rw[aLf] at hi
  simp only[inS,IX hi,Bool.and_eq_true,decide_eq_true_eq]
  omega
def TZ (w:Bool) (b e:Int):Int:=if b<0∨(w=true∧e<b) then e else b
theorem axZ {es:List Int} {b:Int} (h:0≤b):es.foldl (TZ false) b=b:=by
 induction es with
 | nil=>rfl
 |
  cons e es ih =>
  rw[List.foldl_cons]
  have:TZ false b e=b:=by
   unfold TZ
   rw[if_neg (by simp;omega)]
  rw[this,ih]
theorem auQ:∀ {es:List Int} {b:Int},(∀e∈es,0≤e)→(es.foldl (TZ true) b=b∨es.foldl (TZ true) b∈es)∧(∀e∈es,es.foldl (TZ true) b≤e)∧(0≤b→es.foldl (TZ true) b≤b)∧(es≠[]→0≤es.foldl (TZ true) b)
 | [],b,_=>⟨.inl rfl,fun e he=>(by cases he),fun _=>aN2 _,fun h=>absurd rfl h⟩
 |
  e::es,b,h=>by
  rw[List.foldl_cons]
  have h1:=h e aLe
  have h2:∀e'∈es,0≤e':=fun e' he=>h e' (aLd _ he)
  have hm:(TZ true b e=b∨TZ true b e=e)∧TZ true b e≤e∧(0≤b→TZ true b e≤b)∧0≤TZ true b e:=by
   unfold TZ
   by_cases hc:b<0∨(true=true∧e<b)
   ·rw[if_pos hc]
    refine⟨.inr rfl,aN2 _,fun hb => ?_,h1⟩
    rcases hc with hc | hc<;>omega
   ·rw[if_neg hc]
    simp at hc
    exact⟨.inl rfl,hc.2,fun _=>aN2 _,hc.1⟩
  obtain⟨m1,m2,m3,m4⟩:=hm
  obtain⟨g1,g2,g3,g4⟩:=auQ (es:=es) (b:=TZ true b e) h2
  have g3:=g3 m4
  refine⟨?_,?_,fun hb=>by have:=m3 hb;omega,fun _ => ?_⟩
  ·rcases g1 with g1 | g1
   ·rw[g1]
    rcases m1 with m1 | m1
    ·exact .inl m1
    ·rw[m1];exact .inr aLe
   ·exact .inr (aLd _ g1)
  ·intro e' he
   rcases List.mem_cons.1 he with rfl | he
   ·omega
   ·exact g2 e' he
  ·rcases g1 with g1 | g1
   ·rw[g1];exact m4
   ·exact h2 _ g1
def S3 (cs:List lZ) (fT:Nat):Int:=if fT<cs.length then Qb cs fT else -1
def N4 (cs:List lZ) (fT:Nat) (ws:List Nat) (ends:List Int):Int:=ends.foldl (TZ (decide (0<ws.length))) (S3 cs fT)
theorem SX.aiG {fT:Nat} {ws:List Nat} {ends:List Int} (h:SX cO wF cs st t fT ws ends):ends.length=bz cs st t:=by
 rw[←h.cnt t (aN2 _),aN4.2]
 intro e he
 exact decide_eq_true (h.ef e he)
theorem SX.time {fT:Nat} {ws:List Nat} {ends:List Int} (h:SX cO wF cs st t fT ws ends) (hc:pP cs) (hs:1≤wF) (hg:fT<cs.length∨0<ws.length) :
  (t<N4 cs fT ws ends∧N4 cs fT ws ends+1000*(II st:Int)≤11000+1000*(cs.length:Int))∧(∀i,fT≤i→i<cs.length→N4 cs fT ws ends≤Qb cs i) ∧
   (fT<cs.length∧Qb cs fT=N4 cs fT ws ends∨0<ws.length∧N4 cs fT ws ends∈ends)∧runT cO wF cs (N4 cs fT ws ends) (100000-N4 cs fT ws ends).toNat st=stL cO wF cs:=by
 have htm:=h.tm
 have TU:=Zm (st:=st)
 have hlen:=h.len
 have he0:∀e∈ends,0≤e:=fun e he=>by have:=h.ef e he;omega
 have aD4:=hc.2
 by_cases hw:0<ws.length
 ·have hbz:wF≤(bz cs st t:Int):=by
   rcases h.fl with hf | hf
   ·exact hf
   ·rw[BB,←h.wsq] at hf
    rw[hf] at hw
    simp at hw
  have gF:ends≠[]:=by
   intro he
   have:=h.aiG
   rw[he] at this
   simp at this
   omega
  obtain⟨g1,g2,g3,g4⟩:=auQ (es:=ends) (b:=S3 cs fT) he0
  have aeS:N4 cs fT ws ends=ends.foldl (TZ true) (S3 cs fT):=by unfold N4;rw[decide_eq_true hw]
  rw[aeS]
  generalize ends.foldl (TZ true) (S3 cs fT)=w at *
  have g4:=g4 gF
  have Pd:(fT<cs.length∧Qb cs fT=w)∨w∈ends:=by
   rcases g1 with g1 | g1
   ·unfold S3 at g1
    split at g1
    ·rename_i mM
     exact .inl ⟨mM,g1.symm⟩
    ·omega
   ·exact .inr g1
  have htw:t<w∧w+1000*(II st:Int)≤11000+1000*(cs.length:Int):=by
   rcases Pd with⟨h1,h2⟩ | h1
   ·have:=h.fut fT (aKE _) h1
    have:=hc.bnd h1
    omega
   ·exact⟨h.ef _ h1,h.eb _ h1⟩
  refine⟨htw,fun i h1 h2 => ?_,Pd.imp id fun h1=>⟨hw,h1⟩,?_⟩
  ·have h3:=hc.sorted h1 h2
   have h4:=hc.bnd (i:=fT) (by omega)
   have h5:S3 cs fT=Qb cs fT:=by unfold S3;rw[if_pos (by omega)]
   have:=g3 (by rw[h5];omega)
   omega
  ·rw[←h.run]
   refine(aaA (by omega) (by omega) (by omega) fun u h1 h2 => .inl ?_).symm
   rw[←h.cnt u (by omega),(aN4 (p:=gtB u)).2 fun e he=>decide_eq_true (by have:=g2 e he;omega),h.aiG]
   exact hbz
 ·have mM:fT<cs.length:=by omega
  have h5:S3 cs fT=Qb cs fT:=by unfold S3;rw[if_pos mM]
  have h4:=hc.bnd mM
  have hf:=(h.fut fT (aKE _) mM).1
  have aeS:N4 cs fT ws ends=Qb cs fT:=by unfold N4;rw[decide_eq_false hw,axZ (by rw[h5];omega),h5]
  rw[aeS]
  refine⟨⟨hf,by omega⟩,fun i h1 h2=>hc.sorted h1 h2,.inl ⟨mM,rfl⟩,?_⟩
  rw[←h.run]
  refine(aaA (by omega) (by omega) (by omega) fun u h1 h2 => .inr ?_).symm
  rw[BB,JX h.Rm (fun i hi=>by have:=h.past i hi;omega) fun i h3 h4=>by have:=hc.sorted h3 h4;omega]
  have e1:=JX (st:=st) h.Rm h.past fun i h3 h4=>(h.fut i h3 h4).1
  rw[←e1,←h.wsq]
  exact aKK (by omega)
theorem SX.done {fT:Nat} {ws:List Nat} {ends:List Int} (h:SX cO wF cs st t fT ws ends) (aCa:¬fT<cs.length) (hw:¬0<ws.length):st=stL cO wF cs:=by
 rw[←h.run]
 refine(abX _ _ fun u hu => .inr ?_).symm
 have mM:=h.Rm
 have e1:=JX (st:=st) h.Rm h.past fun i h3 h4=>(h.fut i h3 h4).1
 rw[BB,JX h.Rm (fun i hi=>by have:=h.past i hi;omega) fun i h3 h4=>by omega,←e1,←h.wsq]
 exact aKK (by omega)
structure Ph4 (cO wF:Int) (cs:List lZ) (K7:List Int) (now:Int) (fT tot:Nat) (st:List Int) (ws:List Nat) (ends:List Int):Prop where
 way:Way cs st now
 wsq:ws=wt cs st now
 cnt:∀u,now≤u→ends.countP (gtB u)=bz cs st u
 ef:∀e∈ends,now<e
 eb:∀e∈ends,e+1000*(II st:Int)≤11000+1000*(cs.length:Int)
 fl:fill cO wF cs now cs.length st=fill cO wF cs now cs.length K7
 past:∀i,i<fT→Qb cs i≤now
 fut:∀i,fT≤i→i<cs.length→now<Qb cs i∧Kt st i<0
 tot:ws.length+ends.length=tot
 es:(ends.length:Int)≤wF
theorem EH:∀ {l:List Nat} {i k:Nat},l.Nodup→l[i]? = some k→l.eraseIdx i=l.filter (· != k)
 | [],_,_,_,h=>by cases h
 |
  x::l,0,k,hn,h=>by
  injection h with h
  subst h
  rw[List.nodup_cons] at hn
  rw[List.eraseIdx_cons_zero,List.filter_cons_of_neg (by simp),List.filter_eq_self.2]
  intro y hy
  have:y≠x:=fun he=>hn.1 (he▸hy)
  simpa using this
 |
  x::l,i+1,k,hn,h=>by
  rw[List.nodup_cons] at hn
  rw[List.getElem?_cons_succ] at h
  have hx:x≠k:=fun he=>hn.1 (he▸aLy h)
  rw[List.eraseIdx_cons_succ,List.filter_cons_of_pos (by simpa using hx),EH hn.2 h]
theorem Ph4.step {now:Int} {K7:List Int} {fT tot:Nat} {ws:List Nat} {ends:List Int} (h:Ph4 cO wF cs K7 now fT tot st ws ends) (hc:pP cs) (hr:0≤cO∧cO≤3) (hb:(ends.length:Int)<wF) (gF:0<ws.length) :
  ∃k,ws[Pt cO cs ws]? = some k∧k<cs.length∧Pt cO cs ws<ws.length∧(0≤now∧now≤35000)∧Ph4 cO wF cs K7 now fT tot (st.set k now) (ws.eraseIdx (Pt cO cs ws)) (ends++[now+wkC cs k]):=by
 have aeT:ws≠[]:=fun he=>by rw[he] at gF;simp at gF
 obtain⟨g1,g2⟩:=ahU (cs:=cs) aeT hr
 obtain⟨k,hk⟩:∃k,ws[Pt cO cs ws]? = some k:=⟨_,aKL g1⟩
 have hnx:nxt cO cs st now=some k:=by
  unfold nxt
  rw[←h.wsq,←g2,hk]
 obtain⟨m1,m2,m3⟩:=PW.1 (Sn hnx)
 have htm:=h.way.tm
 have hle:=(h.way.le hc).1
 have hbz:(bz cs st now:Int)=ends.length:=by
  rw[←h.cnt now (aN2 _),(aN4 (p:=gtB now)).2 fun e he=>decide_eq_true (h.ef e he)]
 have Td:k<st.length:=by rw[h.way.len];exact m1
 have hus:=C1 (t:=now) Td m2 htm.1
 have hwk:=(hc.bnd m1).2
 refine⟨k,hk,m1,g1,⟨htm.1,hle⟩,h.way.set m1 m2,?_,?_,?_,?_,?_,h.past,?_,?_,?_⟩
 ·rw[avW h.way.len m1 htm.1,←h.wsq]
  exact EH (by rw[h.wsq];exact ahB) hk
 ·intro u hu
  rw[List.countP_append,h.cnt u hu,azU m1 h.way.len m2 htm.1,List.countP_singleton]
  congr 1
  simp only[gtB,decide_eq_true_eq]
  by_cases hq:u<now+wkC cs k
  ·rw[if_pos hq,if_pos ⟨hu,hq⟩]
  ·rw[if_neg hq,if_neg fun h'=>hq h'.2]
 ·intro e he
  rcases aLA.1 he with he | he
  ·exact h.ef e he
  ·rw[aLK] at he
   omega
 ·intro e he
  rcases aLA.1 he with he | he
  ·have:=h.eb e he
   omega
  ·rw[aLK] at he
   omega
 ·rw[abJ h.way.len htm.1 (by rw[hbz];exact hb) hnx,h.fl]
 ·intro i h1 h2
  have h3:=h.fut i h1 h2
  refine⟨h3.1,?_⟩
  rw[J7 Td,if_neg (fun he=>by subst he;omega)]
  exact h3.2
 ·rw[List.length_eraseIdx_of_lt g1,aKP,aKO,aMh]
  have:=h.tot
  omega
 ·rw[aKP,aKO,aMh]
  omega
theorem Ph4.done {now:Int} {K7:List Int} {fT tot:Nat} {ws:List Nat} {ends:List Int} (h:Ph4 cO wF cs K7 now fT tot st ws ends) (hc:pP cs) (mM:fT≤cs.length) (ht:tot≤fT) (hf:wF≤(ends.length:Int)∨ws=[])
  (hr:runT cO wF cs now (100000-now).toNat K7=stL cO wF cs):SX cO wF cs st now fT ws ends:=by
 have htm:=h.way.tm
 have hle:=(h.way.le hc).1
 have hbz:(bz cs st now:Int)=ends.length:=by
  rw[←h.cnt now (aN2 _),(aN4 (p:=gtB now)).2 fun e he=>decide_eq_true (h.ef e he)]
 have auM:full cO wF cs st now:=by
  rcases hf with hf | hf
  ·exact .inl (by rw[hbz];exact hf)
  ·exact .inr (BB.2 (by rw[←h.wsq];exact hf))
 refine⟨h.way.len,h.way.low,h.way.high,h.way.bd,by omega,mM,h.past,h.fut,h.wsq,h.cnt,h.ef,h.eb,auM,by rw[h.tot];exact ht,h.es,?_⟩
 have h1:=AU auM cs.length
 rw[h.fl] at h1
 rw[akE htm.1 (by omega),h1] at hr
 exact hr
end
end Go.PM
namespace Go.PM
theorem Hk (n:Nat) (h:n<4294967296):TC 207 [VK .u64 1,VK .u64 (n:Int)] (.dW [VK .u64 0,VK .u64 (n:Int)]):=by
 refine TC.walk ⟨true,false⟩ JA rfl (aMs rfl) rfl rfl ?_
 have a1:dK .and (.int .u64 1) (.int .u64 4294967295)=some (.int .u64 1):=S7 1 (by decide)
 have a2:dK .and (.int .u64 (n:Int)) (.int .u64 4294967295)=some (.int .u64 (n:Int)):=by rw[S7 n (by omega),Nat.mod_eq_of_lt h]
 have a0:dK .and (.int .u64 0) (.int .u64 4294967295)=some (.int .u64 0):=S7 0 (by decide)
 have s1:dK .shr (.int .u64 1) (.int .u64 32)=some (.int .u64 0):=qX 1 .u64
 have s0:dK .shr (.int .u64 0) (.int .u64 32)=some (.int .u64 0):=qX 0 .u64
 have s2:dK .shr (.int .u64 (n:Int)) (.int .u64 32)=some (.int .u64 0):=by rw[qX n .u64,Nat.div_eq_of_lt h];rfl
 have w0:IntKind.u64.wrap 0=0:=eT 0 (by decide)
 have wn:IntKind.u64.wrap (n:Int)=n:=eT n (by omega)
 simp only[EN,B3,a0,a1,a2,s0,s1,s2,w0,wn,Int.one_mul,Int.zero_mul,Int.mul_zero,Int.add_zero,VX,Nat.reduceEqDiff,Nat.reduceAdd]
 exact aJ rfl
theorem Jd (n:Nat) (h:n<4294967296):TC 187 [VK .u64 1,VK .u64 (n:Int)] (.dW [VK .u64 0,VK .u64 (n:Int)]):=by
 refine TC.walk ⟨true,false⟩ M4 rfl (aMs rfl) rfl rfl ?_
 simp only[Ht,EF,Hk n h,VX,Nat.reduceEqDiff,Nat.reduceAdd]
 exact aJ rfl
end Go.PM
namespace Go.PM
section
variable {α:Type} {f:α→VV} {H:aA} {b g e lo:Nat} {X Y:List α}
theorem T3 {o:Nat}:dE (X.map f) o (Y.map f)=(X.take o++Y++X.drop (o+Y.length)).map f:=by
 simp[dE]
theorem QZ {o d cc:Nat} {y:VV} (h:aG H b g=some (X.map f,e,true)) (hy:cW e y H=some (Y.map f)) (dS:lo≤b) (ho:o+(Y.take d).length≤X.length) :
  LH lo e (.ref b g o d cc) y H=some (VI (Y.take d).length,H.set b (.row g ((X.take o++Y.take d++X.drop (o+(Y.take d).length)).map f) e true)):=by
 simp only[LH,hy,h]
 rw[←List.map_take,T3,if_pos ⟨trivial,dS,by simpa using ho⟩,aMl]
end
end Go.PM
namespace Go.PM
def fR:aE:=(LS [LO 68 (.bin .lss (LT 67) (LT 66))] (.seq (.cond (LT 68) .skip (.exit 0)) (.seq (.block 1 (LS [LM 69 67,LO 70 (.iaddr 1 (LT 65) (LT 67)),LO 71 (LL 70),LM 10 69,LM 11 71] (LS [LM 73 11,LO 74 (.call 65 [(LT 73)]),LM 72 74,LO 75 (LX 72 0),LO 76 (LX 72 1),LM 12 75,LM 13 76] (.seq (LS [LM 77 13,LO 78 (.un .not (LT 77)),LM 79 78,LZ 79 80 (.mv (LT 12)),LZ 79 81 (.len (LT 80)),LZ 79 82 (.mv (LT 4)),LZ 79 83 (.bin .neq (LT 81) (LT 82)),LO 84 (.pick (LT 79) LG (LT 83)),LM 85 84,LZ 85 86 (.mv (LT 12)),LZ 85 87 (.call 66 [(LT 86),(.func 67)]),LO 88 (.pick (LT 85) LG (LT 87)),LM 89 88,LZ 89 90 (.mv (LT 12)),LZ 89 91 (.mv (LT 10)),LZ 89 92 (.iaddr 3 (LT 90) (LT 91)),LZ 89 93 (LK 92),LZ 89 94 (.call 68 [(LT 93)]),LZ 89 95 (.bin .neq (LT 94) (LI 0)),LO 96 (.pick (LT 89) LG (LT 95))] (.cond (LT 96) (LS [LO 97 (.build [(.slice none 0 0),(.slice none 0 0),(.slice none 0 0)] [(0,1),(1,1),(2,1)] []),LN (.store 3 (LT 2) (LT 97)),LO 3 (.mv LF)] .ret) .skip)) (.cT [LO 98 (LA 1 9),LO 99 (LL 98),LM 100 12,LO 101 (.lit [(.slice none 0 0)] 1 [(0,(LT 100))]),LO 102 (.app 1 24 (LT 99) (LT 101)),LO 103 (LA 1 9),LN (.store 1 (LT 103) (LT 102))]))))) (.cT [LO 104 (.bin .add (LT 67) (LI 1)),LM 67 104]))))
def dY:aE:=(LS [LO 1 (.box (LT 0)),LO 2 (.new [(.slice none 0 0),(.slice none 0 0),(.slice none 0 0)]),LO 3 (.mv LF)] (LS [LO 14 (LA 0 1),LO 15 (LL 14),LO 16 (.len (LT 15)),LM 4 16] (.seq (LS [LM 17 4,LO 18 (.bin .lss (LT 17) (LI 1)),LM 19 18,LZ 19 20 (.mv (LT 4)),LZ 19 21 (.bin .gtr (LT 20) (LI 6)),LO 22 (.pick (LT 19) LG (LT 21)),LM 23 22,LZ 23 24 (LA 1 1),LZ 23 25 (LL 24),LZ 23 26 (.len (LT 25)),LZ 23 27 (.mv (LT 4)),LZ 23 28 (.bin .neq (LT 26) (LT 27)),LO 29 (.pick (LT 23) LG (LT 28)),LM 30 29,LZ 30 31 (LA 2 1),LZ 30 32 (LL 31),LZ 30 33 (.len (LT 32)),LZ 30 34 (.mv (LT 4)),LZ 30 35 (.bin .neq (LT 33) (LT 34)),LO 36 (.pick (LT 30) LG (LT 35))] (.cond (LT 36) (LS [LO 37 (.build [(.slice none 0 0),(.slice none 0 0),(.slice none 0 0)] [(0,1),(1,1),(2,1)] []),LN (.store 3 (LT 2) (LT 37)),LO 3 (.mv LF)] .ret) .skip)) (LS [LO 39 (LA 0 1),LO 40 (LL 39),LO 41 (.call 98 [(LT 40)]),LM 38 41,LO 42 (LX 38 0),LO 43 (LX 38 1),LM 5 42,LM 6 43] (LS [LO 45 (LA 2 1),LO 46 (LL 45),LO 47 (.call 65 [(LT 46)]),LM 44 47,LO 48 (LX 44 0),LO 49 (LX 44 1),LM 7 48,LM 8 49] (.seq (LS [LM 50 6,LO 51 (.un .not (LT 50)),LM 52 51,LZ 52 53 (.mv (LT 8)),LZ 52 54 (.un .not (LT 53)),LO 55 (.pick (LT 52) LG (LT 54)),LM 56 55,LZ 56 57 (.mv (LT 7)),LZ 56 58 (.call 66 [(LT 57),(.func 67)]),LO 59 (.pick (LT 56) LG (LT 58))] (.cond (LT 59) (LS [LO 60 (.build [(.slice none 0 0),(.slice none 0 0),(.slice none 0 0)] [(0,1),(1,1),(2,1)] []),LN (.store 3 (LT 2) (LT 60)),LO 3 (.mv LF)] .ret) .skip)) (LS [LM 61 5,LM 62 7,LO 63 (.build [(.slice none 0 0),(.slice none 0 0),(.slice none 0 0)] [(0,1),(1,1),(2,1)] [(0,(LT 61)),(2,(LT 62))]),LO 9 (.new [(.slice none 0 0),(.slice none 0 0),(.slice none 0 0)]),LN (.store 3 (LT 9) (LT 63))] (.seq (LS [LO 64 (LA 1 1),LO 65 (LL 64),LO 66 (.len (LT 65)),LO 67 (.mv (LI 0))] (.block 0 (.loop fR))) (LS [LO 105 (LK 9),LO 106 (LA 1 9),LO 107 (LL 106),LM 108 7,LQ 109 (.call 195 [(LT 107),(LT 108)]),LQ 110 (.call 194 [(LT 109),LF]),LO 111 (.un .not (LT 110)),LN (.store 3 (LT 2) (LT 105)),LM 3 111] .ret)))))))))
def gA:aT:=⟨112,[(.cell 2 true 3),(.tmp 3)],dY⟩
theorem Ld:fP 176=some gA:=by kernel_rfl
def nJ:aE:=(LS [LO 42 (.bin .lss (LT 41) (LT 40))] (.seq (.cond (LT 42) .skip (.exit 4)) (.seq (.block 5 (LS [LM 43 41,LO 44 (.iaddr 3 (LT 39) (LT 41)),LO 45 (LK 44),LO 8 (.new [(.bool false),(.slice none 0 0),(.slice none 0 0)]),LM 7 43,LN (.store 3 (LT 8) (LT 45))] (.cT [LM 46 5,LM 47 6,LM 48 5,LM 49 6,LO 50 (.iaddr 1 (LT 48) (LT 49)),LO 51 (LL 50),LM 52 51,LZ 52 53 (LK 8),LZ 52 54 (.call 68 [(LT 53)]),LZ 52 55 (.bin .gtr (LT 54) (LI 0)),LZ 52 56 (.mv (LT 55)),LY 56 57 (.mv (LT 5)),LY 56 58 (.mv (LT 7)),LY 56 59 (.iaddr 1 (LT 57) (LT 58)),LY 56 60 (LL 59),LZ 52 61 (.pick (LT 56) (LT 60) LF),LO 62 (.pick (LT 52) LG (LT 61)),LO 63 (.iaddr 1 (LT 46) (LT 47)),LN (.store 1 (LT 63) (LT 62))]))) (.cT [LO 64 (.bin .add (LT 41) (LI 1)),LM 41 64]))))
def qD:aE:=(LS [LO 19 (.bin .lss (LT 18) (LT 17))] (.seq (.cond (LT 19) .skip (.exit 2)) (.seq (.block 3 (LS [LM 20 18,LM 6 20] (LS [LM 21 5,LM 22 6,LM 23 5,LM 24 6,LO 25 (.iaddr 1 (LT 23) (LT 24)),LO 26 (LL 25),LM 27 26,LZ 27 28 (.mv (LT 1)),LZ 27 29 (.mv (LT 6)),LZ 27 30 (.iaddr 3 (LT 28) (LT 29)),LZ 27 31 (LK 30),LZ 27 32 (.call 68 [(LT 31)]),LZ 27 33 (.bin .gtr (LT 32) (LI 0)),LO 34 (.pick (LT 27) LG (LT 33)),LO 35 (.iaddr 1 (LT 21) (LT 22)),LN (.store 1 (LT 35) (LT 34))] (LS [LM 36 0,LM 37 6,LO 38 (.iaddr 1 (LT 36) (LT 37)),LO 39 (LL 38),LO 40 (.len (LT 39)),LO 41 (.mv (LI 0))] (.block 4 (.loop nJ)))))) (.cT [LO 65 (.bin .add (LT 18) (LI 1)),LM 18 65]))))
def CB:aE:=(LS [LO 15 (.bin .lss (LT 14) (LT 13))] (.seq (.cond (LT 15) .skip (.exit 0)) (.seq (.block 1 (LS [LM 16 1,LO 17 (.len (LT 16)),LO 18 (.mv (LI 0))] (.block 2 (.loop qD)))) (.cT [LO 66 (.bin .add (LT 14) (LI 1)),LM 14 66]))))
def Ki:aE:=(LS [LO 4 (.mv (.const (.slice none 0 0)))] (LS [LM 9 1,LO 10 (.len (LT 9)),LO 11 (.make [(.bool false)] 1 (LT 10) (LT 10)),LM 5 11] (.seq (LS [LM 12 1,LO 13 (.len (LT 12)),LO 14 (.mv (LI 0))] (.block 0 (.loop CB))) (LS [LM 67 5,LM 4 67] .ret))))
def O0:aT:=⟨68,[(.tmp 4)],Ki⟩
theorem To:fP 195=some O0:=by kernel_rfl
def oY:aE:=(LS [LO 2 (.box (LT 0)),LO 3 (.box (LT 1)),LO 4 (.mv (.const (.string ⟨#[]⟩))),LO 5 (.mv LF)] (.seq (LS [LO 6 (LL 3),LO 7 (.call 93 [(LT 6),(LI 0),(LI 6)]),LO 8 (.un .not (LT 7))] (.cond (LT 8) (LS [LO 4 (.mv (.const (.string ⟨#[]⟩))),LO 5 (.mv LF)] .ret) .skip)) (LS [LO 9 (LK 2),LO 10 (.mkfn 123 [(LT 3)]),LO 11 (.call 116 [(LT 9),(LT 10)]),LO 12 (LX 11 0),LO 13 (LX 11 1),LM 4 12,LM 5 13] .ret)))
def rD:aT:=⟨14,[(.tmp 4),(.tmp 5)],oY⟩
theorem DM:fP 50=some rD:=by kernel_rfl
def oI:aE:=(LS [LO 2 (.box (LT 0)),LO 4 (.mv (.const (.string ⟨#[]⟩))),LO 5 (.mv LF)] (LS [LO 9 (LK 2),LO 10 (.call 176 [(LT 9)]),LM 8 10,LO 11 (LX 8 0),LO 12 (LX 8 1),LO 6 (.new [(.slice none 0 0),(.slice none 0 0),(.slice none 0 0)]),LN (.store 3 (LT 6) (LT 11)),LM 7 12] (.seq (LS [LM 13 7,LO 14 (.un .not (LT 13))] (.cond (LT 14) (LS [LO 4 (.mv (.const (.string ⟨#[]⟩))),LO 5 (.mv LF)] .ret) .skip)) (LS [LM 15 1,LO 16 (LK 6),LO 17 (.callv (LT 15) [(LT 16)]),LO 18 (.call 137 [(LT 17)]),LO 19 (LX 18 0),LO 20 (LX 18 1),LM 4 19,LM 5 20] .ret))))
def sC:aT:=⟨21,[(.tmp 4),(.tmp 5)],oI⟩
theorem Lo:fP 116=some sC:=by kernel_rfl
def nD:aE:=(LS [LO 23 (.bin .lss (LT 22) (LT 21))] (.seq (.cond (LT 23) .skip (.exit 2)) (.seq (.block 3 (LS [LM 24 22,LM 9 24] (LS [LM 25 2] (.cond (LT 25) (.cT [LM 26 7,LM 27 9,LO 28 (.iaddr 1 (LT 26) (LT 27)),LO 29 (LL 28),LM 30 8,LO 31 (LA 1 3),LO 32 (LL 31),LM 33 8,LO 34 (.iaddr 1 (LT 32) (LT 33)),LO 35 (LL 34),LM 36 9,LO 37 (.iaddr 3 (LT 35) (LT 36)),LO 38 (LK 37),LQ 39 (.call 177 [(LT 38)]),LO 40 (.iaddr 3 (LT 29) (LT 30)),LN (.store 3 (LT 40) (LT 39))]) (.cT [LM 41 7,LM 42 8,LO 43 (.iaddr 1 (LT 41) (LT 42)),LO 44 (LL 43),LM 45 9,LO 46 (LA 1 3),LO 47 (LL 46),LM 48 8,LO 49 (.iaddr 1 (LT 47) (LT 48)),LO 50 (LL 49),LM 51 9,LO 52 (.iaddr 3 (LT 50) (LT 51)),LO 53 (LK 52),LQ 54 (.call 177 [(LT 53)]),LO 55 (.iaddr 3 (LT 44) (LT 45)),LN (.store 3 (LT 55) (LT 54))]))))) (.cT [LO 56 (.bin .add (LT 22) (LI 1)),LM 22 56]))))
def nG:aE:=(LS [LO 18 (.bin .lss (LT 17) (LT 16))] (.seq (.cond (LT 18) .skip (.exit 0)) (.seq (.block 1 (LS [LM 19 17,LM 8 19] (LS [LM 20 7,LO 21 (.len (LT 20)),LO 22 (.mv (LI 0))] (.block 2 (.loop nD))))) (.cT [LO 57 (.bin .add (LT 17) (LI 1)),LM 17 57]))))
def nK:aE:=(LS [LO 61 (.bin .lss (LT 60) (LT 59))] (.seq (.cond (LT 61) .skip (.exit 4)) (.seq (.block 5 (LS [LM 62 60,LM 10 62] (.cT [LM 63 7,LM 64 10,LO 65 (.iaddr 1 (LT 63) (LT 64)),LO 66 (LL 65),LM 67 10,LM 68 7,LM 69 10,LO 70 (.iaddr 1 (LT 68) (LT 69)),LO 71 (LL 70),LM 72 10,LO 73 (.iaddr 3 (LT 71) (LT 72)),LO 74 (LK 73),LO 75 (LK 3),LM 76 10,LQ 77 (.call 136 [(LT 75),(LT 76)]),LQ 78 (.call 69 [(LT 74),(LT 77)]),LO 79 (LK 4),LQ 80 (.call 69 [(LT 78),(LT 79)]),LO 81 (.iaddr 3 (LT 66) (LT 67)),LN (.store 3 (LT 81) (LT 80))]))) (.cT [LO 82 (.bin .add (LT 60) (LI 1)),LM 60 82]))))
def vG:aE:=(LS [LO 3 (.box (LT 0)),LO 4 (.box (LT 1)),LO 6 (.mv (.const (.slice none 0 0)))] (LS [LO 11 (LA 0 3),LO 12 (LL 11),LO 13 (.len (LT 12)),LO 14 (.call 99 [(LT 13)]),LM 7 14] (.seq (LS [LM 15 7,LO 16 (.len (LT 15)),LO 17 (.mv (LI 0))] (.block 0 (.loop nG))) (.seq (LS [LM 58 7,LO 59 (.len (LT 58)),LO 60 (.mv (LI 0))] (.block 4 (.loop nK))) (LS [LM 83 7,LM 6 83] .ret)))))
def xL:aT:=⟨84,[(.tmp 6)],vG⟩
theorem CX:fP 119=some xL:=by kernel_rfl
def oE:aE:=(LS [LO 13 (.bin .lss (LT 12) (LT 11))] (.seq (.cond (LT 13) .skip (.exit 0)) (.seq (.block 1 (LS [LM 14 12,LO 15 (.iaddr 3 (LT 10) (LT 12)),LO 16 (LK 15),LO 7 (.new [(.bool false),(.slice none 0 0),(.slice none 0 0)]),LM 6 14,LN (.store 3 (LT 7) (LT 16))] (.cT [LO 17 (LK 5),LO 18 (LK 7),LM 19 1,LM 20 6,LO 21 (.iaddr 3 (LT 19) (LT 20)),LO 22 (LK 21),LQ 23 (.call 132 [(LT 18),(LT 22)]),LQ 24 (.call 69 [(LT 17),(LT 23)]),LN (.store 3 (LT 5) (LT 24))]))) (.cT [LO 25 (.bin .add (LT 12) (LI 1)),LM 12 25]))))
def wV:aE:=(LS [LO 2 (.box (LT 0)),LO 4 (.new [(.bool false),(.slice none 0 0),(.slice none 0 0)])] (LS [LO 8 (.call 64 [(LI 0)]),LO 5 (.new [(.bool false),(.slice none 0 0),(.slice none 0 0)]),LN (.store 3 (LT 5) (LT 8))] (.seq (LS [LO 9 (LA 0 2),LO 10 (LL 9),LO 11 (.len (LT 10)),LO 12 (.mv (LI 0))] (.block 0 (.loop oE))) (LS [LO 26 (LK 5),LN (.store 3 (LT 4) (LT 26))] .ret))))
def zU:aT:=⟨27,[(.cell 4 true 3)],wV⟩
theorem D9:fP 121=some zU:=by kernel_rfl
def tO:aE:=(LS [LO 2 (.box (LT 0)),LO 3 (.new [(.bool false),(.slice none 0 0),(.slice none 0 0)])] (LS [LO 4 (LK 2),LO 5 (LL 1),LO 6 (.call 124 [(LT 4),(LT 5)]),LN (.store 3 (LT 3) (LT 6))] .ret))
def wU:aT:=⟨7,[(.cell 3 true 3)],tO⟩
theorem Cy:fP 123=some wU:=by kernel_rfl
def nF:aE:=(LS [LO 17 (.bin .lss (LT 16) (LT 15))] (.seq (.cond (LT 17) .skip (.exit 0)) (.seq (.block 1 (LS [LM 18 16,LM 7 18] (LS [LO 20 (LK 2),LQ 21 (.call 64 [(LI 0)]),LQ 22 (.call 119 [(LT 20),(LT 21),LF]),LM 23 5,LO 24 (.call 118 [(LT 22),(LT 23)]),LM 19 24,LO 25 (LX 19 0),LO 26 (LX 19 1),LM 5 25] (.cT [LO 27 (LK 6),LM 28 7,LO 29 (.bin .add (LT 28) (LI 1)),LQ 30 (.call 64 [(LT 29)]),LQ 31 (.call 132 [(LT 27),(LT 30)]),LN (.store 3 (LT 6) (LT 31))])))) (.cT [LO 32 (.bin .add (LT 16) (LI 1)),LM 16 32]))))
def vE:aE:=(LS [LO 2 (.box (LT 0)),LO 4 (.new [(.bool false),(.slice none 0 0),(.slice none 0 0)])] (LS [LQ 8 (.call 64 [(LI 1)]),LQ 9 (.lit [(.bool false),(.slice none 0 0),(.slice none 0 0)] 1 [(0,(LT 8))]),LO 10 (LA 0 2),LO 11 (LL 10),LO 12 (.len (LT 11)),LQ 13 (.call 162 [(LT 9),(LT 12)]),LM 5 13] (LS [LO 14 (.call 64 [(LI 1)]),LO 6 (.new [(.bool false),(.slice none 0 0),(.slice none 0 0)]),LN (.store 3 (LT 6) (LT 14))] (.seq (LS [LM 15 1,LO 16 (.mv (LI 0))] (.block 0 (.loop nF))) (LS [LO 33 (LK 2),LM 34 5,LQ 35 (.call 121 [(LT 33),(LT 34)]),LO 36 (LK 6),LQ 37 (.call 132 [(LT 35),(LT 36)]),LN (.store 3 (LT 4) (LT 37))] .ret)))))
def xO:aT:=⟨38,[(.cell 4 true 3)],vE⟩
theorem Di:fP 124=some xO:=by kernel_rfl
def zX:aE:=(LS [LO 2 (.box (LT 0)),LO 4 (.new [(.bool false),(.slice none 0 0),(.slice none 0 0)])] (LS [LO 5 (LA 1 2),LO 6 (LL 5),LM 7 1,LO 8 (.iaddr 1 (LT 6) (LT 7)),LO 9 (LL 8),LQ 10 (.call 70 [(LT 9)]),LO 11 (LA 2 2),LO 12 (LL 11),LM 13 1,LO 14 (.iaddr 3 (LT 12) (LT 13)),LO 15 (LK 14),LQ 16 (.call 69 [(LT 10),(LT 15)]),LN (.store 3 (LT 4) (LT 16))] .ret))
def Bs:aT:=⟨17,[(.cell 4 true 3)],zX⟩
theorem Gs:fP 136=some Bs:=by kernel_rfl
end Go.PM
namespace Go.PM
open Go.Lib
def JR {α:Type} (f:α→VV) (e:Nat) (cH:List α) (lo hi:Nat) (H:aA) (v:VV):Prop :=
 ∃b g c,lo≤b∧b<hi∧v = .ref b g 0 cH.length c∧cH.length≤c∧aG H b g=some (cH.map f,e,true)
def TabIs {α:Type} (f:α→VV) (e:Nat) (m:List (List α)) (lo hi:Nat) (H:aA) (v:VV):Prop :=
 ∃b g c rs,v = .ref b g 0 m.length c∧m.length≤c∧MG f e lo hi b g H rs∧rs.map (·.xs)=m
theorem FJ {α:Type} {f:α→VV} {lo b k e bytes:Nat} {H:aA} {xs:List α} {x:α} (h:aG H b k=some (xs.map f,e,true)) (hk:k=xs.length) (dS:lo≤b) (he:1≤e) (hb:1≤bytes) (E7:(k+1)*bytes≤140737488355328) :
 dO lo e bytes (.ref b k 0 k k) [f x] H=some (.ref b (k+1) 0 (k+1) (k+1),H.set b (.row (k+1) ((xs++[x]).map f) e true)):=jV h hk dS he hb E7
theorem JR.rd {α:Type} {f:α→VV} {e lo hi:Nat} {cH:List α} {H:aA} {v:VV} (h:JR f e cH lo hi H v):Rd f e cH H v:=by
 obtain⟨b,g,c,h1,h2,rfl,h3,h4⟩:=h
 exact Rd.row h4 rfl
theorem As {lo:Nat} {H:aA} (q:Rat) (N:Nat) (hN:N≤1000000) (dS:lo≤H.length) :
  jD 162 [.tree [aF q] (.cl 3),VI N] lo H fun r H'=>r = .ref H.length 0 0 N N∧H'=H++[.row 0 ((aLu N q).map aF) 3 true]:=by
 refine jD.walk ⟨true,false⟩ tL (aMs rfl) ?_
 have eM:=Jd N (by omega)
 have c1:IntKind.u64.wrap ((1:Nat):Int)=1:=eT 1 (by decide)
 have c2:IntKind.u64.wrap (N:Int)=(N:Int):=eT N (by omega)
 have c3:IntKind.i64.wrap (N:Int)=(N:Int):=wrap64 (by omega) (by omega)
 have g1:¬(N:Int)<0:=by omega
 have g2:¬(0:Int)<0:=by decide
 have g3:¬(9223372036854775807:Int)<(N:Int):=by omega
 have em:=fun H=>oB (H:=H) (f:=id) (x:=rz) (z:=[.bool false,.slice none 0 0,.slice none 0 0]) (bytes:=56) (n:=N) rfl (by omega) (by omega)
 have s1:cW 3 (.tree [aF q] (.cl 3)) (H++[.row 0 ((aLu N rz).map id) 3 true])=some ([aF q].map id):=eU (v:=aF q) rfl rfl
 have r1:aG (H++[.row 0 ((aLu N rz).map id) 3 true]) H.length 0=some ((aLu N rz).map id,3,true):=by rw[Ce,aU]
 have s2:=QZ (f:=id) (Y:=[aF q]) (lo:=lo) (o:=0) (d:=N) (cc:=N) (y := .tree [aF q] (.cl 3)) r1 s1 dS (by simp;omega)
 rw[Ti] at s2
 simp only[lO,kV,eM,c1,c2,c3,g1,g2,g3,em,s2,dR,VX,Nat.reduceEqDiff,Nat.reduceAdd,Nat.reduceLeDiff,Nat.reduceLT,Nat.reduceSub]
 refine aP (fun(i:Nat) ρ H1=>i≤N∧(i=0→N=0)∧H1=H++[.row 0 ((aLu i (aF q)++aLu (N-i) rz).map id) 3 true]∧ρ 7 = .ref H.length 0 0 N N∧ρ 8=VI i) (fun i=>N-i) (min 1 N) ?_ ?_
 refine⟨by omega,by omega,?_,rfl,?_⟩
 ·congr 2
  cases N with
  | zero=>rfl
  |
   succ N =>
   have:min 1 (N+1)=1:=by omega
   rw[this]
   simp[aLO]
 ·cases N with
  | zero=>rfl
  |
   succ N =>
   have:min 1 (N+1)=1:=by omega
   simp only[this,dR,VX,Nat.reduceEqDiff,Nat.reduceAdd,Nat.reduceLeDiff,Nat.reduceLT,Nat.reduceSub]
   try simp
 rintro i ρ H1 ⟨hi,h0,rfl,h7,h8⟩
 have hr:aG (H++[.row 0 ((aLu i (aF q)++aLu (N-i) rz).map id) 3 true]) H.length 0=some ((aLu i (aF q)++aLu (N-i) rz).map id,3,true):=by rw[Ce,aU]
 have el:=eI (o:=0) (n:=N) (c:=N) hr
 by_cases bW:(i:Int)<(N:Int)
 ·have hXl:(aLu i (aF q)++aLu (N-i) rz).length=N:=by simp;omega
  have EM:∀X:List VV,X=aLu i (aF q)++aLu (N-i) rz→(((X.map id).drop 0).take i).all (fun x=>(aB x).all bP)=true:=by
   rintro X rfl
   rw[aN5,List.drop_zero,aNf (by simp),aLx (by simp),List.all_eq_true]
   intro x hx
   rw[List.eq_of_mem_replicate hx]
   rfl
  have q1:=Qg (o:=0) (n:=N) (c:=N) (l:=i) (k1 := .i64) hr hi (aKE _)
  have q2:=rM (o:=0) (n:=N) (c:=N) (h:=i) (k2 := .i64) hr hi
  have hY:((aLu i (aF q)++aLu (N-i) rz).drop 0).take i=aLu i (aF q):=by
   rw[List.drop_zero,aNf (by simp),aLx (by simp)]
  have q3:cW 3 (.ref H.length 0 0 i N) (H++[.row 0 ((aLu i (aF q)++aLu (N-i) rz).map id) 3 true])=some ((aLu i (aF q)).map id):=by
   have hs:=EM _ rfl
   simp only[cW,hr]
   rw[if_pos ⟨trivial,by rw[aMl,hXl];omega,hs⟩,aN5,aN5,hY]
  have hYd:(aLu i (aF q)).take (N-i)=aLu (min (N-i) i) (aF q):=List.take_replicate
  have q4:=QZ (f:=id) (lo:=lo) (o:=i) (d:=N-i) (cc:=N-i) hr q3 dS (by rw[hYd,hXl];simp;omega)
  rw[Ti,hYd,aMt,aNf (by simp),aLx (by simp)] at q4
  have hX':aLu i (aF q)++aLu (min (N-i) i) (aF q)++(aLu i (aF q)++aLu (N-i) rz).drop (i+min (N-i) i)=aLu (i+min (N-i) i) (aF q)++aLu (N-(i+min (N-i) i)) rz:=by
   rw[List.replicate_append_replicate,List.drop_append,List.drop_of_length_le (by simp),List.nil_append,aMt,List.drop_replicate]
   congr 2
   omega
  rw[hX'] at q4
  have wi:IntKind.i64.wrap ((i:Int)+((min (N-i) i:Nat):Int))=((i+min (N-i) i:Nat):Int):=wrapN _ (by omega) (by omega)
  simp only[fI,h7,h8,el,bW,q1,q2,q3,q4,wi,dR,VX,Nat.reduceEqDiff,Nat.reduceAdd,Nat.reduceLeDiff,Nat.reduceLT,Nat.reduceSub]
  exact⟨i+min (N-i) i,by omega,by omega,by omega,by (repeat' apply aMk)<;>first | rfl | trivial | assumption⟩
 ·have mH:i=N:=by omega
  subst mH
  simp only[fI,h7,h8,el,bW,dR,VX,Nat.reduceEqDiff,Nat.reduceAdd,Nat.reduceLeDiff,Nat.reduceLT,Nat.reduceSub]
  rw[aKX,aN6,aLM,aN5,List.map_replicate]
theorem Xc (a n:Nat):((aKA n).map fun k=>a+k).Nodup:=List.pairwise_map.2 (List.nodup_range.imp fun h=>by omega)
theorem SI {lo:Nat} {H:aA} (N:Nat) (hN:N≤1000) (dS:lo≤H.length) :
  jD 99 [VI N] lo H (Sa (TabIs aF 3 (aLu N (aLu N (0:Rat)))) H):=by
 refine jD.walk ⟨true,false⟩ S9 (aMs rfl) ?_
 have em:=fun H=>oB (H:=H) (f:=id) (x := .tree [] .nil) (z:=[.slice none 0 0]) (bytes:=24) (n:=N) rfl (by omega) (by omega)
 have el0:=eI (H:=H++[.row 0 ((aLu N (VV.tree [] .nil)).map id) 1 true]) (b:=H.length) (g:=0) (o:=0) (n:=N) (c:=N) lG
 simp only[OM,JH,em,el0,aKO,aMh,aMc,dR,VX,Nat.reduceEqDiff,Nat.reduceAdd,Nat.reduceLeDiff,Nat.reduceLT,Nat.reduceSub]
 refine aP (fun(i:Nat) ρ H1=>i≤N∧H1=H ++ .row 0 (((aKA i).map fun k=>VV.ref (H.length+1+k) 0 0 N N)++aLu (N-i) (VV.tree [] TK.nil)) 1 true::aLu i (.row 0 ((aLu N (0:Rat)).map aF) 3 true)∧ρ 0=VI N∧ρ 3 = .ref H.length 0 0 N N∧ρ 8=VI N∧ρ 9=VI i) (fun i=>N-i) 0 ⟨aK8 _,by simp,rfl,rfl,rfl,rfl⟩ ?_
 rintro i ρ H1 ⟨hi,rfl,g0,g3,g8,g9⟩
 have e1:TC 64 [VI 0] (aF 0):=nB 0 (by decide) (by decide)
 have eL:∀H,mV false [.bool false,.slice none 0 0,.slice none 0 0] 1 [(0,aF 0)] H=some (.tree [aF 0] (.cl 3),H):=fun H=>iU rfl rfl rfl
 by_cases bW:(i:Int)<(N:Int)
 ·have wi:IntKind.i64.wrap ((i:Int)+1)=((i+1:Nat):Int):=wrapN (i+1) (by omega) (by omega)
  simp only[CC,g0,g3,g8,g9,bW,e1,eL,dR,VX,Nat.reduceEqDiff,Nat.reduceAdd,Nat.reduceLeDiff,Nat.reduceLT,Nat.reduceSub]
  refine fU rfl ((As 0 N (by omega) (by rw[aKP];omega)).mono ?_)
  rintro r H' ⟨rfl,rfl⟩
  have hl:(H++fO.row 0 (((aKA i).map fun k=>VV.ref (H.length+1+k) 0 0 N N)++aLu (N-i) (VV.tree [] TK.nil)) 1 true::aLu i (.row 0 ((aLu N (0:Rat)).map aF) 3 true)).length=H.length+1+i:=by simp;omega
  rw[hl,List.append_assoc,List.cons_append]
  have hr:aG (H++fO.row 0 (((aKA i).map fun k=>VV.ref (H.length+1+k) 0 0 N N)++aLu (N-i) (VV.tree [] TK.nil)) 1 true::(aLu i (.row 0 ((aLu N (0:Rat)).map aF) 3 true)++[.row 0 ((aLu N (0:Rat)).map aF) 3 true])) H.length 0=some ((((aKA i).map fun k=>VV.ref (H.length+1+k) 0 0 N N)++aLu (N-i) (VV.tree [] TK.nil)),1,true):=by rw[Ce,aU]
  have a1:=bB (o:=0) (n:=N) (c:=N) (i:=i) (k := .i64) hr (by omega)
  have a2:=bS (lo:=lo) (v := .ref (H.length+1+i) 0 0 N N) (j:=i) hr (by simp;omega) dS rfl rfl
  rw[Ti,aMi] at a2
  have hs:(((aKA i).map fun k=>VV.ref (H.length+1+k) 0 0 N N)++aLu (N-i) (VV.tree [] TK.nil)).set i (.ref (H.length+1+i) 0 0 N N)=((aKA (i+1)).map fun k=>VV.ref (H.length+1+k) 0 0 N N)++aLu (N-(i+1)) (VV.tree [] TK.nil):=by
   obtain⟨m,hm⟩:∃m,N-i=m+1:=⟨N-i-1,by omega⟩
   have hm':N-(i+1)=m:=by omega
   rw[List.set_append_right _ _ (by simp),hm,hm',aMl,List.length_range,aKX,aLO,aMi,aNZ,aM1,List.append_assoc]
   rfl
  rw[hs] at a2
  rw[aMc] at a1
  simp only[a1,a2,wi,g9,dR,VX,Nat.reduceEqDiff,Nat.reduceAdd,Nat.reduceLeDiff,Nat.reduceLT,Nat.reduceSub]
  exact⟨i+1,by omega,by omega,by rw[List.replicate_succ'],by (repeat' apply aMk)<;>first | rfl | trivial | assumption⟩
 ·have mH:i=N:=by omega
  subst mH
  simp only[CC,g3,g8,g9,bW,dR,VX,Nat.reduceEqDiff,Nat.reduceAdd,Nat.reduceLeDiff,Nat.reduceLT,Nat.reduceSub]
  refine⟨aMy _ _,H.length,0,i,(aKA i).map fun k=>⟨H.length+1+k,0,i,aLu i 0⟩,by rw[aMt],by rw[aMt];exact aKE _,⟨?_,aKE _,by simp,?_,?_⟩,?_⟩
  ·rw[Ce,aU,aKX,aN6,aLM,aN7]
   simp[tU,Function.comp_def]
  ·rw[aN7]
   exact Xc (H.length+1) i
  ·intro r hr
   obtain⟨k,hk,rfl⟩:=aMf.1 hr
   rw[aLf] at hk
   refine⟨by simp only;omega,by simp;omega,by simp only;omega,by simp,?_⟩
   have:H.length+1+k=H.length+(k+1):=by omega
   simp only[this]
   rw[Nr,eO,cB,aN3,if_pos hk]
  ·rw[aN7]
   apply aN8
   intro k
   rw[aN9,aN3]
   by_cases hk:k<i
   ·simp[hk,List.getElem?_range]
   ·simp[hk]
end Go.PM
namespace Go.PM
def Om (s:vJ) (left:Int):Int:=if HZ s.b left<0 then -1 else if FX s.g (HZ s.b left)<0 then -1 else if HZ s.e (FX s.g (HZ s.b left))<0 then -1 else HZ s.e (FX s.g (HZ s.b left))
theorem aqO {s:vJ} {l:Int} (h:0≤Om s l):Om s l≤l∧(s.b.length:Int)≤l∧(s.g.length:Int)≤l∧(∀x∈s.g,(x.length:Int)≤l)∧(s.e.length:Int)≤l:=by
 unfold Om at h ⊢
 split at h
 ·omega
 rename_i h0
 split at h
 ·omega
 rename_i h1
 split at h
 ·omega
 rename_i h2
 rw[if_neg h0,if_neg h1,if_neg h2]
 have b0:=Ia (xs:=s.b) (l:=l) (by omega)
 have b1:=Tk (xs:=s.g) (l:=HZ s.b l) (by omega)
 have b2:=Ia (xs:=s.e) (l:=FX s.g (HZ s.b l)) (by omega)
 exact⟨by omega,b0.2.1,by omega,fun x hx=>by have:=(b1.2.2 x hx).1;omega,by omega⟩
theorem Y6 {lo:Nat} {s:vJ} {bare:Bool} {H:aA} {K:VV→aA→Prop} (hb:s.b.length≤1000000000) (hg:s.g.length≤1000000000∧∀x∈s.g,x.length≤1000000000) (he:s.e.length≤1000000000)
  (hk:∀c H',H <+: H'→vY H.length H' bare s c→K c H'):dH 46 [vU s,.sc (.bool bare)] lo H K:=by
 refine(KT s bare hb hg he).call rfl (mapM_pure (n:=7) (by simp only[aO,rE,Bool.true_and];rfl)) ?_
 intro r L h
 exact hk r _ (aMy _ _) (h.dB fun b g x hb h=>K4 (Nat.le_of_lt hb) h)
theorem aDB {n lo:Nat} {s:vJ} {bare:Bool} {H:aA} {c:VV} (hc:vY n H bare s c) (dS:lo≤H.length):bL lo 3 (.ptr H.length 0 0 0) c (H++[.row 0 [.agg [.tree [] .nil,.tree [] .nil,.tree [] .nil]] 3 true])=some (H++[.row 0 [c] 3 true]):=by
 obtain⟨c0,c1,c2,rfl,h0,h1,h2⟩:=hc
 rw[bS (e:=3) (g:=0) (lo:=lo) (v := .agg [c0,c1,c2]) (j:=0) lG (by decide) dS rfl (by simp[aB,h0.cell.2.1,h1.cell.2,h2.cell.2.1]),Ps]
 rfl
theorem ld3 {n b:Nat} {s:vJ} {bare:Bool} {H H':aA} {c:VV} (hc:vY n H bare s c) (h:aG H' b 0=some ([c],3,true)):bF true 3 (.ptr b 0 0 0) H'=some c:=by
 obtain⟨c0,c1,c2,rfl,_⟩:=hc
 rw[bK,h]
 rfl
theorem nE {s:vJ}:dQ true 3 (vU s) 0=some (vU s):=rfl
theorem jL {s:vJ}:(aB (vU s)).all bP=true:=rfl
structure Sx (s:vJ):Prop where
 b4:s.b.length≤400000000
 e4:s.e.length≤400000000
 g4:s.g.length≤400000000∧∀x∈s.g,x.length≤400000000
 bs:∀x∈s.b,x.size≤1000000000
 es:∀x∈s.e,x.size≤1000000000
 gs:∀x∈s.g,∀y∈x,y.size≤1000000000
theorem Sx.g9 {s:vJ} (h:Sx s):s.g.length≤1000000000∧∀x∈s.g,x.length≤1000000000:=⟨by have:=h.g4.1;omega,fun x hx=>by have:=h.g4.2 x hx;omega⟩
theorem aqI {s:vJ} {l:Int} (h:Om s l<0):Om s l = -1:=by
 unfold Om at h ⊢
 split
 ·rfl
 rename_i h0
 rw[if_neg h0] at h
 split
 ·rfl
 rename_i h1
 rw[if_neg h1] at h
 split
 ·rfl
 rename_i h2
 rw[if_neg h2] at h
 omega
theorem atE {s:vJ} {l:Int} (h:0≤Om s l) (hl:l≤1000000):Om s l≤l∧Sx s:=by
 have hle:=aqO h
 unfold Om at h
 split at h
 ·omega
 rename_i h0
 split at h
 ·omega
 rename_i h1
 split at h
 ·omega
 rename_i h2
 have b0:=Ia (xs:=s.b) (l:=l) (by omega)
 have b1:=Tk (xs:=s.g) (l:=HZ s.b l) (by omega)
 have b2:=Ia (xs:=s.e) (l:=FX s.g (HZ s.b l)) (by omega)
 exact⟨hle.1,by omega,by omega,⟨by omega,fun x hx=>by have:=(b1.2.2 x hx).1;omega⟩,fun x hx=>by have:=b0.2.2 x hx;omega,fun x hx=>by have:=b2.2.2 x hx;omega,fun x hx y hy=>by have:=(b1.2.2 x hx).2 y hy;omega⟩
end Go.PM
namespace Go.PM
def IK {β:Type} (xs:List (List β)):Nat:=(xs.map aNO).sum
section
variable {β:Type}
end
def svN (s:vJ):Nat:=s.b.length+IK s.g+s.e.length
theorem W4.cell {α:Type} {f:α→VV} {e lo hi:Nat} {H:aA} {v:VV} {cH:List α} (h:W4 f e cH lo hi H v):bP v=true:=by
 rcases h with⟨rfl,rfl⟩ | ⟨b,g,c,h1,h2,rfl,h3⟩<;>rfl
theorem RG.cell {α:Type} {f:α→VV} {e lo hi:Nat} {H:aA} {v:VV} {cH:List (List α)} (h:RG f e cH lo hi H v):bP v=true:=by
 rcases h with⟨rfl,rfl⟩ | ⟨b,g,c,rs,h1,h2,rfl,h3⟩<;>rfl
end Go.PM
namespace Go.PM
open Go.Lib
section
variable {α:Type} {f:α→VV} {e:Nat}
def Wc (f:α→VV) (e:Nat) (cH:List (List α)) (lo hi:Nat) (H:aA) (v:VV):Prop :=
 (v = .tree [] .nil∧cH=[])∨∃b g rs,lo≤b∧b<hi∧v = .ref b g 0 cH.length cH.length∧aG H b g=some (rs.map tU,1,true)∧rs.map (·.xs)=cH∧Y0 f e lo hi b H rs
theorem Wc.rg {cH:List (List α)} {lo hi:Nat} {H:aA} {v:VV} (h:Wc f e cH lo hi H v):RG f e cH lo hi H v:=by
 rcases h with h | ⟨b,g,rs,h1,h2,h3,h5,h6,h7⟩
 ·exact .inl h
 ·exact .inr ⟨b,g,_,rs,h1,h2,h3,aKE _,h5,h6,h7⟩
theorem Wc.dB {cH:List (List α)} {lo hi:Nat} {H H':aA} {v:VV} (h:Wc f e cH lo hi H v) (hk:jQ lo hi H H'):Wc f e cH lo hi H' v:=by
 rcases h with h | ⟨b,g,rs,h1,h2,h3,h5,h6,h7⟩
 ·exact .inl h
 ·exact .inr ⟨b,g,rs,h1,h2,h3,hk _ _ _ h1 h2 h5,h6,h7.nd,fun r hr=>by
   obtain⟨k1,k2,k3,k4,k5⟩:=h7.row r hr
   exact⟨k1,k2,k3,k4,hk _ _ _ k1 k2 k5⟩⟩
theorem Wc.wide {cH:List (List α)} {lo hi fW qQ:Nat} {H:aA} {v:VV} (h:Wc f e cH lo hi H v) (hl:fW≤lo) (hh:hi≤qQ):Wc f e cH fW qQ H v:=by
 rcases h with h | ⟨b,g,rs,h1,h2,h3,h5,h6,h7⟩
 ·exact .inl h
 ·exact .inr ⟨b,g,rs,by omega,by omega,h3,h5,h6,h7.nd,fun r hr=>by
   obtain⟨k1,k2,k3,k4,k5⟩:=h7.row r hr
   exact⟨by omega,by omega,k3,k4,k5⟩⟩
theorem Wc.iQ {cH:List (List α)} {lo hi:Nat} {H:aA} {v:VV} (h:Wc f e cH lo hi H v):bP v=true∧aB v=[v]∧isAny v=false:=by
 rcases h with⟨rfl,rfl⟩ | ⟨b,g,rs,h1,h2,rfl,h3⟩<;>exact⟨rfl,rfl,rfl⟩
theorem Wc.azZ {cH:List (List α)} {lo hi:Nat} {H:aA} {v:VV} (h:Wc f e cH lo hi H v):sE v H=some (VI cH.length):=by
 rcases h with⟨rfl,rfl⟩ | ⟨b,g,rs,h1,h2,rfl,h5,h6,h7⟩
 ·rfl
 ·exact eI h5
theorem Wc.snoc {cH:List (List α)} {lo fW hi:Nat} {H:aA} {v:VV} (h:Wc f e cH lo hi H v) (dS:fW≤lo) (hn:cH.length≤1000000000) (r:CE α) (hhi:hi≤r.b) (BZ:lo≤r.b) (hc:r.xs.length≤r.c) (hr:aG H r.b r.g=some (r.xs.map f,e,true)) :
  ∃v' H3,dO fW 1 24 v [.ref r.b r.g 0 r.xs.length r.c] H=some (v',H3)∧Wc f e (cH++[r.xs]) lo H3.length H3 v'∧(∀b' g' x,b'<lo→aG H b' g'=some x→aG H3 b' g'=some x)∧H.length≤H3.length ∧
   (∀n,n≤lo→DI n H→DI n H3)∧(∀H0:aA,H0.length≤lo→H0 <+: H→H0 <+: H3)∧(∀b' g' x,aG H b' g'=some x→(∀g0 n0 c0,v ≠ .ref b' g0 0 n0 c0)→aG H3 b' g'=some x):=by
 have hb:=iS hr
 rcases h with⟨rfl,rfl⟩ | ⟨b,g,rs,h1,h2,rfl,h5,h6,h7⟩
 ·refine⟨.ref H.length 0 0 1 1,H++[.row 0 [tU r] 1 true],by simp[dO,tU],.inr ⟨H.length,0,[r],by omega,by simp,rfl,lG,rfl,by simp,fun s hs => ?_⟩,fun _ _ _ _ h=>eV h,by simp,fun n hn hO=>hO.app (by simp[AF,jW,tU];omega),fun H0 _ hp=>F1 hp,fun _ _ _ h _=>eV h⟩
  rw[aLK] at hs
  subst hs
  exact⟨BZ,by simp;omega,by omega,hc,eV hr⟩
 ·subst h6
  rw[aMl] at hn ⊢
  have xI:=jV (f:=tU) (xs:=rs) (x:=r) (lo:=fW) (bytes:=24) h5 rfl (by omega) (by decide) (by decide) (by omega)
  refine⟨_,_,xI,.inr ⟨b,g+1,rs++[r],h1,by rw[aMC];exact iS h5,by simp,bQ h5,by simp,?_,fun s hs => ?_⟩,fun b' g' x xM h=>aX (by omega) h,by simp,fun n hn hO=>hO.set (by omega) ?_,fun H0 hl hp=>lX hp (by omega),fun b' g' x h gF=>aX (fun he=>gF g _ _ (by rw[he])) h⟩
  ·rw[aM1,List.nodup_append]
   refine⟨h7.nd,by simp,fun a ha c hc' => ?_⟩
   obtain⟨s,hs,rfl⟩:=aMf.1 ha
   have:=h7.row s hs
   simp only[List.map_cons,List.map_nil,aLK] at hc'
   omega
  ·rcases aLA.1 hs with hs | hs
   ·obtain⟨k1,k2,k3,k4,k5⟩:=h7.row s hs
    exact⟨k1,by rw[aMC];exact iS k5,k3,k4,aX (by omega) k5⟩
   ·rw[aLK] at hs
    subst hs
    exact⟨BZ,by rw[aMC];exact hb,by omega,hc,aX (by omega) hr⟩
  ·rw[zZ]
   intro x hx
   obtain⟨s,hs,rfl⟩:=aMf.1 hx
   rcases aLA.1 hs with hs | hs
   ·have:=h7.row s hs
    simp[tU,jW];omega
   ·rw[aLK] at hs
    subst hs
    simp[tU,jW];omega
end
def LsO {α:Type} (f:α→VV) (e:Nat) (o:Option (List α)) (lo hi:Nat) (H:aA) (v:VV):Prop:=match o with
 | none=>v = .tree [] .nil
 | some ys=>JR f e ys lo hi H v
theorem JR.dB {α:Type} {f:α→VV} {e:Nat} {ys:List α}:∀ {lo hi H H' v},JR f e ys lo hi H v→jQ lo hi H H'→JR f e ys lo hi H' v:=by
 rintro lo hi H H' v ⟨b,g,c,h1,h2,h3,h4,h5⟩ hk
 exact⟨b,g,c,h1,h2,h3,h4,hk _ _ _ h1 h2 h5⟩
theorem LsO.dB {α:Type} {f:α→VV} {e:Nat} {o:Option (List α)}:∀ {lo hi H H' v},LsO f e o lo hi H v→jQ lo hi H H'→LsO f e o lo hi H' v:=by
 intro lo hi H H' v h hk
 cases o with
 | none=>exact h
 | some ys=>exact JR.dB h hk
end Go.PM
namespace Go.PM
open Go.Lib
def orJ (row:List Rat) (i:Nat) (st:List Bool) (j:Nat):List Bool:=st.set i (st.getD i false||(decide (0<row.getD j 0)&&st.getD j false))
def QW (row:List Rat) (i:Nat) (st:List Bool) (m:Nat):List Bool:=(aKA m).foldl (orJ row i) st
def MH (g:List (List Rat)) (e:List Rat) (n:Nat) (st:List Bool) (i:Nat):List Bool:=QW (g.getD i []) i (st.set i (st.getD i false||decide (0<e.getD i 0))) n
def mJ (g:List (List Rat)) (e:List Rat) (n:Nat) (st:List Bool) (m:Nat):List Bool:=(aKA m).foldl (MH g e n) st
def qJ (g:List (List Rat)) (e:List Rat) (n m:Nat):List Bool:=(aKA m).foldl (fun st _=>mJ g e n st n) (aLu n false)
theorem sB {α:Type} {f:α→Nat→α} {s:α} {j:Nat}:(aKA (j+1)).foldl f s=f ((aKA j).foldl f s) j:=by rw[aNZ,aNP];rfl
theorem Jc {f:List Bool→Nat→List Bool} (hf:∀st j,(f st j).length=st.length) {st:List Bool}:∀m,((aKA m).foldl f st).length=st.length
 | 0=>rfl
 | m+1=>by rw[sB,hf,Jc hf m]
theorem arB (row:List Rat) (i:Nat) (st:List Bool) (j:Nat):(orJ row i st j).length=st.length:=aMC ..
theorem Su (row:List Rat) (i:Nat) (st:List Bool) (m:Nat):(QW row i st m).length=st.length:=Jc (arB row i) m
theorem adH (g:List (List Rat)) (e:List Rat) (n:Nat) (st:List Bool) (i:Nat):(MH g e n st i).length=st.length:=by rw[MH,Su,aMC]
theorem H8 (g:List (List Rat)) (e:List Rat) (n:Nat) (st:List Bool) (m:Nat):(mJ g e n st m).length=st.length:=Jc (adH g e n) m
theorem DS (g:List (List Rat)) (e:List Rat) (n m:Nat):(qJ g e n m).length=n:=by
 rw[qJ,Jc (fun st _=>H8 g e n st n),aMt]
abbrev tP (st:List Bool):fO := .row 0 (st.map fun b=>VB b) 1 true
theorem yD {st:List Bool} {i n:Nat} (hi:i<n) (K:aA):bJ 1 (.ref 0 0 0 n n) (VI i) (tP st::K)=some (.ptr 0 0 i 0):=by
 have:=bB (b:=0) (g:=0) (o:=0) (n:=n) (c:=n) (k := .i64) (i:=i) (H:=tP st::K) aU hi
 rwa [aMc] at this
theorem xP {st:List Bool} {i:Nat} (hi:i<st.length) (K:aA):bF false 1 (.ptr 0 0 i 0) (tP st::K)=some (VB (st.getD i false)):=by
 have hx:st[i]? = some st[i]:=aKL hi
 rw[qB (f:=fun b=>VB b) aU hx,aKB,hx]
 rfl
theorem DQ {st:List Bool} {i:Nat} (hi:i<st.length) (v:Bool) (K:aA):bL 0 1 (.ptr 0 0 i 0) (VB v) (tP st::K)=some (tP (st.set i v)::K):=by
 rw[dP (f:=fun b=>VB b) (e:=1) (x:=v) aU hi (aK8 _) rfl rfl,aMi]
theorem Ix {R:fO} {q:Rat}:bL 0 3 (.ptr 1 0 0 0) (aF q) [R,cell0]=some [R,.row 0 [aF q] 3 true]:=by simp only[aK,cM,bH,aZ,bA,aS,gG,Nat.reduceLeDiff,Nat.reduceLT,Nat.reduceSub,dR,VX,Nat.reduceEqDiff,Nat.reduceAdd,Nat.reduceLeDiff,Nat.reduceLT,Nat.reduceSub]
theorem Ry {R:fO} {q:Rat}:bF true 3 (.ptr 1 0 0 0) [R,.row 0 [aF q] 3 true]=some (aF q):=by simp only[aK,cM,bH,aZ,bA,aS,gG,Nat.reduceLeDiff,Nat.reduceLT,Nat.reduceSub,dR,VX,Nat.reduceEqDiff,Nat.reduceAdd,Nat.reduceLeDiff,Nat.reduceLT,Nat.reduceSub]
section
variable {g:List (List Rat)} {e row:List Rat} {n i:Nat} {st:List Bool}
set_option maxHeartbeats 2000000 in
theorem YI (hn:n≤1000000) (hi:i<n) (vL:st.length=n) (mA:row.length=n) {r:Int} {ρ:cV} {Q:VQ} (g0:ρ 0=aC (aC aF) g) (g1:ρ 1=aC aF e) (g5:ρ 5 = .ref 0 0 0 n n) (g6:ρ 6=VI i) (g13:ρ 13=VI n) (g14:ρ 14=VI r) (g17:ρ 17=VI n) (g18:ρ 18=VI i) (g39:ρ 39=aC aF row) (g40:ρ 40=VI n) (g41:ρ 41=VI 0)
  (hQ:∀aQ,aQ 0=aC (aC aF) g→aQ 1=aC aF e→aQ 5 = .ref 0 0 0 n n→aQ 13=VI n→aQ 14=VI r→aQ 17=VI n→aQ 18=VI i→Q .normal aQ [tP (QW row i st n)]) :
  VW ⟨true,false⟩ 0 (.loop nJ) (tH 4 Q) ρ [tP st]:=by
 refine O7 (fun(j:Nat) aQ H=>j≤n∧H=[tP (QW row i st j)]∧aQ 0=aC (aC aF) g∧aQ 1=aC aF e∧aQ 5 = .ref 0 0 0 n n∧aQ 6=VI i∧aQ 13=VI n∧aQ 14=VI r∧aQ 17=VI n∧aQ 18=VI i∧aQ 39=aC aF row∧aQ 40=VI n∧aQ 41=VI j) (fun j=>n-j) 0 ⟨aK8 _,rfl,g0,g1,g5,g6,g13,g14,g17,g18,g39,g40,g41⟩ ?_
 clear g0 g1 g5 g6 g13 g14 g17 g18 g39 g40 g41
 rintro j aQ H ⟨hj,rfl,g0,g1,g5,g6,g13,g14,g17,g18,g39,g40,g41⟩
 have hl:(QW row i st j).length=n:=by rw[Su,vL]
 have Cf:QW row i st (j+1)=orJ row i (QW row i st j) j:=sB
 generalize hs:QW row i st j=s at *
 by_cases bW:(j:Int)<(n:Int)
 ·have Eo:j<n:=by omega
  obtain⟨q,hq⟩:∃q,row[j]? = some q:=⟨_,aKL (by omega)⟩
  have e1:=fun H=>aH (f:=aF) (t := .op) (H:=H) (size:=3) (k := .i64) hq rfl
  have wi:IntKind.i64.wrap ((j:Int)+1)=((j+1:Nat):Int):=wrapN (j+1) (by omega) (by omega)
  have e2:=dI q
  have a1:=fun K=>yD (st:=s) (n:=n) hi K
  have a2:=fun K=>xP (st:=s) (i:=i) (by omega) K
  have a3:=fun K=>yD (st:=s) (n:=n) Eo K
  have a4:=fun K=>xP (st:=s) (i:=j) (by omega) K
  have a5:=fun v K=>DQ (st:=s) (i:=i) (by omega) v K
  have pY:∀v:Bool,v=(s.getD i false||(decide (0<q)&&s.getD j false))→QW row i st (j+1)=s.set i v:=by
   intro v hv
   rw[Cf,orJ,hv,aKB (l:=row),hq,aNS]
  have post:∀(v:Bool) (tK:cV),v=(s.getD i false||(decide (0<q)&&s.getD j false))→tK 0=aC (aC aF) g→tK 1=aC aF e→tK 5 = .ref 0 0 0 n n→tK 6=VI i→tK 13=VI n→tK 14=VI r→tK 17=VI n→tK 18=VI i→tK 39=aC aF row→tK 40=VI n→tK 41=VI ((j+1:Nat):Int) →
    ∃s',n-s'<n-j∧nZ 1 [tP (s.set i v)]=true∧s'≤n∧[tP (s.set i v)]=[tP (QW row i st s')]∧sF 1 tK 0=aC (aC aF) g∧sF 1 tK 1=aC aF e∧sF 1 tK 5 = .ref 0 0 0 n n∧sF 1 tK 6=VI i∧sF 1 tK 13=VI n∧sF 1 tK 14=VI r∧sF 1 tK 17=VI n∧sF 1 tK 18=VI i∧sF 1 tK 39=aC aF row∧sF 1 tK 40=VI n∧sF 1 tK 41=VI s':=by
   intro v tK hv k0 k1 k5 k6 B0 C3 IE W2 k39 k40 k41
   refine⟨j+1,by omega,by rw[DK (oR _ (fN fun _=>rfl)),Km],by omega,by rw[pY v hv],?_⟩
   simp only[BG,k0,k1,k5,k6,B0,C3,IE,W2,k39,k40,k41,C4 (Jq _),C4 (gO _),Py,Kl (Nat.lt_succ_self 0),and_self]
  cases Xh:s.getD i false with
  |
   true =>
   rw[Xh] at a2 post
   simp only[nJ,g5,g6,g39,g40,g41,bW,e1,wi,a1,a2,a5,Ix,bH,VX,Nat.reduceEqDiff,Nat.reduceAdd,uP,sI,aKO,aMh]
   refine post true _ (by simp) ?_ ?_ ?_ ?_ ?_ ?_ ?_ ?_ ?_ ?_ ?_
   all_goals first | exact g0 | exact g1 | exact g5 | exact g6 | exact g13 | exact g14 | exact g17 | exact g18 | exact g39 | exact g40 | rfl
  |
   false =>
   rw[Xh] at a2 post
   by_cases hp:0<jI q
   ·have BY:0<q:=GR.1 hp
    simp only[nJ,g5,g6,g39,g40,g41,bW,e1,e2,wi,a1,a2,a3,a4,a5,hp,Ix,Ry,bH,VX,Nat.reduceEqDiff,Nat.reduceAdd,uP,sI,aKO,aMh]
    refine post (s.getD j false) _ (by simp[BY]) ?_ ?_ ?_ ?_ ?_ ?_ ?_ ?_ ?_ ?_ ?_
    all_goals first | exact g0 | exact g1 | exact g5 | exact g6 | exact g13 | exact g14 | exact g17 | exact g18 | exact g39 | exact g40 | rfl
   ·have BY:¬0<q:=mt GR.2 hp
    simp only[nJ,g5,g6,g39,g40,g41,bW,e1,e2,wi,a1,a2,a5,hp,Ix,Ry,bH,VX,Nat.reduceEqDiff,Nat.reduceAdd,uP,sI,aKO,aMh]
    refine post false _ (by simp[BY]) ?_ ?_ ?_ ?_ ?_ ?_ ?_ ?_ ?_ ?_ ?_
    all_goals first | exact g0 | exact g1 | exact g5 | exact g6 | exact g13 | exact g14 | exact g17 | exact g18 | exact g39 | exact g40 | rfl
 ·have Tw:j=n:=by omega
  subst Tw
  subst hs
  simp only[nJ,g40,g41,bW,dR,VX,Nat.reduceEqDiff,Nat.reduceAdd,Nat.reduceLeDiff,Nat.reduceLT,Nat.reduceSub]
  refine hQ _ ?_ ?_ ?_ ?_ ?_ ?_ ?_<;>first | exact g0 | exact g1 | exact g5 | exact g13 | exact g14 | exact g17 | exact g18 | rfl
set_option maxHeartbeats 2000000 in
theorem Yl (hn:n≤1000000) (vL:st.length=n) (hg:g.length=n) (W9:∀w∈g,w.length=n) (he:e.length=n) {r:Int} {ρ:cV} {Q:VQ} (g0:ρ 0=aC (aC aF) g) (g1:ρ 1=aC aF e) (g5:ρ 5 = .ref 0 0 0 n n) (g13:ρ 13=VI n) (g14:ρ 14=VI r) (g17:ρ 17=VI n) (g18:ρ 18=VI 0)
  (hQ:∀aQ,aQ 0=aC (aC aF) g→aQ 1=aC aF e→aQ 5 = .ref 0 0 0 n n→aQ 13=VI n→aQ 14=VI r→Q .normal aQ [tP (mJ g e n st n)]) :
  VW ⟨true,false⟩ 0 (.loop qD) (tH 2 Q) ρ [tP st]:=by
 refine aP (fun(i:Nat) aQ H=>i≤n∧H=[tP (mJ g e n st i)]∧aQ 0=aC (aC aF) g∧aQ 1=aC aF e∧aQ 5 = .ref 0 0 0 n n∧aQ 13=VI n∧aQ 14=VI r∧aQ 17=VI n∧aQ 18=VI i) (fun i=>n-i) 0 ⟨aK8 _,rfl,g0,g1,g5,g13,g14,g17,g18⟩ ?_
 clear g0 g1 g5 g13 g14 g17 g18
 rintro i aQ H ⟨hi,rfl,g0,g1,g5,g13,g14,g17,g18⟩
 have hl:(mJ g e n st i).length=n:=by rw[H8,vL]
 have Cf:mJ g e n st (i+1)=MH g e n (mJ g e n st i) i:=sB
 generalize hs:mJ g e n st i=s at *
 by_cases bW:(i:Int)<(n:Int)
 ·have Eo:i<n:=by omega
  obtain⟨q,hq⟩:∃q,e[i]? = some q:=⟨_,aKL (by omega)⟩
  obtain⟨row,hr⟩:∃row,g[i]? = some row:=⟨_,aKL (by omega)⟩
  have BZ:=W9 row (aLy hr)
  have e1:=fun H=>aH (f:=aF) (t := .op) (H:=H) (size:=3) (k := .i64) hq rfl
  have e3:=fun H=>aH (f:=aC aF) (t := .op) (H:=H) (size:=1) (k := .i64) hr rfl
  have wi:IntKind.i64.wrap ((i:Int)+1)=((i+1:Nat):Int):=wrapN (i+1) (by omega) (by omega)
  have e2:=dI q
  have a1:=fun K=>yD (st:=s) (n:=n) Eo K
  have a2:=fun K=>xP (st:=s) (i:=i) (by omega) K
  have a5:=fun v K=>DQ (st:=s) (i:=i) (by omega) v K
  have pY:∀v:Bool,v=(s.getD i false||decide (0<q))→mJ g e n st (i+1)=QW row i (s.set i v) n:=by
   intro v hv
   rw[Cf,MH,hv,aKB (l:=g),hr,aNS,aKB (l:=e),hq,aNS]
  have post:∀(v:Bool) (tK:cV),v=(s.getD i false||decide (0<q))→tK 0=aC (aC aF) g→tK 1=aC aF e→tK 5 = .ref 0 0 0 n n→tK 6=VI i→tK 13=VI n→tK 14=VI r→tK 17=VI n→tK 18=VI i→tK 39=aC aF row→tK 40=VI n→tK 41=VI 0 →
    ∀(Q':VQ),(∀wS,wS 0=aC (aC aF) g→wS 1=aC aF e→wS 5 = .ref 0 0 0 n n→wS 13=VI n→wS 14=VI r→wS 17=VI n→wS 18=VI i→Q' .normal wS [tP (mJ g e n st (i+1))])→VW ⟨true,false⟩ 0 (.loop nJ) (tH 4 Q') tK [tP (s.set i v)]:=by
   intro v tK hv k0 k1 k5 k6 B0 C3 IE W2 k39 k40 k41 Q' hQ'
   refine YI hn Eo (by rw[aMC,hl]) BZ k0 k1 k5 k6 B0 C3 IE W2 k39 k40 k41 fun wS m0 m1 m5 m13 m14 m17 m18 => ?_
   rw[←pY v hv]
   exact hQ' wS m0 m1 m5 m13 m14 m17 m18
  have fin:∀(wS:cV),wS 0=aC (aC aF) g→wS 1=aC aF e→wS 5 = .ref 0 0 0 n n→wS 13=VI n→wS 14=VI r→wS 17=VI n→wS 18=VI ((i+1:Nat):Int)→∃s',n-s'<n-i∧s'≤n∧[tP (mJ g e n st (i+1))]=[tP (mJ g e n st s')]∧wS 0=aC (aC aF) g∧wS 1=aC aF e∧wS 5 = .ref 0 0 0 n n∧wS 13=VI n∧wS 14=VI r∧wS 17=VI n∧wS 18=VI s' :=
   fun wS m0 m1 m5 m13 m14 m17 m18=>⟨i+1,by omega,by omega,rfl,m0,m1,m5,m13,m14,m17,m18⟩
  have awW:((row.length:Nat):Int)=(n:Int):=by omega
  cases Xh:s.getD i false with
  |
   true =>
   rw[Xh] at a2 post
   simp only[qD,g0,g1,g5,g17,g18,bW,e1,e3,a1,a2,a5,awW,dR,VX,Nat.reduceEqDiff,Nat.reduceAdd,Nat.reduceLeDiff,Nat.reduceLT,Nat.reduceSub]
   refine post true _ (by simp) ?_ ?_ ?_ ?_ ?_ ?_ ?_ ?_ ?_ ?_ ?_ _ fun wS m0 m1 m5 m13 m14 m17 m18 => ?_
   all_goals first | exact g0 | exact g1 | exact g5 | exact g13 | exact g14 | exact g17 | exact g18 | rfl | skip
   simp only[m18,wi,dR,VX,Nat.reduceEqDiff,Nat.reduceAdd,Nat.reduceLeDiff,Nat.reduceLT,Nat.reduceSub]
   exact⟨i+1,by omega,by omega,by (repeat' apply aMk)<;>first | rfl | trivial | assumption⟩
  |
   false =>
   rw[Xh] at a2 post
   by_cases hp:0<jI q
   ·have BY:0<q:=GR.1 hp
    simp only[qD,g0,g1,g5,g17,g18,bW,e1,e2,e3,a1,a2,a5,awW,hp,bH,dR,VX,Nat.reduceEqDiff,Nat.reduceAdd,Nat.reduceLeDiff,Nat.reduceLT,Nat.reduceSub]
    refine post true _ (by simp[BY]) ?_ ?_ ?_ ?_ ?_ ?_ ?_ ?_ ?_ ?_ ?_ _ fun wS m0 m1 m5 m13 m14 m17 m18 => ?_
    all_goals first | exact g0 | exact g1 | exact g5 | exact g13 | exact g14 | exact g17 | exact g18 | rfl | skip
    simp only[m18,wi,dR,VX,Nat.reduceEqDiff,Nat.reduceAdd,Nat.reduceLeDiff,Nat.reduceLT,Nat.reduceSub]
    exact⟨i+1,by omega,by omega,by (repeat' apply aMk)<;>first | rfl | trivial | assumption⟩
   ·have BY:¬0<q:=mt GR.2 hp
    simp only[qD,g0,g1,g5,g17,g18,bW,e1,e2,e3,a1,a2,a5,awW,hp,bH,dR,VX,Nat.reduceEqDiff,Nat.reduceAdd,Nat.reduceLeDiff,Nat.reduceLT,Nat.reduceSub]
    refine post false _ (by simp[BY]) ?_ ?_ ?_ ?_ ?_ ?_ ?_ ?_ ?_ ?_ ?_ _ fun wS m0 m1 m5 m13 m14 m17 m18 => ?_
    all_goals first | exact g0 | exact g1 | exact g5 | exact g13 | exact g14 | exact g17 | exact g18 | rfl | skip
    simp only[m18,wi,dR,VX,Nat.reduceEqDiff,Nat.reduceAdd,Nat.reduceLeDiff,Nat.reduceLT,Nat.reduceSub]
    exact⟨i+1,by omega,by omega,by (repeat' apply aMk)<;>first | rfl | trivial | assumption⟩
 ·have mH:i=n:=by omega
  subst mH
  subst hs
  simp only[qD,g17,g18,bW,dR,VX,Nat.reduceEqDiff,Nat.reduceAdd,Nat.reduceLeDiff,Nat.reduceLT,Nat.reduceSub]
  refine hQ _ ?_ ?_ ?_ ?_ ?_<;>first | exact g0 | exact g1 | exact g5 | exact g13 | exact g14 | exact g17 | exact g18 | rfl
theorem MM (bs:List Bool):aY (aC (fun b=>VB b) bs)=true:=mR (fun _=>rfl) fun _=>rfl
theorem X7 (bs:List Bool):gU (aC (fun b=>VB b) bs)=true:=Aa (fun _=>rfl) (fun _=>rfl) fun _=>rfl
set_option maxHeartbeats 1000000 in
theorem SY (hn:n≤1000000) (hg:g.length=n) (W9:∀w∈g,w.length=n) (he:e.length=n):TC 195 [aC (aC aF) g,aC aF e] (aC (fun b=>VB b) (qJ g e n n)):=by
 refine TC.walk ⟨true,false⟩ To rfl (aMs rfl) (by simp only[aO,Jq,gO];rfl) (X7 _) ?_
 have e0:∀H,Bc [.bool false] 1 (VI n) (VI n) H=some (.ref H.length 0 0 n n,H++[tP (aLu n false)]):=fun H=>oB (f:=fun b=>VB b) rfl (by omega) (by omega)
 simp only[O0,Ki,he,e0,List.nil_append,aMh,dR,VX,Nat.reduceEqDiff,Nat.reduceAdd,Nat.reduceLeDiff,Nat.reduceLT,Nat.reduceSub]
 refine aP (fun(i:Nat) aQ H=>i≤n∧H=[tP (qJ g e n i)]∧aQ 0=aC (aC aF) g∧aQ 1=aC aF e∧aQ 5 = .ref 0 0 0 n n∧aQ 13=VI n∧aQ 14=VI i) (fun i=>n-i) 0 ⟨aK8 _,rfl,rfl,rfl,rfl,rfl,rfl⟩ ?_
 rintro i aQ H ⟨hi,rfl,g0,g1,g5,g13,g14⟩
 have hl:=DS g e n i
 have Cf:qJ g e n (i+1)=mJ g e n (qJ g e n i) n:=sB
 by_cases bW:(i:Int)<(n:Int)
 ·have wi:IntKind.i64.wrap ((i:Int)+1)=((i+1:Nat):Int):=wrapN (i+1) (by omega) (by omega)
  have he':((e.length:Nat):Int)=(n:Int):=by omega
  simp only[CB,g1,g13,g14,bW,he',dR,VX,Nat.reduceEqDiff,Nat.reduceAdd,Nat.reduceLeDiff,Nat.reduceLT,Nat.reduceSub]
  refine Yl (r:=(i:Int)) hn hl hg W9 he ?_ ?_ ?_ ?_ ?_ ?_ ?_ fun wS m0 m1 m5 m13 m14 => ?_
  all_goals first | exact g0 | exact g1 | exact g5 | exact g13 | exact g14 | rfl | skip
  simp only[m14,wi,dR,VX,Nat.reduceEqDiff,Nat.reduceAdd,Nat.reduceLeDiff,Nat.reduceLT,Nat.reduceSub]
  exact⟨i+1,by omega,by omega,by rw[Cf],m0,m1,m5,m13,rfl⟩
 ·have mH:i=n:=by omega
  subst mH
  simp only[CB,g5,g13,g14,bW,dR,VX,Nat.reduceEqDiff,Nat.reduceAdd,Nat.reduceLeDiff,Nat.reduceLT,Nat.reduceSub]
  have:=Zg (f:=fun b=>VB b) (e:=1) (b:=0) (g:=0) (c:=i) (xs:=qJ g e i i) (H:=[tP (qJ g e i i)]) (fun _=>rfl) (by rw[aU]) (by omega)
  rw[hl] at this
  exact this
end
end Go.PM
namespace Go.PM
end Go.PM
namespace Go.PM
end Go.PM
namespace Go.PM
open Go.Lib
theorem CG.wide {cH:List (List ByteArray)}:∀ {lo hi fW qQ:Nat} {H:aA} {v:VV},CG cH lo hi H v→fW≤lo→hi≤qQ→CG cH fW qQ H v:=by
 rintro lo hi fW qQ H v ⟨c,h1,h2⟩ hl hh
 exact⟨c,h1,h2.wide hl hh⟩
theorem CG.own {n lo hi:Nat} {H:aA} {v:VV} {cH:List (List ByteArray)} (h:CG cH lo hi H v) (hn:n≤lo):∃c,v = .agg [c]∧bP c=true∧aB c=[c]∧jW n c=true:=by
 obtain⟨c,rfl,h | ⟨b,g,cc,rs,h1,h2,rfl,h3⟩⟩:=h
 ·obtain⟨rfl,_⟩:=h
  exact⟨_,rfl,rfl,rfl,rfl⟩
 ·exact⟨_,rfl,rfl,rfl,by simp[jW];omega⟩
theorem SvG.wide {s:vJ}:∀ {lo hi fW qQ:Nat} {H:aA} {v:VV},SvG s lo hi H v→fW≤lo→hi≤qQ→SvG s fW qQ H v:=by
 rintro lo hi fW qQ H v ⟨a,b,c,m1,m2,h1,k1,k2,k3,h2,h3,h4⟩ hl hh
 exact⟨a,b,c,m1,m2,h1,by omega,k2,by omega,h2.wide hl (aKE _),h3,h4.wide (aKE _) hh⟩
theorem Ko.start {n:Nat} {H:aA}:Ko n H.length H:=fun b g es e w hb hr=>by
 rw[aK4 hb] at hr
 cases hr
def CJ (f:Rat→VV) (b:List Rat) (g:List (List Rat)) (e:List Rat):VV := .agg [aC f b,aC (aC f) g,aC f e]
end Go.PM
namespace Go.PM
section
variable {α:Type}
def vec (n:Nat) (f:Nat→α):List α:=(aKA n).map f
def Qr (n m:Nat) (F:Nat→Nat→α):List (List α):=vec n fun a=>vec m (F a)
theorem jK (n:Nat) (f:Nat→α):(vec n f).length=n:=by simp[vec]
theorem Cb (n m:Nat) (F:Nat→Nat→α):(Qr n m F).length=n:=jK ..
theorem wW {n i:Nat} {f:Nat→α} (h:i<n):(vec n f)[i]? = some (f i):=by simp[vec,h]
theorem I8 {n i:Nat} {f:Nat→α} (h:n≤i):(vec n f)[i]? = none:=by rw[aK4];rw[jK];exact h
theorem vB {n:Nat} {f g:Nat→α} (h:∀i,i<n→f i=g i):vec n f=vec n g:=List.map_congr_left fun i hi=>h i (aLf.1 hi)
theorem KX {n m:Nat} {F G:Nat→Nat→α} (h:∀a b,a<n→b<m→F a b=G a b):Qr n m F=Qr n m G:=vB fun a ha=>vB fun b hb=>h a b ha hb
theorem Ns {n m i:Nat} {F:Nat→Nat→α} (h:i<n):(Qr n m F)[i]? = some (vec m (F i)):=wW h
theorem NB {n j:Nat} {f:Nat→α} {y:α}:(vec n f).set j y=vec n fun b=>if b=j then y else f b:=by
 apply aN8
 intro b
 rw[List.getElem?_set,jK]
 by_cases hb:b<n
 ·rw[wW hb,wW hb]
  by_cases hj:j=b
  ·subst hj;simp[hb]
  ·simp[hj,Ne.symm hj]
 ·rw[I8 (by omega),I8 (by omega)]
  split
  ·rw[if_neg (by omega)]
  ·rfl
theorem TH {n m i:Nat} {F:Nat→Nat→α} {g:Nat→α}:(Qr n m F).set i (vec m g)=Qr n m fun a b=>if a=i then g b else F a b:=by
 rw[Qr,NB]
 refine vB fun a _ => ?_
 split
 ·rename_i h
  exact vB fun b _=>(if_pos h).symm
 ·rename_i h
  exact vB fun b _=>(if_neg h).symm
theorem KQ {n:Nat} {x:α}:aLu n x=vec n fun _=>x:=by
 apply aN8
 intro i
 by_cases h:i<n
 ·rw[wW h,aN3,if_pos h]
 ·rw[I8 (by omega),aN3,if_neg h]
theorem adZ {n m:Nat} {x:α}:aLu n (aLu m x)=Qr n m fun _ _=>x:=by rw[KQ,KQ];rfl
theorem azS (xs:List α) (d:α):xs=vec xs.length fun i=>xs.getD i d:=by
 apply aN8
 intro i
 by_cases h:i<xs.length
 ·rw[wW h,aKB,aKL h]
  rfl
 ·rw[I8 (by omega),aK4 (by omega)]
theorem J8 {n:Nat} {f:Nat→α} {x:α}:x∈vec n f↔∃i,i<n∧f i=x:=by simp[vec]
theorem aaL {n m:Nat} {F:Nat→Nat→α} {r:List α} (h:r∈Qr n m F):∃i,i<n∧r=vec m (F i):=by
 obtain⟨i,hi,rfl⟩:=J8.1 h
 exact⟨i,hi,rfl⟩
theorem CS {n:Nat} {f:Nat→α}:vec (n+1) f=vec n f++[f n]:=by simp[vec,aNZ]
end
end Go.PM
namespace Go.PM
open Go.Lib
theorem ahY {qs:List Rat} {B i:Nat} {y:Rat} (h:∀q∈qs,aL q≤B) (hy:aL y≤B):∀q∈qs.set i y,aL q≤B:=fun q hq=>by
 rcases List.mem_or_eq_of_mem_set hq with h1 | rfl
 ·exact h q h1
 ·exact hy
theorem SvG.own {n lo hi:Nat} {s:vJ} {H:aA} {v:VV} (h:SvG s lo hi H v) (hn:n≤lo):∃a b c,v = .agg [a,b,c]∧bP a=true∧bP b=true∧bP c=true∧jW n a=true∧jW n b=true∧jW n c=true:=by
 obtain⟨a,b,c,m1,m2,rfl,l1,l2,l3,ha,hb,hc⟩:=h
 refine⟨a,b,c,rfl,ha.cell,hb.cell,hc.cell,?_,?_,?_⟩
 ·rcases ha with⟨rfl,_⟩ | ⟨b,g,c,h1,h2,rfl,h3⟩
  ·rfl
  ·simp[jW];omega
 ·rcases hb with⟨rfl,_⟩ | ⟨b,g,c,rs,h1,h2,rfl,h3⟩
  ·rfl
  ·simp[jW];omega
 ·rcases hc with⟨rfl,_⟩ | ⟨b,g,c,h1,h2,rfl,h3⟩
  ·rfl
  ·simp[jW];omega
abbrev kQ:fO := .row 0 [.agg [.tree [] .nil,.tree [] .nil,.tree [] .nil]] 3 true
end Go.PM
namespace Go.PM
open Go.Lib
section
variable {α:Type} {f:α→VV} {e:Nat}
structure RdT (f:α→VV) (e:Nat) (m:List (List α)) (H:aA) (v:VV):Prop where
 len:∀H',H <+: H'→sE v H'=some (VI m.length)
 get:∀H',H <+: H'→∀(i:Nat) r,m[i]? = some r→∃p w,bJ 1 v (VI i) H'=some p∧bF false 1 p H'=some w∧Rd f e r H' w
theorem RdT.pre {m:List (List α)} {H H':aA} {v:VV} (h:RdT f e m H v) (hh:H <+: H'):RdT f e m H' v:=⟨fun H2 h2=>h.len H2 (hh.trans h2),fun H2 h2=>h.get H2 (hh.trans h2)⟩
theorem RdT.tree {m:List (List α)} {H:aA} {t:TK} (hs:∀x,(aB (f x)).length=e):RdT f e m H (.tree (m.map (aC f)) t) :=
 ⟨fun _ _=>eR,fun _ _ i x hx=>⟨_,_,aH hx rfl,by rw[NA];rfl,Rd.tree hs⟩⟩
theorem RdT.row {m:List (List α)} {H:aA} {b g n c:Nat} {w:Bool} (h:aG H b g=some (m.map (aC f),1,w)) (hn:n=m.length) (hs:∀x,(aB (f x)).length=e):RdT f e m H (.ref b g 0 n c):=by
 subst hn
 refine⟨fun H' hh=>eI (cJ hh h),fun H' hh i x hx => ?_⟩
 have hi:=(List.getElem?_eq_some_iff.1 hx).1
 have e1:=bB (o:=0) (n:=m.length) (c:=c) (i:=i) (k := .i64) (cJ hh h) hi
 rw[aMc] at e1
 exact⟨_,_,e1,by rw[qB (f:=aC f) (cJ hh h) hx];rfl,Rd.tree hs⟩
theorem MG.snoc {lo hi fW b g:Nat} {H:aA} {rs:List (CE α)} (h:MG f e lo hi b g H rs) (hg:g=rs.length) (dS:fW≤lo) (hn:g≤1000000000) (r:CE α) (hhi:hi≤r.b) (hc:r.xs.length≤r.c) (hr:aG H r.b r.g=some (r.xs.map f,e,true)) :
  dO fW 1 24 (.ref b g 0 g g) [.ref r.b r.g 0 r.xs.length r.c] H=some (.ref b (g+1) 0 (g+1) (g+1),H.set b (.row (g+1) ((rs++[r]).map tU) 1 true))∧MG f e lo H.length b (g+1) (H.set b (.row (g+1) ((rs++[r]).map tU) 1 true)) (rs++[r]):=by
 have aHX:=h.blo
 have aI9:=h.bhi
 have BZ:=iS hr
 have xI:=jV (f:=tU) (xs:=rs) (x:=r) (lo:=fW) (bytes:=24) h.out hg (by omega) (by decide) (by decide) (by omega)
 refine⟨xI,bQ h.out,h.blo,iS h.out,?_,fun s hs => ?_⟩
 ·rw[aM1,List.nodup_append]
  refine⟨h.rows.nd,by simp,fun a ha c hc' => ?_⟩
  obtain⟨s,hs,rfl⟩:=aMf.1 ha
  have:=h.rows.row s hs
  simp only[List.map_cons,List.map_nil,aLK] at hc'
  omega
 ·rcases aLA.1 hs with hs | hs
  ·obtain⟨k1,k2,k3,k4,k5⟩:=h.rows.row s hs
   exact⟨k1,by omega,k3,k4,aX (by omega) k5⟩
  ·rw[aLK] at hs
   subst hs
   exact⟨by omega,BZ,by omega,hc,aX (by omega) hr⟩
end
def rN (m:List (List Rat)) (i:Nat):Rat:=(m.take i).foldl (fun a r=>if a<dN r then dN r else a) 0
def IP (m:List (List Rat)):Rat:=rN m m.length
theorem Mq {m:List (List Rat)} {i:Nat} {r:List Rat} (h:m[i]? = some r):rN m (i+1)=if rN m i<dN r then dN r else rN m i:=by
 unfold rN
 rw[sP h,aNP]
 rfl
def ZL (d:Rat) (i:Nat) (r:List Rat):List Rat:=(r.map (· / d)).set i (1-dN (r.map (· / d)))
def UA (m:List (List Rat)):List (List Rat):=vec m.length fun i=>ZL (IP m) i (m.getD i [])
theorem D2 {qs:List Rat} {B n:Nat} (h:∀q∈qs,aL q≤B) (hn:qs.length≤n):aL (dN qs)≤n*(B+1)+1:=by
 have h1:=BT h qs.length
 rw[aLR] at h1
 have h2:qs.length*(B+1)≤n*(B+1):=aK5 _ hn
 omega
theorem Kw {m:List (List Rat)} {B n:Nat} (h:∀r∈m,r.length≤n∧∀q∈r,aL q≤B):∀i,aL (rN m i)≤n*(B+1)+1
 |
  0=>by
  show aL 0≤_
  rw[rH]
  omega
 |
  i+1=>by
  cases hr:m[i]? with
  |
   none =>
   have:rN m (i+1)=rN m i:=by
    unfold rN
    rw[aMu,hr]
    simp
   rw[this]
   exact Kw h i
  |
   some r =>
   rw[Mq hr]
   have:=h r (aLy hr)
   split
   ·exact D2 this.2 this.1
   ·exact Kw h i
theorem adP {qs:List Rat} {d:Rat} {B D:Nat} (h:∀q∈qs,aL q≤B) (hd:aL d≤D):∀q∈qs.map (· / d),aL q≤B+D+1:=fun q hq=>by
 obtain⟨p,hp,rfl⟩:=aMf.1 hq
 have h1:=h p hp
 have h2:=GU p d
 omega
end Go.PM
namespace Go.PM
open Go.Lib
theorem KZ {a:Nat} (h:a≤12):a*(665+1)+1≤7993:=by omega
def iC (n i:Nat) (xs:List ByteArray):Option (List Rat):=match tC xs with
 | some r=>if r.length=n∧(r.any fun q=>decide (q<0))=false∧r.getD i 0=0 then some r else none
 | none=>none
def iR (c:List (List ByteArray)):Nat→Option (List (List Rat))
 | 0=>some []
 |
  i+1=>match iR c i,iC c.length i (c.getD i []) with
  | some out,some r=>some (out++[r])
  | _,_=>none
theorem J1 {n i:Nat} {xs:List ByteArray} {r:List Rat} (h:iC n i xs=some r):tC xs=some r∧r.length=n∧(∀q∈r,0≤q)∧r.getD i 0=0:=by
 unfold iC at h
 split at h
 ·rename_i ps hp
  split at h
  ·rename_i hc
   cases h
   refine⟨hp,hc.1,fun q hq => ?_,hc.2.2⟩
   have:=List.any_eq_false.1 hc.2.1 q hq
   exact Rat.not_lt.1 (by simpa using this)
  ·cases h
 ·cases h
theorem DV {c:List (List ByteArray)} {i:Nat} (h:iR c i=none):∀j,i≤j→iR c j=none:=by
 intro j hj
 induction j with
 |
  zero =>
  have:i=0:=by omega
  subst this
  exact h
 |
  succ j ih =>
  by_cases Qv:i≤j
  ·rw[iR,ih Qv]
  ·have:i=j+1:=by omega
   subst this
   exact h
theorem tZ {c:List (List ByteArray)}:∀ {i:Nat} {m:List (List Rat)},iR c i=some m→m.length=i∧∀r∈m,r.length=c.length∧∀q∈r,0≤q∧aL q≤665
 | 0,m,h=>by cases h;exact⟨rfl,fun r hr=>by cases hr⟩
 |
  i+1,m,h=>by
  rw[iR] at h
  split at h
  ·rename_i out r h1 h2
   cases h
   obtain⟨k1,k2⟩:=tZ h1
   obtain⟨j1,j2,j3,_⟩:=J1 h2
   refine⟨by rw[aKP,k1];rfl,fun s hs => ?_⟩
   rcases aLA.1 hs with hs | hs
   ·exact k2 s hs
   ·rw[aLK] at hs
    subst hs
    exact⟨j2,fun q hq=>⟨j3 q hq,(nH j1).1 q hq⟩⟩
  ·cases h
theorem V3 {qs:List Rat} (h:∀q∈qs,0≤q):0≤dN qs:=by
 have key:∀i,i≤qs.length→0≤dN (qs.take i):=by
  intro i
  induction i with
  | zero=>intro _;show (0:Rat)≤0;exact aOa
  |
   succ i ih =>
   intro hi
   have hq:qs[i]? = some qs[i]:=aKL (by omega)
   rw[De hq]
   have h1:=ih (by omega)
   have h2:=h _ (aKR (by omega:i<qs.length))
   grind
 have:=key qs.length (aKE _)
 rwa [aLR] at this
theorem PJ {m:List (List Rat)} (h:∀r∈m,0≤dN r):∀i,0≤rN m i∧0≤dN ((m.map dN).take i)∧(dN ((m.map dN).take i)=0↔rN m i=0)∧(((m.take i).any fun r => !decide (dN r=0)) = !decide (rN m i=0))
 | 0=>⟨aOa,aOa,⟨fun _=>rfl,fun _=>rfl⟩,rfl⟩
 |
  i+1=>by
  obtain⟨h1,h2,h3,h4⟩:=PJ h i
  cases hr:m[i]? with
  |
   none =>
   have e1:rN m (i+1)=rN m i:=by unfold rN;rw[aMu,hr];simp
   have e2:(m.map dN).take (i+1)=(m.map dN).take i:=by rw[aMu,aN9,hr];simp
   have e3:m.take (i+1)=m.take i:=by rw[aMu,hr];simp
   rw[e1,e2,e3]
   exact⟨h1,h2,h3,h4⟩
  |
   some r =>
   have h0:=h r (aLy hr)
   have JC:(m.map dN)[i]? = some (dN r):=by rw[aN9,hr];rfl
   rw[Mq hr,De JC,sP hr,List.any_append,h4]
   simp only[List.any_cons,List.any_nil,Bool.or_false]
   by_cases hc:rN m i<dN r
   ·rw[if_pos hc]
    have hp:¬dN r=0:=by grind
    have hs:¬dN ((m.map dN).take i)+dN r=0:=by grind
    refine⟨h0,by grind,⟨fun h=>absurd h hs,fun h=>absurd h hp⟩,by simp[hp]⟩
   ·rw[if_neg hc]
    refine⟨h1,by grind,?_,?_⟩
    ·constructor
     ·intro h;exact h3.1 (by grind)
     ·intro h;have:=h3.2 h;grind
    ·by_cases hz:rN m i=0
     ·have:dN r=0:=by grind
      simp[hz,this]
     ·simp[hz]
theorem acA {m:List (List Rat)} {n B:Nat} (hm:m.length=n) (hb:∀r∈m,r.length=n∧∀q∈r,aL q≤B) (hn:n≤100) (hB:B≤1000000):(UA m).length=n∧∀r∈UA m,r.length=n∧∀q∈r,aL q≤100000000000:=by
 refine⟨by rw[UA,jK,hm],fun r hr => ?_⟩
 obtain⟨i,hi,rfl⟩:=J8.1 hr
 have hgi:m[i]? = some m[i]:=aKL hi
 have Md:=hb _ (aKR hi)
 rw[aKB,hgi,aNS]
 have bm:=Kw (n:=n) (B:=B) (fun r hr=>⟨aOb (hb r hr).1,(hb r hr).2⟩) m.length
 rw[←IP] at bm
 have qb:=adP Md.2 bm
 have hl:(m[i].map (· / IP m)).length=n:=by rw[aMl];exact Md.1
 have b3:=D2 qb (aOb hl)
 have m1:n*(B+1)≤100*(B+1):=aK5 _ hn
 have m2:n*(B+(n*(B+1)+1)+1+1)≤100*(B+(n*(B+1)+1)+1+1):=aK5 _ hn
 have b4:=abK 1 (dN (m[i].map (· / IP m)))
 rw[AR] at b4
 refine⟨by rw[ZL,aMC,hl],ahY (fun q hq => ?_) (by omega)⟩
 have:=qb q hq
 omega
end Go.PM
namespace Go.PM
abbrev P9:=Nat×Nat×Rat
def No (F:Nat→Nat→Rat) (i j:Nat) (q:Rat) (a b:Nat):Rat:=if i≠j∧a=i∧b=j then F a b+q else F a b
theorem aeG {F:Nat→Nat→Rat} {i:Nat} {q:Rat}:No F i i q=F:=by
 funext a b
 exact if_neg fun h=>h.1 rfl
def Jb (F:Nat→Nat→Rat) (L:List P9):Nat→Nat→Rat:=L.foldl (fun F t=>No F t.1 t.2.1 t.2.2) F
def iX (L:List P9):Nat→Nat→Rat:=Jb (fun _ _=>0) L
theorem IG {F:Nat→Nat→Rat} {t:P9} {L:List P9}:Jb F (t::L)=Jb (No F t.1 t.2.1 t.2.2) L:=rfl
theorem JK {F:Nat→Nat→Rat} {L M:List P9}:Jb F (L++M)=Jb (Jb F L) M:=aNP
theorem YU {L:List P9} {i j:Nat} {q:Rat}:iX (L++[(i,j,q)])=No (iX L) i j q:=JK
theorem YL {L:List P9} {i:Nat} {q:Rat}:iX (L++[(i,i,q)])=iX L:=by rw[YU,aeG]
theorem OW {Q:Nat}:∀(L:List P9) (F:Nat→Nat→Rat) (B:Nat),(∀t∈L,aL t.2.2≤Q)→(∀a b,aL (F a b)≤B)→∀a b,aL (Jb F L a b)≤B+L.length*(Q+1)
 |
  [],F,B,_,hF,a,b=>by
  have:=hF a b
  show aL (F a b)≤_
  omega
 |
  t::L,F,B,hL,hF,a,b=>by
  rw[IG]
  have ht:=hL t aLe
  have:=OW L (No F t.1 t.2.1 t.2.2) (B+(Q+1)) (fun s hs=>hL s (aLd _ hs)) (fun a b=>by
   unfold No
   have h1:=hF a b
   have h2:=vD (F a b) t.2.2
   split<;>omega) a b
  rw[aKO,Nat.succ_mul]
  omega
theorem PY {Q:Nat} {L:List P9} (h:∀t∈L,aL t.2.2≤Q) (a b:Nat):aL (iX L a b)≤1+L.length*(Q+1) :=
 OW L _ 1 h (fun _ _=>by show aL 0≤1;rw[rH];exact aKE _) a b
theorem N7:∀(L:List P9) (F:Nat→Nat→Rat),(∀t∈L,0≤t.2.2)→∀a b,F a b≤Jb F L a b
 | [],F,_,a,b=>aOa
 |
  t::L,F,hL,a,b=>by
  rw[IG]
  have ht:=hL t aLe
  have h1:=N7 L (No F t.1 t.2.1 t.2.2) (fun s hs=>hL s (aLd _ hs)) a b
  have h2:F a b≤No F t.1 t.2.1 t.2.2 a b:=by
   unfold No
   split<;>grind
  exact Rat.le_trans h2 h1
theorem I2 {L:List P9} (h:∀t∈L,0≤t.2.2) (a b:Nat):0≤iX L a b:=N7 L _ h a b
theorem abH {L:List P9} {i j:Nat} {q:Rat} (h:∀t∈L,0≤t.2.2) (ht:(i,j,q)∈L) (Qv:i≠j) (hq:0<q):0<iX L i j:=by
 obtain⟨s,r,rfl⟩:=List.append_of_mem ht
 have hs:∀t∈s,0≤t.2.2:=fun t ht=>h t (List.mem_append_left _ ht)
 have hr:∀t∈r,0≤t.2.2:=fun t ht=>h t (List.mem_append_right _ (aLd _ ht))
 have h1:=N7 r (No (iX s) i j q) hr i j
 have h2:iX (s++(i,j,q)::r)=Jb (No (iX s) i j q) r:=by
  unfold iX
  rw[JK,IG]
 rw[h2]
 have h3:=I2 hs i j
 have h4:No (iX s) i j q i j=iX s i j+q:=if_pos ⟨Qv,rfl,rfl⟩
 rw[h4] at h1
 grind
theorem atW {qs:List Rat} (h:∀q∈qs,0≤q) {q:Rat} (hq:q∈qs):q≤dN qs:=by
 have key:∀i,i≤qs.length→0≤dN (qs.take i)∧∀p∈qs.take i,p≤dN (qs.take i):=by
  intro i
  induction i with
  | zero=>intro _;exact⟨by show (0:Rat)≤0;exact aOa,by simp⟩
  |
   succ i ih =>
   intro hi
   have hq:qs[i]? = some qs[i]:=aKL (by omega)
   obtain⟨h1,h2⟩:=ih (by omega)
   have h3:=h _ (aKR (by omega:i<qs.length))
   rw[De hq]
   refine⟨by grind,fun p hp => ?_⟩
   rw[sP hq] at hp
   rcases aLA.1 hp with hp | hp
   ·have:=h2 p hp
    grind
   ·rw[aLK] at hp
    subst hp
    grind
 have:=(key qs.length (aKE _)).2
 rw[aLR] at this
 exact this q hq
theorem XT {N:Nat} {L:List P9} {i j:Nat} {q:Rat} (h:∀t∈L,0≤t.2.2) (ht:(i,j,q)∈L) (Qv:i≠j) (hq:0<q) (hi:i<N) (hj:j<N):IP (Qr N N (iX L))≠0:=by
 have hnn:∀r∈Qr N N (iX L),∀q∈r,0≤q:=fun r hr q hq=>by
  obtain⟨a,_,rfl⟩:=aaL hr
  obtain⟨b,_,rfl⟩:=J8.1 hq
  exact I2 h a b
 obtain⟨_,_,_,h4⟩:=PJ (fun r hr=>V3 (hnn r hr)) (Qr N N (iX L)).length
 rw[aLR] at h4
 intro h0
 rw[←IP,h0,decide_eq_true rfl,Bool.not_true] at h4
 have mA:=aLy (Ns (m:=N) (F:=iX L) hi)
 have h5:=List.any_eq_false.1 h4 _ mA
 have h6:=atW (hnn _ mA) (q:=iX L i j) (J8.2 ⟨j,hj,rfl⟩)
 have h7:=abH h ht Qv hq
 simp only[Bool.not_eq_true',decide_eq_false_iff_not,not_true_eq_false,Classical.not_not] at h5
 rw[h5] at h6
 grind
theorem XK {Q N:Nat} {L:List P9} (h:∀t∈L,aL t.2.2≤Q):∀r∈Qr N N (iX L),r.length=N∧∀q∈r,aL q≤1+L.length*(Q+1):=fun r hr=>by
 obtain⟨a,_,rfl⟩:=aaL hr
 refine⟨jK ..,fun q hq => ?_⟩
 obtain⟨b,_,rfl⟩:=J8.1 hq
 exact PY h a b
end Go.PM
namespace Go.PM
theorem fM (q:Rat):(aB (aF q)).all bP=true:=rfl
def PO (F:Nat→Nat→Rat) (i j:Nat) (y:Rat) (a b:Nat):Rat:=if a=i∧b=j then y else F a b
def Tb (f:Rat→VV) (lo hi N M b g:Nat) (F:Nat→Nat→Rat) (H:aA):Prop:=∃rs,MG f 3 lo hi b g H rs∧rs.map (·.xs)=Qr N M F
def Qm (lo hi:Nat) (H H':aA):Prop:=H'.length=H.length∧∀b g x,b<lo∨hi≤b→aG H b g=some x→aG H' b g=some x
theorem Qm.refl {lo hi:Nat} {H:aA}:Qm lo hi H H:=⟨rfl,fun _ _ _ _ h=>h⟩
section
variable {f:Rat→VV} {lo hi N M b g:Nat} {F:Nat→Nat→Rat} {H H':aA}
theorem Tb.dB (h:Tb f lo hi N M b g F H) (hk:jQ lo hi H H'):Tb f lo hi N M b g F H':=by
 obtain⟨rs,h1,h2⟩:=h
 exact⟨rs,h1.dB hk,h2⟩
theorem Tb.pre (h:Tb f lo hi N M b g F H) (hh:H <+: H'):Tb f lo hi N M b g F H':=h.dB (jQ.pre hh)
theorem Tb.congr {G:Nat→Nat→Rat} (h:Tb f lo hi N M b g F H) (hF:∀a c,a<N→c<M→F a c=G a c):Tb f lo hi N M b g G H:=by
 obtain⟨rs,h1,h2⟩:=h
 exact⟨rs,h1,h2.trans (KX hF)⟩
theorem Tb.lt (h:Tb f lo hi N M b g F H):lo≤b∧b<hi∧b<H.length:=by
 obtain⟨rs,h1,_⟩:=h
 exact⟨h1.blo,h1.bhi,iS h1.out⟩
theorem Tb.addr {c i:Nat} (h:Tb f lo hi N M b g F H) (qQ:i<N):bJ 1 (.ref b g 0 N c) (VI i) H=some (.ptr b g i 0):=by
 obtain⟨rs,h1,_⟩:=h
 exact h1.addr qQ
theorem Tb.len {c:Nat} (h:Tb f lo hi N M b g F H):sE (.ref b g 0 N c) H=some (VI N):=by
 obtain⟨rs,h1,_⟩:=h
 exact h1.len
theorem Tb.fz {d c:Nat} (h:Tb f lo hi N M b g F H) (hc:N≤c) (hp:∀x,aY (f x)=true):PM.fz (d+3) H (.ref b g 0 N c)=some (aC (aC f) (Qr N M F)):=by
 obtain⟨rs,h1,h2⟩:=h
 have hl:=congrArg aNO h2
 rw[aMl,Cb] at hl
 rw[←h2,←hl]
 exact h1.fz (by omega) hp
theorem TabIs.tb {v:VV} (h:TabIs f 3 (Qr N M F) lo hi H v):∃b g c,v = .ref b g 0 N c∧N≤c∧Tb f lo hi N M b g F H:=by
 obtain⟨b,g,c,rs,h1,h2,h3,h4⟩:=h
 rw[Cb] at h1 h2
 exact⟨b,g,c,h1,h2,rs,h3,h4⟩
theorem Tb.spot {i j:Nat} (h:Tb f lo hi N M b g F H) (qQ:i<N) (hj:j<M) (hfs:∀x,(aB (f x)).length=3) (hfa:∀x,(aB (f x)).all bP=true) :
  ∃rb rg rc,bF false 1 (.ptr b g i 0) H=some (.ref rb rg 0 M rc)∧bJ 3 (.ref rb rg 0 M rc) (VI j) H=some (.ptr rb rg j 0)∧(∀ag,bF ag 3 (.ptr rb rg j 0) H=dQ ag 3 (f (F i j)) 0) ∧
  ∀fW y,fW≤lo→∃H',bL fW 3 (.ptr rb rg j 0) (f y) H=some H'∧Qm lo hi H H'∧Tb f lo hi N M b g (PO F i j y) H'∧∀k,bF false 1 (.ptr b g k 0) H'=bF false 1 (.ptr b g k 0) H:=by
 obtain⟨rs,hM,hx⟩:=h
 have hl:=congrArg aNO hx
 rw[aMl,Cb] at hl
 obtain⟨r,hr⟩:∃r,rs[i]? = some r:=⟨_,aKL (by omega)⟩
 have MY:r.xs=vec M (F i):=by
  have h1:(rs.map (·.xs))[i]? = some r.xs:=by rw[aN9,hr];rfl
  rw[hx,Ns qQ] at h1
  exact(Option.some.inj h1).symm
 have BZ:r.xs.length=M:=by rw[MY,jK]
 have hgj:r.xs[j]? = some (F i j):=by rw[MY,wW hj]
 refine⟨r.b,r.g,r.c,?_,hM.at hr hj,fun ag=>hM.get hr hgj,fun fW y dS => ?_⟩
 ·have:=hM.cell hr
  rw[BZ] at this
  exact this
 ·have h1:=hM.put (j:=j) (fW:=fW) (y:=y) hr (by omega) dS (hfs y) (hfa y)
  have h2:=hM.set (ys:=r.xs.set j y) hr (by rw[aMC])
  have Md:=hM.rows.row r (aLy hr)
  refine⟨_,h1,⟨by rw[aMC],fun b' g' x xM I4=>aX (by have h7:=Md.1;have h8:=Md.2.1;omega) I4⟩,⟨_,h2,?_⟩,fun k => ?_⟩
  ·have e:(rs.set i { r with xs:=r.xs.set j y }).map (fun r:CE Rat=>r.xs)=(rs.map (fun r:CE Rat=>r.xs)).set i (r.xs.set j y):=aOc
   rw[e,hx,MY,NB,TH]
   exact KX fun a c _ _=>by unfold PO;by_cases ha:a=i<;>by_cases hc:c=j<;>simp[ha,hc]
  ·rw[bK,bK,aX Md.2.2.1 hM.out,hM.out]
end
theorem aoI {N:Nat}:aLu N (aLu N (0:Rat))=Qr N N fun _ _=>0:=adZ
end Go.PM
namespace Go.PM
def Da (s:Int) (g:Nat) (a:Rat):Prop:=∃M:Int,a*(s:Rat)=(M:Rat)∧M.natAbs<2^g
theorem Da.bits {s:Int} {g:Nat} {a:Rat} (h:Da s g a) (hs:s≠0) (hg:s.natAbs<2^g):aL a≤g:=by
 obtain⟨M,hM,hl⟩:=h
 have h1:1≤g:=by
  cases g with
  | zero=>simp at hg;omega
  | succ g=>omega
 have hsr:(s:Rat)≠0:=by
  intro h
  exact hs (by exact_mod_cast h)
 have ha:a=(M:Rat) / (s:Rat):=by grind
 rcases Int.lt_or_gt_of_ne hs with mK | lR
 ·have e:a=mkRat (-M) s.natAbs:=by
   rw[Rat.mkRat_eq_div]
   have:((s.natAbs:Nat):Int) = -s:=by omega
   have e2:((s.natAbs:Nat):Rat) = -(s:Rat):=by
    rw[←Rat.intCast_natCast,this,Rat.intCast_neg]
   rw[e2,Rat.intCast_neg,ha]
   grind
  rw[e]
  exact CY (by rw[Int.natAbs_neg];exact zS hl) (zS hg) h1
 ·have e:a=mkRat M s.natAbs:=by
   rw[Rat.mkRat_eq_div]
   have:((s.natAbs:Nat):Int)=s:=by omega
   have e2:((s.natAbs:Nat):Rat)=(s:Rat):=by
    rw[←Rat.intCast_natCast,this]
   rw[e2,ha]
  rw[e]
  exact CY (zS hl) (zS hg) h1
def qL (g n m:Nat) (A:Nat→Nat→Rat):Prop:=∃s:Int,s≠0∧s.natAbs<2^g∧∀i j,i<n→j<m→Da s g (A i j)
theorem qL.bits {g n m:Nat} {A:Nat→Nat→Rat} (h:qL g n m A) {i j:Nat} (hi:i<n) (hj:j<m):aL (A i j)≤g:=by
 obtain⟨s,h1,h2,h3⟩:=h
 exact(h3 i j hi hj).bits h1 h2
theorem VA (a b:Nat):2^a*2^b=2^(a+b):=(aMS 2 a b).symm
theorem zB {x y:Int} {g:Nat} (hx:x.natAbs<2^g) (hy:y.natAbs<2^g):(x*y).natAbs<2^(2*g):=by
 rw[aNi,show 2*g=g+g by omega,←VA]
 exact aOd hx hy
theorem qL.Hm {g n m k:Nat} {A:Nat→Nat→Rat} {c:Nat→Rat} (h:qL g n m A) (hk:k<n) (hkm:k<m) (SB:A k k≠0) (hc:∀i,i<n→c i=0∨c i=A i k / A k k):qL (2*g+1) n m (Hm c k A):=by
 obtain⟨s,h1,h2,h3⟩:=h
 obtain⟨K,hK,hKl⟩:=h3 k k hk hkm
 have hsr:(s:Rat)≠0:=fun h=>h1 (by exact_mod_cast h)
 have hKr:(K:Rat)≠0:=by
  rw[←hK]
  grind
 have hK0:K≠0:=by
  intro h
  rw[h] at hKr
  exact hKr rfl
 have hp:2^(2*g+1)=2^(2*g)+2^(2*g):=by rw[aL5];omega
 refine⟨s*K,Int.mul_ne_zero h1 hK0,by have:=zB h2 hKl;omega,fun i j hi hj => ?_⟩
 obtain⟨M,hM,hMl⟩:=h3 i j hi hj
 obtain⟨N,hN,hNl⟩:=h3 i k hi hkm
 obtain⟨R,hR,hRl⟩:=h3 k j hk hj
 rcases hc i hi with hci | hci
 ·refine⟨M*K,?_,by have:=zB hMl hKl;omega⟩
  unfold Go.PM.Hm
  rw[hci,aOe,aOe,←hM]
  grind
 ·refine⟨M*K-N*R,?_,?_⟩
  ·unfold Go.PM.Hm
   rw[hci,aOe,Rat.intCast_sub,aOe,aOe,←hM,←hN,←hR,←hK]
   grind
  ·have e1:=zB hMl hKl
   have e2:=zB hNl hRl
   have e3:(M*K-N*R).natAbs≤(M*K).natAbs+(N*R).natAbs:=by omega
   omega
theorem qL.swp {g n m k r:Nat} {A:Nat→Nat→Rat} (h:qL g n m A) (hk:k<n) (hr:r<n):qL g n m (swp k r A):=by
 obtain⟨s,h1,h2,h3⟩:=h
 refine⟨s,h1,h2,fun i j hi hj => ?_⟩
 unfold Go.PM.swp
 split
 ·exact h3 r j hr hj
 ·split
  ·exact h3 k j hk hj
  ·exact h3 i j hi hj
def rhs (n:Nat) (B:Nat→Nat→Rat):Nat→Rat:=fun i=>B i n
theorem asF {n k r:Nat} {B:Nat→Nat→Rat}:rhs n (swp k r B)=swp k r (rhs n B):=by
 funext i
 unfold rhs swp
 split
 ·rfl
 ·split<;>rfl
theorem BV.ajJ {n g:Nat} {B:Nat→Nat→Rat} (hF:BV n B) (hS:qL g n (n+1) B):∀k,k≤n →
  ∃B',Nc n k B'∧BV n B'∧qL (2^k*(g+1)-1) n (n+1) B'∧∀x,fL n B' (rhs n B') x↔fL n B (rhs n B) x
 | 0,_=>⟨B,⟨fun _ _ _ h _=>absurd h (Nat.not_lt_zero _),fun _ h=>absurd h (Nat.not_lt_zero _)⟩,hF,by simpa using hS,fun _=>Iff.rfl⟩
 |
  k+1,hk=>by
  obtain⟨B',h1,h2,h3,h4⟩:=BV.ajJ hF hS k (by omega)
  obtain⟨m,Qo,Yv,hm3⟩:=h2.ahS (by omega) h1.upper
  have g1:=h1.swp Qo Yv
  have g2:=OH (k:=k) (m:=m) (by omega) Yv h2
  have g3:=h3.swp (k:=k) (r:=m) (by omega) Yv
  have SB:swp k m B' k k≠0:=by
   unfold Go.PM.swp
   rw[if_pos rfl]
   exact hm3
  have hck:(fun i=>if i=k then 0 else swp k m B' i k / swp k m B' k k) k=0:=if_pos rfl
  refine⟨Hm (fun i=>if i=k then 0 else swp k m B' i k / swp k m B' k k) k (swp k m B'),g1.step SB (by omega),Ol (by omega) hck g2,?_,fun x => ?_⟩
  ·have e:2^(k+1)*(g+1)-1=2*(2^k*(g+1)-1)+1:=by
    have h0:0<2^k*(g+1):=Nat.mul_pos (aOf _) (by omega)
    have:2^(k+1)*(g+1)=2*(2^k*(g+1)):=by rw[aL5];grind
    omega
   rw[e]
   refine g3.Hm (by omega) (by omega) SB fun i hi => ?_
   by_cases WJ:i=k
   ·exact .inl (if_pos WJ)
   ·exact .inr (if_neg WJ)
  ·have e1:=Ey (n:=n) (k:=k) (b:=rhs n (swp k m B')) (x:=x) (c:=fun i=>if i=k then 0 else swp k m B' i k / swp k m B' k k) (A:=swp k m B') (by omega) hck
   have e2:=D1 (n:=n) (k:=k) (m:=m) (b:=rhs n B') (x:=x) (A:=B') (by omega) Yv
   rw[←asF] at e2
   exact(e1.trans e2).trans (h4 x)
theorem BV.alI {n g:Nat} {B:Nat→Nat→Rat} (hF:BV n B) (hS:qL g n (n+1) B):∃X,fL n B (rhs n B) X∧∀i,i<n→aL (X i)≤2*(2^n*(g+1)):=by
 obtain⟨B',h1,h2,h3,h4⟩:=BV.ajJ hF hS n (aKE _)
 refine⟨fun i=>rhs n B' i / B' i i,(h4 _).1 (h1.ahJ _),fun i hi => ?_⟩
 have b1:=h3.bits hi (Nat.lt_succ_self n)
 have b2:=h3.bits hi (show i<n+1 by omega)
 have b3:=GU (B' i n) (B' i i)
 show aL (B' i n / B' i i)≤_
 omega
end Go.PM
namespace Go.PM
theorem Da.wide {s:Int} {g g':Nat} {a:Rat} (h:Da s g a) (hg:g≤g'):Da s g' a:=by
 obtain⟨M,h1,h2⟩:=h
 exact⟨M,h1,Nat.lt_of_lt_of_le h2 (aMH (by decide) hg)⟩
theorem Da.zero {s:Int} {g:Nat}:Da s g 0:=⟨0,by simp,by simpa using aOf g⟩
theorem Da.mul {s t:Int} {g h:Nat} {a b:Rat} (ha:Da s g a) (hb:Da t h b):Da (s*t) (g+h) (a*b):=by
 obtain⟨M,m1,m2⟩:=ha
 obtain⟨N,n1,n2⟩:=hb
 refine⟨M*N,?_,?_⟩
 ·rw[aOe,aOe,←m1,←n1]
  grind
 ·rw[aNi,aMS]
  exact aOd m2 n2
theorem Da.sum {s:Int} {g:Nat} {f:Nat→Rat}:∀ {n:Nat},(∀j,j<n→Da s g (f j))→∃M:Int,Sg f n*(s:Rat)=(M:Rat)∧M.natAbs≤n*(2^g-1)
 | 0,_=>⟨0,by simp[Sg],by simp⟩
 |
  n+1,h=>by
  obtain⟨M,m1,m2⟩:=Da.sum (n:=n) fun j hj=>h j (by omega)
  obtain⟨N,n1,n2⟩:=h n (by omega)
  refine⟨M+N,?_,?_⟩
  ·rw[Sg,Rat.add_mul,m1,n1,Rat.intCast_add]
  ·have:=Int.natAbs_add_le M N
   rw[Nat.add_mul]
   omega
theorem Da.ahC {s:Int} {g n:Nat} {f:Nat→Rat} (hn:n≤16) (h:∀j,j<n→Da s g (f j)):Da s (g+4) (Sg f n):=by
 obtain⟨M,m1,m2⟩:=Da.sum h
 refine⟨M,m1,?_⟩
 have h1:n*(2^g-1)≤16*(2^g-1):=aK5 _ hn
 have h2:=aOf g
 rw[aMS]
 omega
def dG (h n:Nat) (X:Nat→Rat):Prop:=∃t:Int,t≠0∧t.natAbs<2^h∧∀i,i<n→Da t h (X i)
theorem dG.bits {h n:Nat} {X:Nat→Rat} (hX:dG h n X) {i:Nat} (hi:i<n):aL (X i)≤h:=by
 obtain⟨t,h1,h2,h3⟩:=hX
 exact(h3 i hi).bits h1 h2
theorem qL.row {g n m:Nat} {A:Nat→Nat→Rat} (h:qL g n m A) {i:Nat} (hi:i<n):dG g m (A i):=by
 obtain⟨s,h1,h2,h3⟩:=h
 exact⟨s,h1,h2,fun j hj=>h3 i j hi hj⟩
theorem dG.mix {g h n:Nat} {c X:Nat→Rat} (hc:dG g n c) (hX:dG h n X) (hn:n≤16):aL (Sg (fun j=>c j*X j) n)≤g+h+4:=by
 obtain⟨s,s1,s2,s3⟩:=hc
 obtain⟨t,t1,t2,t3⟩:=hX
 have h1:=Da.ahC (s:=s*t) (g:=g+h) hn fun j hj=>(s3 j hj).mul (t3 j hj)
 refine h1.bits (Int.mul_ne_zero s1 t1) ?_
 rw[aNi]
 have h2:s.natAbs*t.natAbs<2^g*2^h:=aOd s2 t2
 rw[←aMS] at h2
 exact Nat.lt_of_lt_of_le h2 (aMH (by decide) (by omega))
theorem dG.some {g n:Nat} {c:Nat→Rat} (hc:dG g n c) (p:Nat→Prop) [DecidablePred p]:dG g n fun j=>if p j then 0 else c j:=by
 obtain⟨s,s1,s2,s3⟩:=hc
 refine⟨s,s1,s2,fun j hj => ?_⟩
 by_cases h:p j
 ·simp only[h,if_true]
  exact Da.zero
 ·simp only[h,if_false]
  exact s3 j hj
structure XS (n k g:Nat) (A:Nat→Nat→Rat) (b X:Nat→Rat):Prop where
 f:BV n A
 u:BI n k A
 s:fL n A b X
 z:qL g n n A
structure DgS (n k g:Nat) (A:Nat→Nat→Rat) (b X:Nat→Rat):Prop where
 f:BV n A
 u:Nc n k A
 s:fL n A b X
 z:qL g n n A
section
variable {n k m g h:Nat} {A:Nat→Nat→Rat} {b X:Nat→Rat}
theorem XS.swp (H:XS n k g A b X) (hk:k≤m) (hm:m<n):XS n k g (swp k m A) (swp k m b) X :=
 ⟨OH (by omega) hm H.f,H.u.swp hk hm,(D1 (by omega) hm).2 H.s,H.z.swp (by omega) hm⟩
theorem DgS.swp (H:DgS n k g A b X) (hk:k≤m) (hm:m<n):DgS n k g (swp k m A) (swp k m b) X :=
 ⟨OH (by omega) hm H.f,H.u.swp hk hm,(D1 (by omega) hm).2 H.s,H.z.swp (by omega) hm⟩
def Nd (k:Nat) (A:Nat→Nat→Rat):Nat→Rat:=fun i=>if k<i then A i k / A k k else 0
def cDg (k:Nat) (A:Nat→Nat→Rat):Nat→Rat:=fun i=>if i=k then 0 else A i k / A k k
theorem XS.step (H:XS n k g A b X) (SB:A k k≠0) (hk:k<n):XS n (k+1) (2*g+1) (Hm (Nd k A) k A) (TV (Nd k A) k b) X:=by
 have hc:Nd k A k=0:=if_neg (Nat.lt_irrefl _)
 refine⟨Ol hk hc H.f,H.u.step SB hk,(Ey hk hc).2 H.s,H.z.Hm hk hk SB fun i _ => ?_⟩
 unfold Nd
 by_cases h:k<i
 ·exact .inr (if_pos h)
 ·exact .inl (if_neg h)
theorem DgS.step (H:DgS n k g A b X) (SB:A k k≠0) (hk:k<n):DgS n (k+1) (2*g+1) (Hm (cDg k A) k A) (TV (cDg k A) k b) X:=by
 have hc:cDg k A k=0:=if_pos rfl
 refine⟨Ol hk hc H.f,H.u.step SB hk,(Ey hk hc).2 H.s,H.z.Hm hk hk SB fun i _ => ?_⟩
 unfold cDg
 by_cases h:i=k
 ·exact .inl (if_pos h)
 ·exact .inr (if_neg h)
theorem XS.right (H:XS n k g A b X) (hX:dG h n X) (hn:n≤16) {i:Nat} (hi:i<n):aL (b i)≤g+h+4:=by
 rw[←H.s i hi]
 exact(H.z.row hi).mix hX hn
theorem DgS.right (H:DgS n k g A b X) (hX:dG h n X) (hn:n≤16) {i:Nat} (hi:i<n):aL (b i)≤g+h+4:=by
 rw[←H.s i hi]
 exact(H.z.row hi).mix hX hn
theorem DgS.done (H:DgS n n g A b X) {i:Nat} (hi:i<n):X i=b i / A i i:=(H.f.uniq H.s (H.u.ahJ b)) i hi
def bk (A:Nat→Nat→Rat) (b X:Nat→Rat) (k j:Nat):Rat:=b k-(Sg (fun m=>A k m*X m) j-Sg (fun m=>A k m*X m) (k+1))
theorem amK:bk A b X k (k+1)=b k:=by unfold bk;grind
theorem arS {j:Nat}:bk A b X k (j+1)=bk A b X k j-A k j*X j:=by unfold bk;rw[Sg];grind
theorem axX {f:Nat→Rat} {a:Nat}:∀ {j n:Nat},a≤j→j≤n→Sg f n-(Sg f j-Sg f a)=Sg (fun m=>if a≤m∧m<j then 0 else f m) n:=by
 intro j n haj Eo
 induction n with
 |
  zero =>
  have h1:j=0:=by omega
  have h2:a=0:=by omega
  subst h1 h2
  simp only[Sg]
  grind
 |
  succ n ih =>
  by_cases hj:j=n+1
  ·subst hj
   have e:Sg (fun m=>if a≤m∧m<n+1 then 0 else f m) (n+1)=Sg f a:=by
    clear ih Eo
    have key:∀k,Sg (fun m=>if a≤m∧m<n+1 then 0 else f m) (min k a)=Sg f (min k a):=fun k=>iI fun i hi=>if_neg (by omega)
    have h1:=key (n+1)
    have h2:∀d,a+d≤n+1→Sg (fun m=>if a≤m∧m<n+1 then 0 else f m) (a+d)=Sg (fun m=>if a≤m∧m<n+1 then 0 else f m) a:=by
     intro d
     induction d with
     | zero=>intro _;rfl
     |
      succ d ih =>
      intro hd
      rw[←Nat.add_assoc,Sg,ih (by omega),if_pos ⟨by omega,by omega⟩]
      grind
    have h3:=h2 (n+1-a) (by omega)
    rw[show a+(n+1-a)=n+1 by omega] at h3
    rw[h3]
    have h4:=key a
    rwa [Nat.min_self] at h4
   rw[e]
   grind
  ·rw[Sg,Sg,←ih (by omega),if_neg (by omega)]
   grind
theorem XS.part (H:XS n n g A b X) (hX:dG h n X) (hn:n≤16) {j:Nat} (hk:k<n) (hj:k+1≤j) (Eo:j≤n):aL (bk A b X k j)≤g+h+4:=by
 have e:bk A b X k j=Sg (fun m=>(if k+1≤m∧m<j then 0 else A k m)*X m) n:=by
  unfold bk
  rw[←H.s k hk,axX hj Eo]
  refine iI fun m _ => ?_
  by_cases hm:k+1≤m∧m<j
  ·rw[if_pos hm,if_pos hm];grind
  ·rw[if_neg hm,if_neg hm]
 rw[e]
 exact((H.z.row hk).some fun m=>k+1≤m∧m<j).mix hX hn
theorem XS.back (H:XS n n g A b X) (hk:k<n):X k=bk A b X k n / A k k:=H.u.back H.s hk
end
def gk (g:Nat):Nat→Nat
 | 0=>g
 | k+1=>2*gk g k+1
theorem auX {g:Nat}:∀ {k n:Nat},k≤n→gk g k≤2^n*(g+1)
 |
  0,n,_=>by
  have:=Nat.one_le_two_pow (n:=n)
  have h:1*(g+1)≤2^n*(g+1):=aK5 _ this
  show g≤_
  omega
 |
  k+1,n,hk=>by
  have key:∀k,gk g k+1=2^k*(g+1):=by
   intro k
   induction k with
   | zero=>simp[gk]
   | succ k ih=>rw[gk,aL5];grind
  have h1:=key (k+1)
  have h2:2^(k+1)*(g+1)≤2^n*(g+1):=aK5 _ (aMH (by decide) hk)
  omega
end Go.PM
namespace Go.PM
theorem Tb.swap {f:Rat→VV} {lo hi N M b g:Nat} {F:Nat→Nat→Rat} {H:aA} (h:Tb f lo hi N M b g F H) {k m:Nat} (hk:k<N) (hm:m<N) :
  ∃u v,bF false 1 (.ptr b g k 0) H=some u∧bF false 1 (.ptr b g m 0) H=some v∧∀fW,fW≤lo→∃H1 H2,bL fW 1 (.ptr b g k 0) v H=some H1∧(∀c,bJ 1 (.ref b g 0 N c) (VI m) H1=some (.ptr b g m 0))∧bL fW 1 (.ptr b g m 0) u H1=some H2∧Qm lo hi H H1∧Qm lo hi H H2∧Tb f lo hi N M b g (swp k m F) H2:=by
 obtain⟨rs,hM,hx⟩:=h
 have hl:=congrArg aNO hx
 rw[aMl,Cb] at hl
 have hkl:k<rs.length:=by omega
 have hml:m<rs.length:=by omega
 have hrk:rs[k]? = some rs[k]:=aKL hkl
 have Md:rs[m]? = some rs[m]:=aKL hml
 have MY:∀i (hi:i<rs.length),rs[i].xs=vec M (F i):=fun i hi=>by
  have h1:(rs.map (·.xs))[i]? = some rs[i].xs:=by rw[aN9,aKL hi];rfl
  rw[hx,Ns (by omega)] at h1
  exact(Option.some.inj h1).symm
 have auO:((rs.set k rs[m]).set m rs[k]).Perm rs:=List.set_set_perm hkl hml
 refine⟨_,_,hM.cell hrk,hM.cell Md,fun fW dS => ?_⟩
 have s1:=dP (f:=tU) (e:=1) (x:=rs[m]) (j:=k) (lo:=fW) hM.out hkl (aKF dS hM.blo) rfl rfl
 have o1:=bQ (es:=(rs.set k rs[m]).map tU) (e:=1) (w:=true) (g:=g) hM.out
 have s2:=dP (f:=tU) (e:=1) (x:=rs[k]) (j:=m) (lo:=fW) o1 (by rw[aMC];exact hml) (aKF dS hM.blo) rfl rfl
 have o2:=bQ (es:=((rs.set k rs[m]).set m rs[k]).map tU) (e:=1) (w:=true) (g:=g) o1
 have GJ:=hM.blo
 have hb2:=hM.bhi
 refine⟨_,_,s1,fun c => ?_,s2,⟨by rw[aMC],fun b' g' x xM h=>aX (by omega) h⟩,⟨by rw[aMC,aMC],fun b' g' x xM h=>aX (by omega) (aX (by omega) h)⟩,(rs.set k rs[m]).set m rs[k],⟨o2,hM.blo,hM.bhi,?_,fun r hr => ?_⟩,?_⟩
 ·have:=bB (o:=0) (n:=N) (c:=c) (i:=m) (k := .i64) o1 hm
  rwa [aMc] at this
 ·exact(auO.map (·.b)).nodup_iff.2 hM.rows.nd
 ·obtain⟨k1,k2,k3,k4,k5⟩:=hM.rows.row r (auO.mem_iff.1 hr)
  exact⟨k1,k2,k3,k4,aX (Ne.symm k3) (aX (Ne.symm k3) k5)⟩
 ·have e:((rs.set k rs[m]).set m rs[k]).map (fun r:CE Rat=>r.xs)=((rs.map (fun r:CE Rat=>r.xs)).set k rs[m].xs).set m rs[k].xs:=by rw[aOc,aOc]
  rw[e,hx,MY m hml,MY k hkl,TH,TH]
  refine KX fun a c _ _ => ?_
  unfold swp
  by_cases h1:a=m
  ·subst h1
   rw[if_pos rfl]
   by_cases h2:a=k
   ·subst h2;rw[if_pos rfl]
   ·rw[if_neg h2,if_pos rfl]
  ·rw[if_neg h1]
   by_cases h2:a=k
   ·rw[if_pos h2,if_pos h2]
   ·rw[if_neg h2,if_neg h2,if_neg h1]
def zL (bb:Nat→Rat) (i:Nat) (y:Rat) (j:Nat):Rat:=if j=i then y else bb j
def Rw (f:Rat→VV) (rb rg n:Nat) (bb:Nat→Rat) (H:aA):Prop:=aG H rb rg=some ((vec n bb).map f,3,true)
section
variable {f:Rat→VV} {rb rg n i:Nat} {bb:Nat→Rat} {H:aA}
theorem Rw.addr {c:Nat} (h:Rw f rb rg n bb H) (hi:i<n):bJ 3 (.ref rb rg 0 n c) (VI i) H=some (.ptr rb rg i 0):=by
 have:=bB (o:=0) (n:=n) (c:=c) (i:=i) (k := .i64) h hi
 rwa [aMc] at this
theorem Rw.get (h:Rw f rb rg n bb H) (hi:i<n) (ag:Bool):bF ag 3 (.ptr rb rg i 0) H=dQ ag 3 (f (bb i)) 0:=qB (f:=f) h (wW hi)
theorem Rw.put {lo:Nat} (h:Rw f rb rg n bb H) (hi:i<n) (dS:lo≤rb) (hfs:∀x,(aB (f x)).length=3) (hfa:∀x,(aB (f x)).all bP=true) (y:Rat) :
  ∃H',bL lo 3 (.ptr rb rg i 0) (f y) H=some H'∧H'.length=H.length∧(∀b g x,b≠rb→aG H b g=some x→aG H' b g=some x)∧Rw f rb rg n (zL bb i y) H':=by
 have s:=dP (lo:=lo) (f:=f) (x:=y) (j:=i) h (by rw[jK];exact hi) dS (hfs y) (hfa y)
 rw[NB] at s
 exact⟨_,s,by rw[aMC],fun b g x hb h=>aX (Ne.symm hb) h,bQ h⟩
theorem Rw.congr {Iy:Nat→Rat} (h:Rw f rb rg n bb H) (he:∀j,j<n→bb j=Iy j):Rw f rb rg n Iy H:=by
 unfold Rw at *
 rw[←vB he]
 exact h
end
structure Sy (f:Rat→VV) (lo hi n b g rb rg:Nat) (A:Nat→Nat→Rat) (bb:Nat→Rat) (H:aA):Prop where
 t:Tb f lo hi n n b g A H
 r:Rw f rb rg n bb H
 d:rb<lo∨hi≤rb
def C0 (lo hi rb:Nat) (H H':aA):Prop:=H.length≤H'.length∧∀b g x,(b<lo∨hi≤b)→b≠rb→aG H b g=some x→aG H' b g=some x
theorem C0.refl {lo hi rb:Nat} {H:aA}:C0 lo hi rb H H:=⟨aKE _,fun _ _ _ _ _ h=>h⟩
theorem C0.trans {lo hi rb:Nat} {H H' Uo:aA} (h:C0 lo hi rb H H') (h':C0 lo hi rb H' Uo):C0 lo hi rb H Uo:=⟨aKF h.1 h'.1,fun b g x h1 h2 h3=>h'.2 b g x h1 h2 (h.2 b g x h1 h2 h3)⟩
theorem C0.app {lo hi rb:Nat} {H L:aA}:C0 lo hi rb H (H++L):=⟨by simp,fun _ _ _ _ _ h=>eV h⟩
theorem Qm.aCt {lo hi rb:Nat} {H H':aA} (h:Qm lo hi H H'):C0 lo hi rb H H':=⟨aOb h.1.symm,fun b g x h1 _ h3=>h.2 b g x h1 h3⟩
section
variable {f:Rat→VV} {lo hi n b g rb rg i j:Nat} {A:Nat→Nat→Rat} {bb:Nat→Rat} {H H':aA}
theorem Sy.app {L:aA} (h:Sy f lo hi n b g rb rg A bb H):Sy f lo hi n b g rb rg A bb (H++L):=⟨h.t.pre (aMy _ _),eV h.r,h.d⟩
theorem Sy.congr {A':Nat→Nat→Rat} {Iy:Nat→Rat} (h:Sy f lo hi n b g rb rg A bb H) (h1:∀a c,a<n→c<n→A a c=A' a c) (h2:∀a,a<n→bb a=Iy a):Sy f lo hi n b g rb rg A' Iy H:=⟨h.t.congr h1,h.r.congr h2,h.d⟩
theorem Sy.spot (h:Sy f lo hi n b g rb rg A bb H) (qQ:i<n) (hj:j<n) (hfs:∀x,(aB (f x)).length=3) (hfa:∀x,(aB (f x)).all bP=true) :
  ∃p q,bF false 1 (.ptr b g i 0) H=some p∧bJ 3 p (VI j) H=some q∧(∀ag,bF ag 3 q H=dQ ag 3 (f (A i j)) 0) ∧
  ∀fW y,fW≤lo→∃H',bL fW 3 q (f y) H=some H'∧C0 lo hi rb H H'∧Sy f lo hi n b g rb rg (PO A i j y) bb H':=by
 obtain⟨rb1,rg1,rc1,c1,c2,c3,c4⟩:=h.t.spot qQ hj hfs hfa
 refine⟨_,_,c1,c2,c3,fun fW y dS => ?_⟩
 obtain⟨H',d1,d2,d3,_⟩:=c4 fW y dS
 exact⟨H',d1,d2.aCt,d3,d2.2 _ _ _ h.d h.r,h.d⟩
theorem Sy.put {fW:Nat} (h:Sy f lo hi n b g rb rg A bb H) (qQ:i<n) (dS:fW≤rb) (hfs:∀x,(aB (f x)).length=3) (hfa:∀x,(aB (f x)).all bP=true) (y:Rat) :
  ∃H',bL fW 3 (.ptr rb rg i 0) (f y) H=some H'∧C0 lo hi rb H H'∧Sy f lo hi n b g rb rg A (zL bb i y) H':=by
 obtain⟨H',h1,h2,h3,h4⟩:=h.r.put qQ dS hfs hfa y
 have hd:=h.d
 exact⟨H',h1,⟨aOb h2.symm,fun b g x _ hb hx=>h3 b g x hb hx⟩,h.t.dB fun b' g' x k1 k2 hx=>h3 b' g' x (by omega) hx,h4,h.d⟩
end
end Go.PM
namespace Go.PM
def Pm (p:Nat×List P9):List (List Rat):=Qr p.1 p.1 (iX p.2)
structure QOk (p:Nat×List P9):Prop where
 n:p.1≤12
 l:p.2.length≤400
 t:∀t∈p.2,aL t.2.2≤1331∧0≤t.2.2
 s:∃i j q,(i,j,q)∈p.2∧i≠j∧0<q∧i<p.1∧j<p.1
theorem QOk.aHr {p:Nat×List P9} (h:QOk p):IP (Pm p)≠0:=by
 obtain⟨i,j,q,h1,h2,h3,h4,h5⟩:=h.s
 exact XT (fun t ht=>(h.t t ht).2) h1 h2 h3 h4 h5
theorem QOk.rows {p:Nat×List P9} (h:QOk p):∀r∈Pm p,r.length=p.1∧∀q∈r,aL q≤600000:=fun r hr=>by
 obtain⟨h1,h2⟩:=XK (Q:=1331) (fun t ht=>(h.t t ht).1) r hr
 have h3:p.2.length*(1331+1)≤400*(1331+1):=aK5 _ h.l
 exact⟨h1,fun q hq=>by have:=h2 q hq;omega⟩
theorem XJ {p:Nat×List P9}:(Pm p).length=p.1:=Cb ..
end Go.PM