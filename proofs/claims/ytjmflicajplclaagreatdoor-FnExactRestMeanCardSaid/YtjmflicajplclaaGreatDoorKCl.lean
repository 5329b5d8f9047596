/- Texts of a claim, in one: part 12. -/
import Derived.KernelRfl
import Derived.Test.YtjmflicajplclaaGreatDoorKCk
open And renaming intro → aMd
open Int renaming le_refl → aNV,natAbs_mul → aNb
open List renaming append_nil → aLF,countP_eq_length → aNX,eq_nil_of_length_eq_zero → aKD,ext_getElem? → aN1,foldl_append → aNI,getD_eq_getElem?_getD → aKu,getElem?_eq_getElem → aKE,getElem?_eq_none → aKX,getElem?_map → aN2,getElem?_replicate → aNW,getElem_mem → aKK,length → aNH,length_append → aKI,length_cons → aKH,length_map → aMe,length_nil → aMa,length_replicate → aMm,length_set → aMv,map_append → aMU,map_id → aNY,map_map → aN0,map_set → aN5,mem_append → aLt,mem_cons_of_mem → aK6,mem_cons_self → aK7,mem_map → aL8,mem_of_getElem? → aLr,mem_range → aK8,mem_singleton → aLD,prefix_append → aMr,range → aKt,range_succ → aNS,replicate → aLn,replicate_succ → aLH,replicate_zero → aNZ,set_cons_zero → aMb,take_add_one → aMn,take_append_of_le_length → aM8,take_length → aLK,take_of_length_le → aLq
open Nat renaming le_of_ble_eq_true → aMl,le_of_eq → aN4,le_refl → aKx,le_trans → aKy,mul_le_mul_right → aKY,mul_lt_mul'' → aN6,pow_add → aML,pow_le_pow_right → aMA,pow_succ → aLY,sub_self → aKQ,two_pow_pos → aN8,zero_add → aL5,zero_le → aK1
open Option renaming getD_some → aNL
open Rat renaming intCast_mul → aN7,le_refl → aN3
set_option linter.unusedSimpArgs false
set_option linter.unusedVariables false
namespace Go.PM
def Yi (st:List Int) (i:Nat):Bool:=decide (KR st i<0)
def gtB (u e:Int):Bool:=decide (u<e)
section
variable {cO vN:Int} {cs:List lT} {st:List Int} {t:Int}
theorem oS.sorted (hc:oS cs):∀ {i j:Nat},i≤j→j<cs.length→P9 cs i≤P9 cs j:=by
 intro i j Qr hj
 induction j with
 |
  zero =>
  have:i=0:=by omega
  subst this
  exact aNV _
 |
  succ j ih =>
  rcases Nat.lt_or_ge i (j+1) with h | h
  ·have h1:=ih (by omega) (by omega)
   have hx:cs[j+1]? = some cs[j+1]:=aKE hj
   have hy:cs[j]? = some cs[j]:=aKE (by omega)
   have h2:=(hc.1 (j+1) _ hx).2 _ (by omega) (by rw[Nat.add_sub_cancel];exact hy)
   rw[X7 hx]
   rw[X7 hy] at h1
   omega
  ·have:i=j+1:=by omega
   subst this
   exact aNV _
theorem Js {fU:Nat} (aCl:fU≤cs.length) (past:∀i,i<fU→P9 cs i≤t) (fut:∀i,fU≤i→i<cs.length→t<P9 cs i):wt cs st t=(aKt fU).filter (Yi st):=by
 unfold wt
 rw[show cs.length=fU+(cs.length-fU) by omega,List.range_add,List.filter_append]
 have h1:(aKt fU).filter (isW cs st t)=(aKt fU).filter (Yi st):=by
  refine List.filter_congr fun i hi => ?_
  rw[aK8] at hi
  simp[isW,Yi,past i hi]
 have h2:((aKt (cs.length-fU)).map fun x=>fU+x).filter (isW cs st t)=[]:=by
  rw[List.filter_eq_nil_iff]
  intro i hi
  obtain⟨j,hj,rfl⟩:=aL8.1 hi
  rw[aK8] at hj
  have:=fut (fU+j) (by omega) (by omega)
  simp only[isW,Bool.and_eq_true,decide_eq_true_eq]
  omega
 rw[h1,h2,aLF]
structure SD (cO vN:Int) (cs:List lT) (st:List Int) (t:Int) (fU:Nat) (ws:List Nat) (ends:List Int):Prop where
 len:st.length=cs.length
 low:∀i,i<cs.length → -1≤KR st i
 high:∀i,i<cs.length→KR st i≤t
 bd:∀i,i<cs.length→KR st i+1000*(Ig st:Int)≤10000+1000*(cs.length:Int)
 tm : -1≤t
 Rc:fU≤cs.length
 past:∀i,i<fU→P9 cs i≤t
 fut:∀i,fU≤i→i<cs.length→t<P9 cs i∧KR st i<0
 wsq:ws=wt cs st t
 cnt:∀u,t≤u→ends.countP (gtB u)=bz cs st u
 ef:∀e∈ends,t<e
 eb:∀e∈ends,e+1000*(Ig st:Int)≤11000+1000*(cs.length:Int)
 fl:full cO vN cs st t
 room:ws.length+ends.length≤fU
 es:(ends.length:Int)≤vN
 run:runT cO vN cs (t+1) (100000-(t+1)).toNat st=stL cO vN cs
theorem Jg {n i:Nat} (h:i<n):KR (aLn n (-1)) i = -1:=ahL (by rw[aNW,if_pos h])
theorem SD.start (hc:oS cs) (hs:1≤vN):SD cO vN cs (aLn cs.length (-1)) (-1) 0 [] []:=by
 have hw:wt cs (aLn cs.length (-1)) (-1)=[]:=by
  rw[Js (aK1 _) (fun i hi=>by omega) fun i _ hi=>by have:=hc.bnd hi;omega]
  rfl
 have hu:Ig (aLn cs.length (-1))=cs.length:=by simp[Ig,List.countP_replicate]
 refine⟨by simp,fun i hi=>by rw[Jg hi];decide,fun i hi=>by rw[Jg hi];decide,fun i hi=>by rw[Jg hi,hu];omega,by decide,aK1 _,fun i hi=>by omega,fun i _ hi=>⟨by have:=hc.bnd hi;omega,by rw[Jg hi];decide⟩,hw.symm,fun u _ => ?_,fun e he=>(by cases he),fun e he=>(by cases he),.inr (Bb.2 hw),aKx _,by simp;omega,rfl⟩
 unfold bz
 rw[(List.countP_eq_zero (p:=inS cs (aLn cs.length (-1)) u)).2]
 ·rfl
 ·intro i hi
  rw[aK8] at hi
  simp only[inS,Jg hi,Bool.and_eq_true,decide_eq_true_eq]
  omega
def TW (w:Bool) (b e:Int):Int:=if b<0∨(w=true∧e<b) then e else b
theorem axM {es:List Int} {b:Int} (h:0≤b):es.foldl (TW false) b=b:=by
 induction es with
 | nil=>rfl
 |
  cons e es ih =>
  rw[List.foldl_cons]
  have:TW false b e=b:=by
   unfold TW
   rw[if_neg (by simp;omega)]
  rw[this,ih]
theorem avF:∀ {es:List Int} {b:Int},(∀e∈es,0≤e)→(es.foldl (TW true) b=b∨es.foldl (TW true) b∈es)∧(∀e∈es,es.foldl (TW true) b≤e)∧(0≤b→es.foldl (TW true) b≤b)∧(es≠[]→0≤es.foldl (TW true) b)
 | [],b,_=>⟨.inl rfl,fun e he=>(by cases he),fun _=>aNV _,fun h=>absurd rfl h⟩
 |
  e::es,b,h=>by
  rw[List.foldl_cons]
  have h1:=h e aK7
  have h2:∀e'∈es,0≤e':=fun e' he=>h e' (aK6 _ he)
  have hm:(TW true b e=b∨TW true b e=e)∧TW true b e≤e∧(0≤b→TW true b e≤b)∧0≤TW true b e:=by
   unfold TW
   by_cases hc:b<0∨(true=true∧e<b)
   ·rw[if_pos hc]
    refine⟨.inr rfl,aNV _,fun hb => ?_,h1⟩
    rcases hc with hc | hc<;>omega
   ·rw[if_neg hc]
    simp at hc
    exact⟨.inl rfl,hc.2,fun _=>aNV _,hc.1⟩
  obtain⟨m1,m2,m3,m4⟩:=hm
  obtain⟨g1,g2,g3,g4⟩:=avF (es:=es) (b:=TW true b e) h2
  have g3:=g3 m4
  refine⟨?_,?_,fun hb=>by have:=m3 hb;omega,fun _ => ?_⟩
  ·rcases g1 with g1 | g1
   ·rw[g1]
    rcases m1 with m1 | m1
    ·exact .inl m1
    ·rw[m1];exact .inr aK7
   ·exact .inr (aK6 _ g1)
  ·intro e' he
   rcases List.mem_cons.1 he with rfl | he
   ·omega
   ·exact g2 e' he
  ·rcases g1 with g1 | g1
   ·rw[g1];exact m4
   ·exact h2 _ g1
def TE (cs:List lT) (fU:Nat):Int:=if fU<cs.length then P9 cs fU else -1
def NO (cs:List lT) (fU:Nat) (ws:List Nat) (ends:List Int):Int:=ends.foldl (TW (decide (0<ws.length))) (TE cs fU)
theorem SD.amK {fU:Nat} {ws:List Nat} {ends:List Int} (h:SD cO vN cs st t fU ws ends):ends.length=bz cs st t:=by
 rw[←h.cnt t (aNV _),aNX.2]
 intro e he
 exact decide_eq_true (h.ef e he)
theorem SD.time {fU:Nat} {ws:List Nat} {ends:List Int} (h:SD cO vN cs st t fU ws ends) (hc:oS cs) (hs:1≤vN) (hg:fU<cs.length∨0<ws.length) :
  (t<NO cs fU ws ends∧NO cs fU ws ends+1000*(Ig st:Int)≤11000+1000*(cs.length:Int))∧(∀i,fU≤i→i<cs.length→NO cs fU ws ends≤P9 cs i) ∧
   (fU<cs.length∧P9 cs fU=NO cs fU ws ends∨0<ws.length∧NO cs fU ws ends∈ends)∧runT cO vN cs (NO cs fU ws ends) (100000-NO cs fU ws ends).toNat st=stL cO vN cs:=by
 have htm:=h.tm
 have T0:=aaV (st:=st)
 have hlen:=h.len
 have he0:∀e∈ends,0≤e:=fun e he=>by have:=h.ef e he;omega
 have aD3:=hc.2
 by_cases hw:0<ws.length
 ·have hbz:vN≤(bz cs st t:Int):=by
   rcases h.fl with hf | hf
   ·exact hf
   ·rw[Bb,←h.wsq] at hf
    rw[hf] at hw
    simp at hw
  have fS:ends≠[]:=by
   intro he
   have:=h.amK
   rw[he] at this
   simp at this
   omega
  obtain⟨g1,g2,g3,g4⟩:=avF (es:=ends) (b:=TE cs fU) he0
  have abQ:NO cs fU ws ends=ends.foldl (TW true) (TE cs fU):=by unfold NO;rw[decide_eq_true hw]
  rw[abQ]
  generalize ends.foldl (TW true) (TE cs fU)=w at *
  have g4:=g4 fS
  have Pd:(fU<cs.length∧P9 cs fU=w)∨w∈ends:=by
   rcases g1 with g1 | g1
   ·unfold TE at g1
    split at g1
    ·rename_i mJ
     exact .inl ⟨mJ,g1.symm⟩
    ·omega
   ·exact .inr g1
  have htw:t<w∧w+1000*(Ig st:Int)≤11000+1000*(cs.length:Int):=by
   rcases Pd with⟨h1,h2⟩ | h1
   ·have:=h.fut fU (aKx _) h1
    have:=hc.bnd h1
    omega
   ·exact⟨h.ef _ h1,h.eb _ h1⟩
  refine⟨htw,fun i h1 h2 => ?_,Pd.imp id fun h1=>⟨hw,h1⟩,?_⟩
  ·have h3:=hc.sorted h1 h2
   have h4:=hc.bnd (i:=fU) (by omega)
   have h5:TE cs fU=P9 cs fU:=by unfold TE;rw[if_pos (by omega)]
   have:=g3 (by rw[h5];omega)
   omega
  ·rw[←h.run]
   refine(ZA (by omega) (by omega) (by omega) fun u h1 h2 => .inl ?_).symm
   rw[←h.cnt u (by omega),(aNX (p:=gtB u)).2 fun e he=>decide_eq_true (by have:=g2 e he;omega),h.amK]
   exact hbz
 ·have mJ:fU<cs.length:=by omega
  have h5:TE cs fU=P9 cs fU:=by unfold TE;rw[if_pos mJ]
  have h4:=hc.bnd mJ
  have hf:=(h.fut fU (aKx _) mJ).1
  have abQ:NO cs fU ws ends=P9 cs fU:=by unfold NO;rw[decide_eq_false hw,axM (by rw[h5];omega),h5]
  rw[abQ]
  refine⟨⟨hf,by omega⟩,fun i h1 h2=>hc.sorted h1 h2,.inl ⟨mJ,rfl⟩,?_⟩
  rw[←h.run]
  refine(ZA (by omega) (by omega) (by omega) fun u h1 h2 => .inr ?_).symm
  rw[Bb,Js h.Rc (fun i hi=>by have:=h.past i hi;omega) fun i h3 h4=>by have:=hc.sorted h3 h4;omega]
  have e1:=Js (st:=st) h.Rc h.past fun i h3 h4=>(h.fut i h3 h4).1
  rw[←e1,←h.wsq]
  exact aKD (by omega)
theorem SD.done {fU:Nat} {ws:List Nat} {ends:List Int} (h:SD cO vN cs st t fU ws ends) (aCl:¬fU<cs.length) (hw:¬0<ws.length):st=stL cO vN cs:=by
 rw[←h.run]
 refine(afA _ _ fun u hu => .inr ?_).symm
 have mJ:=h.Rc
 have e1:=Js (st:=st) h.Rc h.past fun i h3 h4=>(h.fut i h3 h4).1
 rw[Bb,Js h.Rc (fun i hi=>by have:=h.past i hi;omega) fun i h3 h4=>by omega,←e1,←h.wsq]
 exact aKD (by omega)
structure Ph4 (cO vN:Int) (cs:List lT) (KS:List Int) (now:Int) (fU tot:Nat) (st:List Int) (ws:List Nat) (ends:List Int):Prop where
 way:Way cs st now
 wsq:ws=wt cs st now
 cnt:∀u,now≤u→ends.countP (gtB u)=bz cs st u
 ef:∀e∈ends,now<e
 eb:∀e∈ends,e+1000*(Ig st:Int)≤11000+1000*(cs.length:Int)
 fl:fill cO vN cs now cs.length st=fill cO vN cs now cs.length KS
 past:∀i,i<fU→P9 cs i≤now
 fut:∀i,fU≤i→i<cs.length→now<P9 cs i∧KR st i<0
 tot:ws.length+ends.length=tot
 es:(ends.length:Int)≤vN
theorem EA:∀ {l:List Nat} {i k:Nat},l.Nodup→l[i]? = some k→l.eraseIdx i=l.filter (· != k)
 | [],_,_,_,h=>by cases h
 |
  x::l,0,k,hn,h=>by
  injection h with h
  subst h
  rw[List.nodup_cons] at hn
  rw[List.eraseIdx_cons_zero,List.filter_cons_of_neg (by simp),List.filter_eq_self.2]
  intro y hy
  have:y≠x:=fun he=>hn.1 (he▸hy)
  simpa using this
 |
  x::l,i+1,k,hn,h=>by
  rw[List.nodup_cons] at hn
  rw[List.getElem?_cons_succ] at h
  have hx:x≠k:=fun he=>hn.1 (he▸aLr h)
  rw[List.eraseIdx_cons_succ,List.filter_cons_of_pos (by simpa using hx),EA hn.2 h]
theorem Ph4.step {now:Int} {KS:List Int} {fU tot:Nat} {ws:List Nat} {ends:List Int} (h:Ph4 cO vN cs KS now fU tot st ws ends) (hc:oS cs) (hr:0≤cO∧cO≤3) (hb:(ends.length:Int)<vN) (fS:0<ws.length) :
  ∃k,ws[NT cO cs ws]? = some k∧k<cs.length∧NT cO cs ws<ws.length∧(0≤now∧now≤35000)∧Ph4 cO vN cs KS now fU tot (st.set k now) (ws.eraseIdx (NT cO cs ws)) (ends++[now+wkC cs k]):=by
 have adW:ws≠[]:=fun he=>by rw[he] at fS;simp at fS
 obtain⟨g1,g2⟩:=ahD (cs:=cs) adW hr
 obtain⟨k,hk⟩:∃k,ws[NT cO cs ws]? = some k:=⟨_,aKE g1⟩
 have hnx:nxt cO cs st now=some k:=by
  unfold nxt
  rw[←h.wsq,←g2,hk]
 obtain⟨m1,m2,m3⟩:=Pg.1 (Ts hnx)
 have htm:=h.way.tm
 have hle:=(h.way.le hc).1
 have hbz:(bz cs st now:Int)=ends.length:=by
  rw[←h.cnt now (aNV _),(aNX (p:=gtB now)).2 fun e he=>decide_eq_true (h.ef e he)]
 have SO:k<st.length:=by rw[h.way.len];exact m1
 have hus:=Df (t:=now) SO m2 htm.1
 have hwk:=(hc.bnd m1).2
 refine⟨k,hk,m1,g1,⟨htm.1,hle⟩,h.way.set m1 m2,?_,?_,?_,?_,?_,h.past,?_,?_,?_⟩
 ·rw[avX h.way.len m1 htm.1,←h.wsq]
  exact EA (by rw[h.wsq];exact amA) hk
 ·intro u hu
  rw[List.countP_append,h.cnt u hu,awB m1 h.way.len m2 htm.1,List.countP_singleton]
  congr 1
  simp only[gtB,decide_eq_true_eq]
  by_cases hq:u<now+wkC cs k
  ·rw[if_pos hq,if_pos ⟨hu,hq⟩]
  ·rw[if_neg hq,if_neg fun h'=>hq h'.2]
 ·intro e he
  rcases aLt.1 he with he | he
  ·exact h.ef e he
  ·rw[aLD] at he
   omega
 ·intro e he
  rcases aLt.1 he with he | he
  ·have:=h.eb e he
   omega
  ·rw[aLD] at he
   omega
 ·rw[adN h.way.len htm.1 (by rw[hbz];exact hb) hnx,h.fl]
 ·intro i h1 h2
  have h3:=h.fut i h1 h2
  refine⟨h3.1,?_⟩
  rw[J7 SO,if_neg (fun he=>by subst he;omega)]
  exact h3.2
 ·rw[List.length_eraseIdx_of_lt g1,aKI,aKH,aMa]
  have:=h.tot
  omega
 ·rw[aKI,aKH,aMa]
  omega
theorem Ph4.done {now:Int} {KS:List Int} {fU tot:Nat} {ws:List Nat} {ends:List Int} (h:Ph4 cO vN cs KS now fU tot st ws ends) (hc:oS cs) (mJ:fU≤cs.length) (ht:tot≤fU) (hf:vN≤(ends.length:Int)∨ws=[])
  (hr:runT cO vN cs now (100000-now).toNat KS=stL cO vN cs):SD cO vN cs st now fU ws ends:=by
 have htm:=h.way.tm
 have hle:=(h.way.le hc).1
 have hbz:(bz cs st now:Int)=ends.length:=by
  rw[←h.cnt now (aNV _),(aNX (p:=gtB now)).2 fun e he=>decide_eq_true (h.ef e he)]
 have auH:full cO vN cs st now:=by
  rcases hf with hf | hf
  ·exact .inl (by rw[hbz];exact hf)
  ·exact .inr (Bb.2 (by rw[←h.wsq];exact hf))
 refine⟨h.way.len,h.way.low,h.way.high,h.way.bd,by omega,mJ,h.past,h.fut,h.wsq,h.cnt,h.ef,h.eb,auH,by rw[h.tot];exact ht,h.es,?_⟩
 have h1:=AP auH cs.length
 rw[h.fl] at h1
 rw[akU htm.1 (by omega),h1] at hr
 exact hr
end
end Go.PM
namespace Go.PM
theorem Hg (n:Nat) (h:n<4294967296):TC 207 [VK .u64 1,VK .u64 (n:Int)] (.eG [VK .u64 0,VK .u64 (n:Int)]):=by
 refine TC.walk ⟨true,false⟩ JA rfl (aMl rfl) rfl rfl ?_
 have a1:dK .and (.int .u64 1) (.int .u64 4294967295)=some (.int .u64 1):=S4 1 (by decide)
 have a2:dK .and (.int .u64 (n:Int)) (.int .u64 4294967295)=some (.int .u64 (n:Int)):=by rw[S4 n (by omega),Nat.mod_eq_of_lt h]
 have a0:dK .and (.int .u64 0) (.int .u64 4294967295)=some (.int .u64 0):=S4 0 (by decide)
 have s1:dK .shr (.int .u64 1) (.int .u64 32)=some (.int .u64 0):=qQ 1 .u64
 have s0:dK .shr (.int .u64 0) (.int .u64 32)=some (.int .u64 0):=qQ 0 .u64
 have s2:dK .shr (.int .u64 (n:Int)) (.int .u64 32)=some (.int .u64 0):=by rw[qQ n .u64,Nat.div_eq_of_lt h];rfl
 have w0:IntKind.u64.wrap 0=0:=eR 0 (by decide)
 have wn:IntKind.u64.wrap (n:Int)=n:=eR n (by omega)
 simp only[E2,Ch,a0,a1,a2,s0,s1,s2,w0,wn,Int.one_mul,Int.zero_mul,Int.mul_zero,Int.add_zero,VX,Nat.reduceEqDiff,Nat.reduceAdd]
 exact aL rfl
theorem J1 (n:Nat) (h:n<4294967296):TC 187 [VK .u64 1,VK .u64 (n:Int)] (.eG [VK .u64 0,VK .u64 (n:Int)]):=by
 refine TC.walk ⟨true,false⟩ Na rfl (aMl rfl) rfl rfl ?_
 simp only[HG,EM,Hg n h,VX,Nat.reduceEqDiff,Nat.reduceAdd]
 exact aL rfl
end Go.PM
namespace Go.PM
section
variable {α:Type} {f:α→VV} {H:aA} {b g e lo:Nat} {X Y:List α}
theorem Uw {o:Nat}:dE (X.map f) o (Y.map f)=(X.take o++Y++X.drop (o+Y.length)).map f:=by
 simp[dE]
theorem Rl {o d cc:Nat} {y:VV} (h:aG H b g=some (X.map f,e,true)) (hy:cW e y H=some (Y.map f)) (dR:lo≤b) (ho:o+(Y.take d).length≤X.length) :
  LP lo e (.ref b g o d cc) y H=some (VI (Y.take d).length,H.set b (.row g ((X.take o++Y.take d++X.drop (o+(Y.take d).length)).map f) e true)):=by
 simp only[LP,hy,h]
 rw[←List.map_take,Uw,if_pos ⟨trivial,dR,by simpa using ho⟩,aMe]
end
end Go.PM
namespace Go.PM
def fT:aE:=(LS [LO 68 (.bin .lss (LT 67) (LT 66))] (.seq (.cond (LT 68) .skip (.exit 0)) (.seq (.block 1 (LS [LM 69 67,LO 70 (.iaddr 1 (LT 65) (LT 67)),LO 71 (LL 70),LM 10 69,LM 11 71] (LS [LM 73 11,LO 74 (.call 65 [(LT 73)]),LM 72 74,LO 75 (LX 72 0),LO 76 (LX 72 1),LM 12 75,LM 13 76] (.seq (LS [LM 77 13,LO 78 (.un .not (LT 77)),LM 79 78,LZ 79 80 (.mv (LT 12)),LZ 79 81 (.len (LT 80)),LZ 79 82 (.mv (LT 4)),LZ 79 83 (.bin .neq (LT 81) (LT 82)),LO 84 (.pick (LT 79) LG (LT 83)),LM 85 84,LZ 85 86 (.mv (LT 12)),LZ 85 87 (.call 66 [(LT 86),(.func 67)]),LO 88 (.pick (LT 85) LG (LT 87)),LM 89 88,LZ 89 90 (.mv (LT 12)),LZ 89 91 (.mv (LT 10)),LZ 89 92 (.iaddr 3 (LT 90) (LT 91)),LZ 89 93 (LK 92),LZ 89 94 (.call 68 [(LT 93)]),LZ 89 95 (.bin .neq (LT 94) (LI 0)),LO 96 (.pick (LT 89) LG (LT 95))] (.cond (LT 96) (LS [LO 97 (.build [(.slice none 0 0),(.slice none 0 0),(.slice none 0 0)] [(0,1),(1,1),(2,1)] []),LN (.store 3 (LT 2) (LT 97)),LO 3 (.mv LF)] .ret) .skip)) (.cT [LO 98 (LA 1 9),LO 99 (LL 98),LM 100 12,LO 101 (.lit [(.slice none 0 0)] 1 [(0,(LT 100))]),LO 102 (.app 1 24 (LT 99) (LT 101)),LO 103 (LA 1 9),LN (.store 1 (LT 103) (LT 102))]))))) (.cT [LO 104 (.bin .add (LT 67) (LI 1)),LM 67 104]))))
def dX:aE:=(LS [LO 1 (.box (LT 0)),LO 2 (.new [(.slice none 0 0),(.slice none 0 0),(.slice none 0 0)]),LO 3 (.mv LF)] (LS [LO 14 (LA 0 1),LO 15 (LL 14),LO 16 (.len (LT 15)),LM 4 16] (.seq (LS [LM 17 4,LO 18 (.bin .lss (LT 17) (LI 1)),LM 19 18,LZ 19 20 (.mv (LT 4)),LZ 19 21 (.bin .gtr (LT 20) (LI 6)),LO 22 (.pick (LT 19) LG (LT 21)),LM 23 22,LZ 23 24 (LA 1 1),LZ 23 25 (LL 24),LZ 23 26 (.len (LT 25)),LZ 23 27 (.mv (LT 4)),LZ 23 28 (.bin .neq (LT 26) (LT 27)),LO 29 (.pick (LT 23) LG (LT 28)),LM 30 29,LZ 30 31 (LA 2 1),LZ 30 32 (LL 31),LZ 30 33 (.len (LT 32)),LZ 30 34 (.mv (LT 4)),LZ 30 35 (.bin .neq (LT 33) (LT 34)),LO 36 (.pick (LT 30) LG (LT 35))] (.cond (LT 36) (LS [LO 37 (.build [(.slice none 0 0),(.slice none 0 0),(.slice none 0 0)] [(0,1),(1,1),(2,1)] []),LN (.store 3 (LT 2) (LT 37)),LO 3 (.mv LF)] .ret) .skip)) (LS [LO 39 (LA 0 1),LO 40 (LL 39),LO 41 (.call 98 [(LT 40)]),LM 38 41,LO 42 (LX 38 0),LO 43 (LX 38 1),LM 5 42,LM 6 43] (LS [LO 45 (LA 2 1),LO 46 (LL 45),LO 47 (.call 65 [(LT 46)]),LM 44 47,LO 48 (LX 44 0),LO 49 (LX 44 1),LM 7 48,LM 8 49] (.seq (LS [LM 50 6,LO 51 (.un .not (LT 50)),LM 52 51,LZ 52 53 (.mv (LT 8)),LZ 52 54 (.un .not (LT 53)),LO 55 (.pick (LT 52) LG (LT 54)),LM 56 55,LZ 56 57 (.mv (LT 7)),LZ 56 58 (.call 66 [(LT 57),(.func 67)]),LO 59 (.pick (LT 56) LG (LT 58))] (.cond (LT 59) (LS [LO 60 (.build [(.slice none 0 0),(.slice none 0 0),(.slice none 0 0)] [(0,1),(1,1),(2,1)] []),LN (.store 3 (LT 2) (LT 60)),LO 3 (.mv LF)] .ret) .skip)) (LS [LM 61 5,LM 62 7,LO 63 (.build [(.slice none 0 0),(.slice none 0 0),(.slice none 0 0)] [(0,1),(1,1),(2,1)] [(0,(LT 61)),(2,(LT 62))]),LO 9 (.new [(.slice none 0 0),(.slice none 0 0),(.slice none 0 0)]),LN (.store 3 (LT 9) (LT 63))] (.seq (LS [LO 64 (LA 1 1),LO 65 (LL 64),LO 66 (.len (LT 65)),LO 67 (.mv (LI 0))] (.block 0 (.loop fT))) (LS [LO 105 (LK 9),LO 106 (LA 1 9),LO 107 (LL 106),LM 108 7,LQ 109 (.call 195 [(LT 107),(LT 108)]),LQ 110 (.call 194 [(LT 109),LF]),LO 111 (.un .not (LT 110)),LN (.store 3 (LT 2) (LT 105)),LM 3 111] .ret)))))))))
def gA:aU:=⟨112,[(.cell 2 true 3),(.tmp 3)],dX⟩
theorem Ky:fQ 176=some gA:=by kernel_rfl
def nA:aE:=(LS [LO 42 (.bin .lss (LT 41) (LT 40))] (.seq (.cond (LT 42) .skip (.exit 4)) (.seq (.block 5 (LS [LM 43 41,LO 44 (.iaddr 3 (LT 39) (LT 41)),LO 45 (LK 44),LO 8 (.new [(.bool false),(.slice none 0 0),(.slice none 0 0)]),LM 7 43,LN (.store 3 (LT 8) (LT 45))] (.cT [LM 46 5,LM 47 6,LM 48 5,LM 49 6,LO 50 (.iaddr 1 (LT 48) (LT 49)),LO 51 (LL 50),LM 52 51,LZ 52 53 (LK 8),LZ 52 54 (.call 68 [(LT 53)]),LZ 52 55 (.bin .gtr (LT 54) (LI 0)),LZ 52 56 (.mv (LT 55)),LY 56 57 (.mv (LT 5)),LY 56 58 (.mv (LT 7)),LY 56 59 (.iaddr 1 (LT 57) (LT 58)),LY 56 60 (LL 59),LZ 52 61 (.pick (LT 56) (LT 60) LF),LO 62 (.pick (LT 52) LG (LT 61)),LO 63 (.iaddr 1 (LT 46) (LT 47)),LN (.store 1 (LT 63) (LT 62))]))) (.cT [LO 64 (.bin .add (LT 41) (LI 1)),LM 41 64]))))
def pW:aE:=(LS [LO 19 (.bin .lss (LT 18) (LT 17))] (.seq (.cond (LT 19) .skip (.exit 2)) (.seq (.block 3 (LS [LM 20 18,LM 6 20] (LS [LM 21 5,LM 22 6,LM 23 5,LM 24 6,LO 25 (.iaddr 1 (LT 23) (LT 24)),LO 26 (LL 25),LM 27 26,LZ 27 28 (.mv (LT 1)),LZ 27 29 (.mv (LT 6)),LZ 27 30 (.iaddr 3 (LT 28) (LT 29)),LZ 27 31 (LK 30),LZ 27 32 (.call 68 [(LT 31)]),LZ 27 33 (.bin .gtr (LT 32) (LI 0)),LO 34 (.pick (LT 27) LG (LT 33)),LO 35 (.iaddr 1 (LT 21) (LT 22)),LN (.store 1 (LT 35) (LT 34))] (LS [LM 36 0,LM 37 6,LO 38 (.iaddr 1 (LT 36) (LT 37)),LO 39 (LL 38),LO 40 (.len (LT 39)),LO 41 (.mv (LI 0))] (.block 4 (.loop nA)))))) (.cT [LO 65 (.bin .add (LT 18) (LI 1)),LM 18 65]))))
def CD:aE:=(LS [LO 15 (.bin .lss (LT 14) (LT 13))] (.seq (.cond (LT 15) .skip (.exit 0)) (.seq (.block 1 (LS [LM 16 1,LO 17 (.len (LT 16)),LO 18 (.mv (LI 0))] (.block 2 (.loop pW)))) (.cT [LO 66 (.bin .add (LT 14) (LI 1)),LM 14 66]))))
def Jw:aE:=(LS [LO 4 (.mv (.const (.slice none 0 0)))] (LS [LM 9 1,LO 10 (.len (LT 9)),LO 11 (.make [(.bool false)] 1 (LT 10) (LT 10)),LM 5 11] (.seq (LS [LM 12 1,LO 13 (.len (LT 12)),LO 14 (.mv (LI 0))] (.block 0 (.loop CD))) (LS [LM 67 5,LM 4 67] .ret))))
def PD:aU:=⟨68,[(.tmp 4)],Jw⟩
theorem Ti:fQ 195=some PD:=by kernel_rfl
def EP:aE:=(LS [LO 1 (.box (LT 0)),LO 2 (.mv (.const (.string ⟨#[]⟩))),LO 3 (.mv LF)] (LS [LO 4 (LK 1),LO 5 (.call 116 [(LT 4),(.func 131)]),LO 6 (LX 5 0),LO 7 (LX 5 1),LM 2 6,LM 3 7] .ret))
def Hx:aU:=⟨8,[(.tmp 2),(.tmp 3)],EP⟩
theorem MV:fQ 54=some Hx:=by kernel_rfl
def nX:aE:=(LS [LO 2 (.box (LT 0)),LO 4 (.mv (.const (.string ⟨#[]⟩))),LO 5 (.mv LF)] (LS [LO 9 (LK 2),LO 10 (.call 176 [(LT 9)]),LM 8 10,LO 11 (LX 8 0),LO 12 (LX 8 1),LO 6 (.new [(.slice none 0 0),(.slice none 0 0),(.slice none 0 0)]),LN (.store 3 (LT 6) (LT 11)),LM 7 12] (.seq (LS [LM 13 7,LO 14 (.un .not (LT 13))] (.cond (LT 14) (LS [LO 4 (.mv (.const (.string ⟨#[]⟩))),LO 5 (.mv LF)] .ret) .skip)) (LS [LM 15 1,LO 16 (LK 6),LO 17 (.callv (LT 15) [(LT 16)]),LO 18 (.call 137 [(LT 17)]),LO 19 (LX 18 0),LO 20 (LX 18 1),LM 4 19,LM 5 20] .ret))))
def rN:aU:=⟨21,[(.tmp 4),(.tmp 5)],nX⟩
theorem Ll:fQ 116=some rN:=by kernel_rfl
def nE:aE:=(LS [LO 23 (.bin .lss (LT 22) (LT 21))] (.seq (.cond (LT 23) .skip (.exit 2)) (.seq (.block 3 (LS [LM 24 22,LM 9 24] (LS [LM 25 2] (.cond (LT 25) (.cT [LM 26 7,LM 27 9,LO 28 (.iaddr 1 (LT 26) (LT 27)),LO 29 (LL 28),LM 30 8,LO 31 (LA 1 3),LO 32 (LL 31),LM 33 8,LO 34 (.iaddr 1 (LT 32) (LT 33)),LO 35 (LL 34),LM 36 9,LO 37 (.iaddr 3 (LT 35) (LT 36)),LO 38 (LK 37),LQ 39 (.call 177 [(LT 38)]),LO 40 (.iaddr 3 (LT 29) (LT 30)),LN (.store 3 (LT 40) (LT 39))]) (.cT [LM 41 7,LM 42 8,LO 43 (.iaddr 1 (LT 41) (LT 42)),LO 44 (LL 43),LM 45 9,LO 46 (LA 1 3),LO 47 (LL 46),LM 48 8,LO 49 (.iaddr 1 (LT 47) (LT 48)),LO 50 (LL 49),LM 51 9,LO 52 (.iaddr 3 (LT 50) (LT 51)),LO 53 (LK 52),LQ 54 (.call 177 [(LT 53)]),LO 55 (.iaddr 3 (LT 44) (LT 45)),LN (.store 3 (LT 55) (LT 54))]))))) (.cT [LO 56 (.bin .add (LT 22) (LI 1)),LM 22 56]))))
def nC:aE:=(LS [LO 18 (.bin .lss (LT 17) (LT 16))] (.seq (.cond (LT 18) .skip (.exit 0)) (.seq (.block 1 (LS [LM 19 17,LM 8 19] (LS [LM 20 7,LO 21 (.len (LT 20)),LO 22 (.mv (LI 0))] (.block 2 (.loop nE))))) (.cT [LO 57 (.bin .add (LT 17) (LI 1)),LM 17 57]))))
def nF:aE:=(LS [LO 61 (.bin .lss (LT 60) (LT 59))] (.seq (.cond (LT 61) .skip (.exit 4)) (.seq (.block 5 (LS [LM 62 60,LM 10 62] (.cT [LM 63 7,LM 64 10,LO 65 (.iaddr 1 (LT 63) (LT 64)),LO 66 (LL 65),LM 67 10,LM 68 7,LM 69 10,LO 70 (.iaddr 1 (LT 68) (LT 69)),LO 71 (LL 70),LM 72 10,LO 73 (.iaddr 3 (LT 71) (LT 72)),LO 74 (LK 73),LO 75 (LK 3),LM 76 10,LQ 77 (.call 136 [(LT 75),(LT 76)]),LQ 78 (.call 69 [(LT 74),(LT 77)]),LO 79 (LK 4),LQ 80 (.call 69 [(LT 78),(LT 79)]),LO 81 (.iaddr 3 (LT 66) (LT 67)),LN (.store 3 (LT 81) (LT 80))]))) (.cT [LO 82 (.bin .add (LT 60) (LI 1)),LM 60 82]))))
def vD:aE:=(LS [LO 3 (.box (LT 0)),LO 4 (.box (LT 1)),LO 6 (.mv (.const (.slice none 0 0)))] (LS [LO 11 (LA 0 3),LO 12 (LL 11),LO 13 (.len (LT 12)),LO 14 (.call 99 [(LT 13)]),LM 7 14] (.seq (LS [LM 15 7,LO 16 (.len (LT 15)),LO 17 (.mv (LI 0))] (.block 0 (.loop nC))) (.seq (LS [LM 58 7,LO 59 (.len (LT 58)),LO 60 (.mv (LI 0))] (.block 4 (.loop nF))) (LS [LM 83 7,LM 6 83] .ret)))))
def xM:aU:=⟨84,[(.tmp 6)],vD⟩
theorem Dp:fQ 119=some xM:=by kernel_rfl
def nY:aE:=(LS [LO 13 (.bin .lss (LT 12) (LT 11))] (.seq (.cond (LT 13) .skip (.exit 0)) (.seq (.block 1 (LS [LM 14 12,LO 15 (.iaddr 3 (LT 10) (LT 12)),LO 16 (LK 15),LO 7 (.new [(.bool false),(.slice none 0 0),(.slice none 0 0)]),LM 6 14,LN (.store 3 (LT 7) (LT 16))] (.cT [LO 17 (LK 5),LO 18 (LK 7),LM 19 1,LM 20 6,LO 21 (.iaddr 3 (LT 19) (LT 20)),LO 22 (LK 21),LQ 23 (.call 132 [(LT 18),(LT 22)]),LQ 24 (.call 69 [(LT 17),(LT 23)]),LN (.store 3 (LT 5) (LT 24))]))) (.cT [LO 25 (.bin .add (LT 12) (LI 1)),LM 12 25]))))
def vS:aE:=(LS [LO 2 (.box (LT 0)),LO 4 (.new [(.bool false),(.slice none 0 0),(.slice none 0 0)])] (LS [LO 8 (.call 64 [(LI 0)]),LO 5 (.new [(.bool false),(.slice none 0 0),(.slice none 0 0)]),LN (.store 3 (LT 5) (LT 8))] (.seq (LS [LO 9 (LA 0 2),LO 10 (LL 9),LO 11 (.len (LT 10)),LO 12 (.mv (LI 0))] (.block 0 (.loop nY))) (LS [LO 26 (LK 5),LN (.store 3 (LT 4) (LT 26))] .ret))))
def zV:aU:=⟨27,[(.cell 4 true 3)],vS⟩
theorem D9:fQ 121=some zV:=by kernel_rfl
def nG:aE:=(LS [LO 17 (.bin .lss (LT 16) (LT 15))] (.seq (.cond (LT 17) .skip (.exit 0)) (.seq (.block 1 (LS [LM 18 16,LM 7 18] (LS [LO 20 (LK 2),LQ 21 (.call 64 [(LI 0)]),LQ 22 (.call 119 [(LT 20),(LT 21),LF]),LM 23 5,LO 24 (.call 118 [(LT 22),(LT 23)]),LM 19 24,LO 25 (LX 19 0),LO 26 (LX 19 1),LM 5 25] (.cT [LO 27 (LK 6),LM 28 7,LO 29 (.bin .add (LT 28) (LI 1)),LQ 30 (.call 64 [(LT 29)]),LQ 31 (.call 132 [(LT 27),(LT 30)]),LN (.store 3 (LT 6) (LT 31))])))) (.cT [LO 32 (.bin .add (LT 16) (LI 1)),LM 16 32]))))
def vA:aE:=(LS [LO 2 (.box (LT 0)),LO 4 (.new [(.bool false),(.slice none 0 0),(.slice none 0 0)])] (LS [LQ 8 (.call 64 [(LI 1)]),LQ 9 (.lit [(.bool false),(.slice none 0 0),(.slice none 0 0)] 1 [(0,(LT 8))]),LO 10 (LA 0 2),LO 11 (LL 10),LO 12 (.len (LT 11)),LQ 13 (.call 162 [(LT 9),(LT 12)]),LM 5 13] (LS [LO 14 (.call 64 [(LI 1)]),LO 6 (.new [(.bool false),(.slice none 0 0),(.slice none 0 0)]),LN (.store 3 (LT 6) (LT 14))] (.seq (LS [LM 15 1,LO 16 (.mv (LI 0))] (.block 0 (.loop nG))) (LS [LO 33 (LK 2),LM 34 5,LQ 35 (.call 121 [(LT 33),(LT 34)]),LO 36 (LK 6),LQ 37 (.call 132 [(LT 35),(LT 36)]),LN (.store 3 (LT 4) (LT 37))] .ret)))))
def xE:aU:=⟨38,[(.cell 4 true 3)],vA⟩
theorem Dc:fQ 124=some xE:=by kernel_rfl
def Ca:aE:=(LS [LO 1 (.box (LT 0)),LO 2 (.new [(.bool false),(.slice none 0 0),(.slice none 0 0)])] (LS [LO 3 (LK 1),LQ 4 (.call 124 [(LT 3),(LI 2)]),LO 5 (LK 1),LQ 6 (.call 124 [(LT 5),(LI 1)]),LQ 7 (.call 64 [(LI 2)]),LQ 8 (.call 132 [(LT 6),(LT 7)]),LQ 9 (.call 129 [(LT 4),(LT 8)]),LN (.store 3 (LT 2) (LT 9))] .ret))
def Ez:aU:=⟨10,[(.cell 2 true 3)],Ca⟩
theorem Kf:fQ 131=some Ez:=by kernel_rfl
def zM:aE:=(LS [LO 2 (.box (LT 0)),LO 4 (.new [(.bool false),(.slice none 0 0),(.slice none 0 0)])] (LS [LO 5 (LA 1 2),LO 6 (LL 5),LM 7 1,LO 8 (.iaddr 1 (LT 6) (LT 7)),LO 9 (LL 8),LQ 10 (.call 70 [(LT 9)]),LO 11 (LA 2 2),LO 12 (LL 11),LM 13 1,LO 14 (.iaddr 3 (LT 12) (LT 13)),LO 15 (LK 14),LQ 16 (.call 69 [(LT 10),(LT 15)]),LN (.store 3 (LT 4) (LT 16))] .ret))
def A5:aU:=⟨17,[(.cell 4 true 3)],zM⟩
theorem FM:fQ 136=some A5:=by kernel_rfl
end Go.PM
namespace Go.PM
open Go.Lib
def JE {α:Type} (f:α→VV) (e:Nat) (cG:List α) (lo hi:Nat) (H:aA) (v:VV):Prop :=
 ∃b g c,lo≤b∧b<hi∧v = .ref b g 0 cG.length c∧cG.length≤c∧aG H b g=some (cG.map f,e,true)
def TabIs {α:Type} (f:α→VV) (e:Nat) (m:List (List α)) (lo hi:Nat) (H:aA) (v:VV):Prop :=
 ∃b g c rs,v = .ref b g 0 m.length c∧m.length≤c∧MG f e lo hi b g H rs∧rs.map (·.xs)=m
theorem F3 {α:Type} {f:α→VV} {lo b k e bytes:Nat} {H:aA} {xs:List α} {x:α} (h:aG H b k=some (xs.map f,e,true)) (hk:k=xs.length) (dR:lo≤b) (he:1≤e) (hb:1≤bytes) (E4:(k+1)*bytes≤140737488355328) :
 dP lo e bytes (.ref b k 0 k k) [f x] H=some (.ref b (k+1) 0 (k+1) (k+1),H.set b (.row (k+1) ((xs++[x]).map f) e true)):=jQ h hk dR he hb E4
theorem JE.rd {α:Type} {f:α→VV} {e lo hi:Nat} {cG:List α} {H:aA} {v:VV} (h:JE f e cG lo hi H v):Rd f e cG H v:=by
 obtain⟨b,g,c,h1,h2,rfl,h3,h4⟩:=h
 exact Rd.row h4 rfl
theorem Ao {lo:Nat} {H:aA} (q:Rat) (N:Nat) (hN:N≤1000000) (dR:lo≤H.length) :
  jE 162 [.tree [aF q] (.cl 3),VI N] lo H fun r H'=>r = .ref H.length 0 0 N N∧H'=H++[.row 0 ((aLn N q).map aF) 3 true]:=by
 refine jE.walk ⟨true,false⟩ tB (aMl rfl) ?_
 have eM:=J1 N (by omega)
 have c1:IntKind.u64.wrap ((1:Nat):Int)=1:=eR 1 (by decide)
 have c2:IntKind.u64.wrap (N:Int)=(N:Int):=eR N (by omega)
 have c3:IntKind.i64.wrap (N:Int)=(N:Int):=wrap64 (by omega) (by omega)
 have g1:¬(N:Int)<0:=by omega
 have g2:¬(0:Int)<0:=by decide
 have g3:¬(9223372036854775807:Int)<(N:Int):=by omega
 have em:=fun H=>nT (H:=H) (f:=id) (x:=rz) (z:=[.bool false,.slice none 0 0,.slice none 0 0]) (bytes:=56) (n:=N) rfl (by omega) (by omega)
 have s1:cW 3 (.tree [aF q] (.cl 3)) (H++[.row 0 ((aLn N rz).map id) 3 true])=some ([aF q].map id):=eV (v:=aF q) rfl rfl
 have r1:aG (H++[.row 0 ((aLn N rz).map id) 3 true]) H.length 0=some ((aLn N rz).map id,3,true):=by rw[Cn,aT]
 have s2:=Rl (f:=id) (Y:=[aF q]) (lo:=lo) (o:=0) (d:=N) (cc:=N) (y := .tree [aF q] (.cl 3)) r1 s1 dR (by simp;omega)
 rw[Th] at s2
 simp only[lM,kM,eM,c1,c2,c3,g1,g2,g3,em,s2,dS,VX,Nat.reduceEqDiff,Nat.reduceAdd,Nat.reduceLeDiff,Nat.reduceLT,Nat.reduceSub]
 refine aP (fun(i:Nat) ρ H1=>i≤N∧(i=0→N=0)∧H1=H++[.row 0 ((aLn i (aF q)++aLn (N-i) rz).map id) 3 true]∧ρ 7 = .ref H.length 0 0 N N∧ρ 8=VI i) (fun i=>N-i) (min 1 N) ?_ ?_
 refine⟨by omega,by omega,?_,rfl,?_⟩
 ·congr 2
  cases N with
  | zero=>rfl
  |
   succ N =>
   have:min 1 (N+1)=1:=by omega
   rw[this]
   simp[aLH]
 ·cases N with
  | zero=>rfl
  |
   succ N =>
   have:min 1 (N+1)=1:=by omega
   simp only[this,dS,VX,Nat.reduceEqDiff,Nat.reduceAdd,Nat.reduceLeDiff,Nat.reduceLT,Nat.reduceSub]
   try simp
 rintro i ρ H1 ⟨hi,h0,rfl,h7,h8⟩
 have hr:aG (H++[.row 0 ((aLn i (aF q)++aLn (N-i) rz).map id) 3 true]) H.length 0=some ((aLn i (aF q)++aLn (N-i) rz).map id,3,true):=by rw[Cn,aT]
 have el:=eH (o:=0) (n:=N) (c:=N) hr
 by_cases bW:(i:Int)<(N:Int)
 ·have hXl:(aLn i (aF q)++aLn (N-i) rz).length=N:=by simp;omega
  have EI:∀X:List VV,X=aLn i (aF q)++aLn (N-i) rz→(((X.map id).drop 0).take i).all (fun x=>(aB x).all bO)=true:=by
   rintro X rfl
   rw[aNY,List.drop_zero,aM8 (by simp),aLq (by simp),List.all_eq_true]
   intro x hx
   rw[List.eq_of_mem_replicate hx]
   rfl
  have q1:=Qi (o:=0) (n:=N) (c:=N) (l:=i) (k1 := .i64) hr hi (aKx _)
  have q2:=rK (o:=0) (n:=N) (c:=N) (h:=i) (k2 := .i64) hr hi
  have hY:((aLn i (aF q)++aLn (N-i) rz).drop 0).take i=aLn i (aF q):=by
   rw[List.drop_zero,aM8 (by simp),aLq (by simp)]
  have q3:cW 3 (.ref H.length 0 0 i N) (H++[.row 0 ((aLn i (aF q)++aLn (N-i) rz).map id) 3 true])=some ((aLn i (aF q)).map id):=by
   have hs:=EI _ rfl
   simp only[cW,hr]
   rw[if_pos ⟨trivial,by rw[aMe,hXl];omega,hs⟩,aNY,aNY,hY]
  have hYd:(aLn i (aF q)).take (N-i)=aLn (min (N-i) i) (aF q):=List.take_replicate
  have q4:=Rl (f:=id) (lo:=lo) (o:=i) (d:=N-i) (cc:=N-i) hr q3 dR (by rw[hYd,hXl];simp;omega)
  rw[Th,hYd,aMm,aM8 (by simp),aLq (by simp)] at q4
  have hX':aLn i (aF q)++aLn (min (N-i) i) (aF q)++(aLn i (aF q)++aLn (N-i) rz).drop (i+min (N-i) i)=aLn (i+min (N-i) i) (aF q)++aLn (N-(i+min (N-i) i)) rz:=by
   rw[List.replicate_append_replicate,List.drop_append,List.drop_of_length_le (by simp),List.nil_append,aMm,List.drop_replicate]
   congr 2
   omega
  rw[hX'] at q4
  have wi:IntKind.i64.wrap ((i:Int)+((min (N-i) i:Nat):Int))=((i+min (N-i) i:Nat):Int):=wrapN _ (by omega) (by omega)
  simp only[fJ,h7,h8,el,bW,q1,q2,q3,q4,wi,dS,VX,Nat.reduceEqDiff,Nat.reduceAdd,Nat.reduceLeDiff,Nat.reduceLT,Nat.reduceSub]
  exact⟨i+min (N-i) i,by omega,by omega,by omega,by (repeat' apply aMd)<;>first | rfl | trivial | assumption⟩
 ·have mI:i=N:=by omega
  subst mI
  simp only[fJ,h7,h8,el,bW,dS,VX,Nat.reduceEqDiff,Nat.reduceAdd,Nat.reduceLeDiff,Nat.reduceLT,Nat.reduceSub]
  rw[aKQ,aNZ,aLF,aNY,List.map_replicate]
theorem Xd (a n:Nat):((aKt n).map fun k=>a+k).Nodup:=List.pairwise_map.2 (List.nodup_range.imp fun h=>by omega)
theorem Tx {lo:Nat} {H:aA} (N:Nat) (hN:N≤1000) (dR:lo≤H.length) :
  jE 99 [VI N] lo H (RX (TabIs aF 3 (aLn N (aLn N (0:Rat)))) H):=by
 refine jE.walk ⟨true,false⟩ Sv (aMl rfl) ?_
 have em:=fun H=>nT (H:=H) (f:=id) (x := .tree [] .nil) (z:=[.slice none 0 0]) (bytes:=24) (n:=N) rfl (by omega) (by omega)
 have el0:=eH (H:=H++[.row 0 ((aLn N (VV.tree [] .nil)).map id) 1 true]) (b:=H.length) (g:=0) (o:=0) (n:=N) (c:=N) lF
 simp only[Oz,JB,em,el0,aKH,aMa,aL5,dS,VX,Nat.reduceEqDiff,Nat.reduceAdd,Nat.reduceLeDiff,Nat.reduceLT,Nat.reduceSub]
 refine aP (fun(i:Nat) ρ H1=>i≤N∧H1=H ++ .row 0 (((aKt i).map fun k=>VV.ref (H.length+1+k) 0 0 N N)++aLn (N-i) (VV.tree [] TK.nil)) 1 true::aLn i (.row 0 ((aLn N (0:Rat)).map aF) 3 true)∧ρ 0=VI N∧ρ 3 = .ref H.length 0 0 N N∧ρ 8=VI N∧ρ 9=VI i) (fun i=>N-i) 0 ⟨aK1 _,by simp,rfl,rfl,rfl,rfl⟩ ?_
 rintro i ρ H1 ⟨hi,rfl,g0,g3,g8,g9⟩
 have e1:TC 64 [VI 0] (aF 0):=kU 0 (by decide) (by decide)
 have eL:∀H,mR false [.bool false,.slice none 0 0,.slice none 0 0] 1 [(0,aF 0)] H=some (.tree [aF 0] (.cl 3),H):=fun H=>iX rfl rfl rfl
 by_cases bW:(i:Int)<(N:Int)
 ·have wi:IntKind.i64.wrap ((i:Int)+1)=((i+1:Nat):Int):=wrapN (i+1) (by omega) (by omega)
  simp only[Cu,g0,g3,g8,g9,bW,e1,eL,dS,VX,Nat.reduceEqDiff,Nat.reduceAdd,Nat.reduceLeDiff,Nat.reduceLT,Nat.reduceSub]
  refine fV rfl ((Ao 0 N (by omega) (by rw[aKI];omega)).mono ?_)
  rintro r H' ⟨rfl,rfl⟩
  have hl:(H++fN.row 0 (((aKt i).map fun k=>VV.ref (H.length+1+k) 0 0 N N)++aLn (N-i) (VV.tree [] TK.nil)) 1 true::aLn i (.row 0 ((aLn N (0:Rat)).map aF) 3 true)).length=H.length+1+i:=by simp;omega
  rw[hl,List.append_assoc,List.cons_append]
  have hr:aG (H++fN.row 0 (((aKt i).map fun k=>VV.ref (H.length+1+k) 0 0 N N)++aLn (N-i) (VV.tree [] TK.nil)) 1 true::(aLn i (.row 0 ((aLn N (0:Rat)).map aF) 3 true)++[.row 0 ((aLn N (0:Rat)).map aF) 3 true])) H.length 0=some ((((aKt i).map fun k=>VV.ref (H.length+1+k) 0 0 N N)++aLn (N-i) (VV.tree [] TK.nil)),1,true):=by rw[Cn,aT]
  have a1:=bB (o:=0) (n:=N) (c:=N) (i:=i) (k := .i64) hr (by omega)
  have a2:=bS (lo:=lo) (v := .ref (H.length+1+i) 0 0 N N) (j:=i) hr (by simp;omega) dR rfl rfl
  rw[Th,aMb] at a2
  have hs:(((aKt i).map fun k=>VV.ref (H.length+1+k) 0 0 N N)++aLn (N-i) (VV.tree [] TK.nil)).set i (.ref (H.length+1+i) 0 0 N N)=((aKt (i+1)).map fun k=>VV.ref (H.length+1+k) 0 0 N N)++aLn (N-(i+1)) (VV.tree [] TK.nil):=by
   obtain⟨m,hm⟩:∃m,N-i=m+1:=⟨N-i-1,by omega⟩
   have hm':N-(i+1)=m:=by omega
   rw[List.set_append_right _ _ (by simp),hm,hm',aMe,List.length_range,aKQ,aLH,aMb,aNS,aMU,List.append_assoc]
   rfl
  rw[hs] at a2
  rw[aL5] at a1
  simp only[a1,a2,wi,g9,dS,VX,Nat.reduceEqDiff,Nat.reduceAdd,Nat.reduceLeDiff,Nat.reduceLT,Nat.reduceSub]
  exact⟨i+1,by omega,by omega,by rw[List.replicate_succ'],by (repeat' apply aMd)<;>first | rfl | trivial | assumption⟩
 ·have mI:i=N:=by omega
  subst mI
  simp only[Cu,g3,g8,g9,bW,dS,VX,Nat.reduceEqDiff,Nat.reduceAdd,Nat.reduceLeDiff,Nat.reduceLT,Nat.reduceSub]
  refine⟨aMr _ _,H.length,0,i,(aKt i).map fun k=>⟨H.length+1+k,0,i,aLn i 0⟩,by rw[aMm],by rw[aMm];exact aKx _,⟨?_,aKx _,by simp,?_,?_⟩,?_⟩
  ·rw[Cn,aT,aKQ,aNZ,aLF,aN0]
   simp[tL,Function.comp_def]
  ·rw[aN0]
   exact Xd (H.length+1) i
  ·intro r hr
   obtain⟨k,hk,rfl⟩:=aL8.1 hr
   rw[aK8] at hk
   refine⟨by simp only;omega,by simp;omega,by simp only;omega,by simp,?_⟩
   have:H.length+1+k=H.length+(k+1):=by omega
   simp only[this]
   rw[NN,eJ,cB,aNW,if_pos hk]
  ·rw[aN0]
   apply aN1
   intro k
   rw[aN2,aNW]
   by_cases hk:k<i
   ·simp[hk,List.getElem?_range]
   ·simp[hk]
end Go.PM
namespace Go.PM
def PY (s:vH) (left:Int):Int:=if Hr s.b left<0 then -1 else if Gn s.g (Hr s.b left)<0 then -1 else if Hr s.e (Gn s.g (Hr s.b left))<0 then -1 else Hr s.e (Gn s.g (Hr s.b left))
theorem aqC {s:vH} {l:Int} (h:0≤PY s l):PY s l≤l∧(s.b.length:Int)≤l∧(s.g.length:Int)≤l∧(∀x∈s.g,(x.length:Int)≤l)∧(s.e.length:Int)≤l:=by
 unfold PY at h ⊢
 split at h
 ·omega
 rename_i h0
 split at h
 ·omega
 rename_i h1
 split at h
 ·omega
 rename_i h2
 rw[if_neg h0,if_neg h1,if_neg h2]
 have b0:=II (xs:=s.b) (l:=l) (by omega)
 have b1:=SI (xs:=s.g) (l:=Hr s.b l) (by omega)
 have b2:=II (xs:=s.e) (l:=Gn s.g (Hr s.b l)) (by omega)
 exact⟨by omega,b0.2.1,by omega,fun x hx=>by have:=(b1.2.2 x hx).1;omega,by omega⟩
theorem ZJ {lo:Nat} {s:vH} {bare:Bool} {H:aA} {K:VV→aA→Prop} (hb:s.b.length≤1000000000) (hg:s.g.length≤1000000000∧∀x∈s.g,x.length≤1000000000) (he:s.e.length≤1000000000)
  (hk:∀c H',H <+: H'→wJ H.length H' bare s c→K c H'):dH 46 [vM s,.sc (.bool bare)] lo H K:=by
 refine(Kp s bare hb hg he).call rfl (mapM_pure (n:=7) (by simp only[aO,rP,Bool.true_and];rfl)) ?_
 intro r L h
 exact hk r _ (aMr _ _) (h.dC fun b g x hb h=>KH (Nat.le_of_lt hb) h)
theorem aDP {n lo:Nat} {s:vH} {bare:Bool} {H:aA} {c:VV} (hc:wJ n H bare s c) (dR:lo≤H.length):bL lo 3 (.ptr H.length 0 0 0) c (H++[.row 0 [.agg [.tree [] .nil,.tree [] .nil,.tree [] .nil]] 3 true])=some (H++[.row 0 [c] 3 true]):=by
 obtain⟨c0,c1,c2,rfl,h0,h1,h2⟩:=hc
 rw[bS (e:=3) (g:=0) (lo:=lo) (v := .agg [c0,c1,c2]) (j:=0) lF (by decide) dR rfl (by simp[aB,h0.cell.2.1,h1.cell.2,h2.cell.2.1]),Pv]
 rfl
theorem ld3 {n b:Nat} {s:vH} {bare:Bool} {H H':aA} {c:VV} (hc:wJ n H bare s c) (h:aG H' b 0=some ([c],3,true)):bF true 3 (.ptr b 0 0 0) H'=some c:=by
 obtain⟨c0,c1,c2,rfl,_⟩:=hc
 rw[bK,h]
 rfl
theorem oR {s:vH}:dO true 3 (vM s) 0=some (vM s):=rfl
theorem kW {s:vH}:(aB (vM s)).all bO=true:=rfl
structure Tl (s:vH):Prop where
 b4:s.b.length≤400000000
 e4:s.e.length≤400000000
 g4:s.g.length≤400000000∧∀x∈s.g,x.length≤400000000
 bs:∀x∈s.b,x.size≤1000000000
 es:∀x∈s.e,x.size≤1000000000
 gs:∀x∈s.g,∀y∈x,y.size≤1000000000
theorem Tl.g9 {s:vH} (h:Tl s):s.g.length≤1000000000∧∀x∈s.g,x.length≤1000000000:=⟨by have:=h.g4.1;omega,fun x hx=>by have:=h.g4.2 x hx;omega⟩
theorem arV {s:vH} {l:Int} (h:PY s l<0):PY s l = -1:=by
 unfold PY at h ⊢
 split
 ·rfl
 rename_i h0
 rw[if_neg h0] at h
 split
 ·rfl
 rename_i h1
 rw[if_neg h1] at h
 split
 ·rfl
 rename_i h2
 rw[if_neg h2] at h
 omega
theorem apU {s:vH} {l:Int} (h:0≤PY s l) (hl:l≤1000000):PY s l≤l∧Tl s:=by
 have hle:=aqC h
 unfold PY at h
 split at h
 ·omega
 rename_i h0
 split at h
 ·omega
 rename_i h1
 split at h
 ·omega
 rename_i h2
 have b0:=II (xs:=s.b) (l:=l) (by omega)
 have b1:=SI (xs:=s.g) (l:=Hr s.b l) (by omega)
 have b2:=II (xs:=s.e) (l:=Gn s.g (Hr s.b l)) (by omega)
 exact⟨hle.1,by omega,by omega,⟨by omega,fun x hx=>by have:=(b1.2.2 x hx).1;omega⟩,fun x hx=>by have:=b0.2.2 x hx;omega,fun x hx=>by have:=b2.2.2 x hx;omega,fun x hx y hy=>by have:=(b1.2.2 x hx).2 y hy;omega⟩
end Go.PM
namespace Go.PM
def It {β:Type} (xs:List (List β)):Nat:=(xs.map aNH).sum
section
variable {β:Type}
end
def svN (s:vH):Nat:=s.b.length+It s.g+s.e.length
theorem W1.cell {α:Type} {f:α→VV} {e lo hi:Nat} {H:aA} {v:VV} {cG:List α} (h:W1 f e cG lo hi H v):bO v=true:=by
 rcases h with⟨rfl,rfl⟩ | ⟨b,g,c,h1,h2,rfl,h3⟩<;>rfl
theorem RG.cell {α:Type} {f:α→VV} {e lo hi:Nat} {H:aA} {v:VV} {cG:List (List α)} (h:RG f e cG lo hi H v):bO v=true:=by
 rcases h with⟨rfl,rfl⟩ | ⟨b,g,c,rs,h1,h2,rfl,h3⟩<;>rfl
end Go.PM
namespace Go.PM
open Go.Lib
section
variable {α:Type} {f:α→VV} {e:Nat}
def Uk (f:α→VV) (e:Nat) (cG:List (List α)) (lo hi:Nat) (H:aA) (v:VV):Prop :=
 (v = .tree [] .nil∧cG=[])∨∃b g rs,lo≤b∧b<hi∧v = .ref b g 0 cG.length cG.length∧aG H b g=some (rs.map tL,1,true)∧rs.map (·.xs)=cG∧aaI f e lo hi b H rs
theorem Uk.rg {cG:List (List α)} {lo hi:Nat} {H:aA} {v:VV} (h:Uk f e cG lo hi H v):RG f e cG lo hi H v:=by
 rcases h with h | ⟨b,g,rs,h1,h2,h3,h5,h6,h7⟩
 ·exact .inl h
 ·exact .inr ⟨b,g,_,rs,h1,h2,h3,aKx _,h5,h6,h7⟩
theorem Uk.dC {cG:List (List α)} {lo hi:Nat} {H H':aA} {v:VV} (h:Uk f e cG lo hi H v) (hk:jV lo hi H H'):Uk f e cG lo hi H' v:=by
 rcases h with h | ⟨b,g,rs,h1,h2,h3,h5,h6,h7⟩
 ·exact .inl h
 ·exact .inr ⟨b,g,rs,h1,h2,h3,hk _ _ _ h1 h2 h5,h6,h7.nd,fun r hr=>by
   obtain⟨k1,k2,k3,k4,k5⟩:=h7.row r hr
   exact⟨k1,k2,k3,k4,hk _ _ _ k1 k2 k5⟩⟩
theorem Uk.wide {cG:List (List α)} {lo hi gB qI:Nat} {H:aA} {v:VV} (h:Uk f e cG lo hi H v) (hl:gB≤lo) (hh:hi≤qI):Uk f e cG gB qI H v:=by
 rcases h with h | ⟨b,g,rs,h1,h2,h3,h5,h6,h7⟩
 ·exact .inl h
 ·exact .inr ⟨b,g,rs,by omega,by omega,h3,h5,h6,h7.nd,fun r hr=>by
   obtain⟨k1,k2,k3,k4,k5⟩:=h7.row r hr
   exact⟨by omega,by omega,k3,k4,k5⟩⟩
theorem Uk.iP {cG:List (List α)} {lo hi:Nat} {H:aA} {v:VV} (h:Uk f e cG lo hi H v):bO v=true∧aB v=[v]∧isAny v=false:=by
 rcases h with⟨rfl,rfl⟩ | ⟨b,g,rs,h1,h2,rfl,h3⟩<;>exact⟨rfl,rfl,rfl⟩
theorem Uk.aAb {cG:List (List α)} {lo hi:Nat} {H:aA} {v:VV} (h:Uk f e cG lo hi H v):rW v H=some (VI cG.length):=by
 rcases h with⟨rfl,rfl⟩ | ⟨b,g,rs,h1,h2,rfl,h5,h6,h7⟩
 ·rfl
 ·exact eH h5
theorem Uk.snoc {cG:List (List α)} {lo gB hi:Nat} {H:aA} {v:VV} (h:Uk f e cG lo hi H v) (dR:gB≤lo) (hn:cG.length≤1000000000) (r:CF α) (hhi:hi≤r.b) (BY:lo≤r.b) (hc:r.xs.length≤r.c) (hr:aG H r.b r.g=some (r.xs.map f,e,true)) :
  ∃v' H3,dP gB 1 24 v [.ref r.b r.g 0 r.xs.length r.c] H=some (v',H3)∧Uk f e (cG++[r.xs]) lo H3.length H3 v'∧(∀b' g' x,b'<lo→aG H b' g'=some x→aG H3 b' g'=some x)∧H.length≤H3.length ∧
   (∀n,n≤lo→Ds n H→Ds n H3)∧(∀H0:aA,H0.length≤lo→H0 <+: H→H0 <+: H3)∧(∀b' g' x,aG H b' g'=some x→(∀g0 n0 c0,v ≠ .ref b' g0 0 n0 c0)→aG H3 b' g'=some x):=by
 have hb:=iR hr
 rcases h with⟨rfl,rfl⟩ | ⟨b,g,rs,h1,h2,rfl,h5,h6,h7⟩
 ·refine⟨.ref H.length 0 0 1 1,H++[.row 0 [tL r] 1 true],by simp[dP,tL],.inr ⟨H.length,0,[r],by omega,by simp,rfl,lF,rfl,by simp,fun s hs => ?_⟩,fun _ _ _ _ h=>eT h,by simp,fun n hn hO=>hO.app (by simp[AB,jU,tL];omega),fun H0 _ hp=>Gh hp,fun _ _ _ h _=>eT h⟩
  rw[aLD] at hs
  subst hs
  exact⟨BY,by simp;omega,by omega,hc,eT hr⟩
 ·subst h6
  rw[aMe] at hn ⊢
  have xH:=jQ (f:=tL) (xs:=rs) (x:=r) (lo:=gB) (bytes:=24) h5 rfl (by omega) (by decide) (by decide) (by omega)
  refine⟨_,_,xH,.inr ⟨b,g+1,rs++[r],h1,by rw[aMv];exact iR h5,by simp,bQ h5,by simp,?_,fun s hs => ?_⟩,fun b' g' x xF h=>aX (by omega) h,by simp,fun n hn hO=>hO.set (by omega) ?_,fun H0 hl hp=>lX hp (by omega),fun b' g' x h fS=>aX (fun he=>fS g _ _ (by rw[he])) h⟩
  ·rw[aMU,List.nodup_append]
   refine⟨h7.nd,by simp,fun a ha c hc' => ?_⟩
   obtain⟨s,hs,rfl⟩:=aL8.1 ha
   have:=h7.row s hs
   simp only[List.map_cons,List.map_nil,aLD] at hc'
   omega
  ·rcases aLt.1 hs with hs | hs
   ·obtain⟨k1,k2,k3,k4,k5⟩:=h7.row s hs
    exact⟨k1,by rw[aMv];exact iR k5,k3,k4,aX (by omega) k5⟩
   ·rw[aLD] at hs
    subst hs
    exact⟨BY,by rw[aMv];exact hb,by omega,hc,aX (by omega) hr⟩
  ·rw[zN]
   intro x hx
   obtain⟨s,hs,rfl⟩:=aL8.1 hx
   rcases aLt.1 hs with hs | hs
   ·have:=h7.row s hs
    simp[tL,jU];omega
   ·rw[aLD] at hs
    subst hs
    simp[tL,jU];omega
end
def LsO {α:Type} (f:α→VV) (e:Nat) (o:Option (List α)) (lo hi:Nat) (H:aA) (v:VV):Prop:=match o with
 | none=>v = .tree [] .nil
 | some ys=>JE f e ys lo hi H v
theorem JE.dC {α:Type} {f:α→VV} {e:Nat} {ys:List α}:∀ {lo hi H H' v},JE f e ys lo hi H v→jV lo hi H H'→JE f e ys lo hi H' v:=by
 rintro lo hi H H' v ⟨b,g,c,h1,h2,h3,h4,h5⟩ hk
 exact⟨b,g,c,h1,h2,h3,h4,hk _ _ _ h1 h2 h5⟩
theorem LsO.dC {α:Type} {f:α→VV} {e:Nat} {o:Option (List α)}:∀ {lo hi H H' v},LsO f e o lo hi H v→jV lo hi H H'→LsO f e o lo hi H' v:=by
 intro lo hi H H' v h hk
 cases o with
 | none=>exact h
 | some ys=>exact JE.dC h hk
end Go.PM
namespace Go.PM
open Go.Lib
def orJ (row:List Rat) (i:Nat) (st:List Bool) (j:Nat):List Bool:=st.set i (st.getD i false||(decide (0<row.getD j 0)&&st.getD j false))
def RW (row:List Rat) (i:Nat) (st:List Bool) (m:Nat):List Bool:=(aKt m).foldl (orJ row i) st
def LB (g:List (List Rat)) (e:List Rat) (n:Nat) (st:List Bool) (i:Nat):List Bool:=RW (g.getD i []) i (st.set i (st.getD i false||decide (0<e.getD i 0))) n
def mH (g:List (List Rat)) (e:List Rat) (n:Nat) (st:List Bool) (m:Nat):List Bool:=(aKt m).foldl (LB g e n) st
def qD (g:List (List Rat)) (e:List Rat) (n m:Nat):List Bool:=(aKt m).foldl (fun st _=>mH g e n st n) (aLn n false)
theorem rH {α:Type} {f:α→Nat→α} {s:α} {j:Nat}:(aKt (j+1)).foldl f s=f ((aKt j).foldl f s) j:=by rw[aNS,aNI];rfl
theorem I0 {f:List Bool→Nat→List Bool} (hf:∀st j,(f st j).length=st.length) {st:List Bool}:∀m,((aKt m).foldl f st).length=st.length
 | 0=>rfl
 | m+1=>by rw[rH,hf,I0 hf m]
theorem aqH (row:List Rat) (i:Nat) (st:List Bool) (j:Nat):(orJ row i st j).length=st.length:=aMv ..
theorem Sw (row:List Rat) (i:Nat) (st:List Bool) (m:Nat):(RW row i st m).length=st.length:=I0 (aqH row i) m
theorem adM (g:List (List Rat)) (e:List Rat) (n:Nat) (st:List Bool) (i:Nat):(LB g e n st i).length=st.length:=by rw[LB,Sw,aMv]
theorem Iw (g:List (List Rat)) (e:List Rat) (n:Nat) (st:List Bool) (m:Nat):(mH g e n st m).length=st.length:=I0 (adM g e n) m
theorem Ea (g:List (List Rat)) (e:List Rat) (n m:Nat):(qD g e n m).length=n:=by
 rw[qD,I0 (fun st _=>Iw g e n st n),aMm]
abbrev tR (st:List Bool):fN := .row 0 (st.map fun b=>VB b) 1 true
theorem xW {st:List Bool} {i n:Nat} (hi:i<n) (K:aA):bJ 1 (.ref 0 0 0 n n) (VI i) (tR st::K)=some (.ptr 0 0 i 0):=by
 have:=bB (b:=0) (g:=0) (o:=0) (n:=n) (c:=n) (k := .i64) (i:=i) (H:=tR st::K) aT hi
 rwa [aL5] at this
theorem yE {st:List Bool} {i:Nat} (hi:i<st.length) (K:aA):bF false 1 (.ptr 0 0 i 0) (tR st::K)=some (VB (st.getD i false)):=by
 have hx:st[i]? = some st[i]:=aKE hi
 rw[qA (f:=fun b=>VB b) aT hx,aKu,hx]
 rfl
theorem DW {st:List Bool} {i:Nat} (hi:i<st.length) (v:Bool) (K:aA):bL 0 1 (.ptr 0 0 i 0) (VB v) (tR st::K)=some (tR (st.set i v)::K):=by
 rw[dQ (f:=fun b=>VB b) (e:=1) (x:=v) aT hi (aK1 _) rfl rfl,aMb]
theorem Im {R:fN} {q:Rat}:bL 0 3 (.ptr 1 0 0 0) (aF q) [R,cell0]=some [R,.row 0 [aF q] 3 true]:=by simp only[aJ,cM,bI,bA,aZ,aS,gH,Nat.reduceLeDiff,Nat.reduceLT,Nat.reduceSub,dS,VX,Nat.reduceEqDiff,Nat.reduceAdd,Nat.reduceLeDiff,Nat.reduceLT,Nat.reduceSub]
theorem QN {R:fN} {q:Rat}:bF true 3 (.ptr 1 0 0 0) [R,.row 0 [aF q] 3 true]=some (aF q):=by simp only[aJ,cM,bI,bA,aZ,aS,gH,Nat.reduceLeDiff,Nat.reduceLT,Nat.reduceSub,dS,VX,Nat.reduceEqDiff,Nat.reduceAdd,Nat.reduceLeDiff,Nat.reduceLT,Nat.reduceSub]
section
variable {g:List (List Rat)} {e row:List Rat} {n i:Nat} {st:List Bool}
set_option maxHeartbeats 2000000 in
theorem YM (hn:n≤1000000) (hi:i<n) (vZ:st.length=n) (lL:row.length=n) {r:Int} {ρ:cV} {Q:VQ} (g0:ρ 0=aC (aC aF) g) (g1:ρ 1=aC aF e) (g5:ρ 5 = .ref 0 0 0 n n) (g6:ρ 6=VI i) (g13:ρ 13=VI n) (g14:ρ 14=VI r) (g17:ρ 17=VI n) (g18:ρ 18=VI i) (g39:ρ 39=aC aF row) (g40:ρ 40=VI n) (g41:ρ 41=VI 0)
  (hQ:∀aQ,aQ 0=aC (aC aF) g→aQ 1=aC aF e→aQ 5 = .ref 0 0 0 n n→aQ 13=VI n→aQ 14=VI r→aQ 17=VI n→aQ 18=VI i→Q .normal aQ [tR (RW row i st n)]) :
  VW ⟨true,false⟩ 0 (.loop nA) (tI 4 Q) ρ [tR st]:=by
 refine Oi (fun(j:Nat) aQ H=>j≤n∧H=[tR (RW row i st j)]∧aQ 0=aC (aC aF) g∧aQ 1=aC aF e∧aQ 5 = .ref 0 0 0 n n∧aQ 6=VI i∧aQ 13=VI n∧aQ 14=VI r∧aQ 17=VI n∧aQ 18=VI i∧aQ 39=aC aF row∧aQ 40=VI n∧aQ 41=VI j) (fun j=>n-j) 0 ⟨aK1 _,rfl,g0,g1,g5,g6,g13,g14,g17,g18,g39,g40,g41⟩ ?_
 clear g0 g1 g5 g6 g13 g14 g17 g18 g39 g40 g41
 rintro j aQ H ⟨hj,rfl,g0,g1,g5,g6,g13,g14,g17,g18,g39,g40,g41⟩
 have hl:(RW row i st j).length=n:=by rw[Sw,vZ]
 have B3:RW row i st (j+1)=orJ row i (RW row i st j) j:=rH
 generalize hs:RW row i st j=s at *
 by_cases bW:(j:Int)<(n:Int)
 ·have Eu:j<n:=by omega
  obtain⟨q,hq⟩:∃q,row[j]? = some q:=⟨_,aKE (by omega)⟩
  have e1:=fun H=>aH (f:=aF) (t := .op) (H:=H) (size:=3) (k := .i64) hq rfl
  have wi:IntKind.i64.wrap ((j:Int)+1)=((j+1:Nat):Int):=wrapN (j+1) (by omega) (by omega)
  have e2:=dI q
  have a1:=fun K=>xW (st:=s) (n:=n) hi K
  have a2:=fun K=>yE (st:=s) (i:=i) (by omega) K
  have a3:=fun K=>xW (st:=s) (n:=n) Eu K
  have a4:=fun K=>yE (st:=s) (i:=j) (by omega) K
  have a5:=fun v K=>DW (st:=s) (i:=i) (by omega) v K
  have pT:∀v:Bool,v=(s.getD i false||(decide (0<q)&&s.getD j false))→RW row i st (j+1)=s.set i v:=by
   intro v hv
   rw[B3,orJ,hv,aKu (l:=row),hq,aNL]
  have post:∀(v:Bool) (tC:cV),v=(s.getD i false||(decide (0<q)&&s.getD j false))→tC 0=aC (aC aF) g→tC 1=aC aF e→tC 5 = .ref 0 0 0 n n→tC 6=VI i→tC 13=VI n→tC 14=VI r→tC 17=VI n→tC 18=VI i→tC 39=aC aF row→tC 40=VI n→tC 41=VI ((j+1:Nat):Int) →
    ∃s',n-s'<n-j∧oC 1 [tR (s.set i v)]=true∧s'≤n∧[tR (s.set i v)]=[tR (RW row i st s')]∧rQ 1 tC 0=aC (aC aF) g∧rQ 1 tC 1=aC aF e∧rQ 1 tC 5 = .ref 0 0 0 n n∧rQ 1 tC 6=VI i∧rQ 1 tC 13=VI n∧rQ 1 tC 14=VI r∧rQ 1 tC 17=VI n∧rQ 1 tC 18=VI i∧rQ 1 tC 39=aC aF row∧rQ 1 tC 40=VI n∧rQ 1 tC 41=VI s':=by
   intro v tC hv k0 k1 k5 k6 Ce CS IH W9 k39 k40 k41
   refine⟨j+1,by omega,by rw[DC (oK _ (fO fun _=>rfl)),Kw],by omega,by rw[pT v hv],?_⟩
   simp only[AY,k0,k1,k5,k6,Ce,CS,IH,W9,k39,k40,k41,Da (Jv _),Da (gO _),OO,Le (Nat.lt_succ_self 0),and_self]
  cases XN:s.getD i false with
  |
   true =>
   rw[XN] at a2 post
   simp only[nA,g5,g6,g39,g40,g41,bW,e1,wi,a1,a2,a5,Im,bI,VX,Nat.reduceEqDiff,Nat.reduceAdd,uT,sA,aKH,aMa]
   refine post true _ (by simp) ?_ ?_ ?_ ?_ ?_ ?_ ?_ ?_ ?_ ?_ ?_
   all_goals first | exact g0 | exact g1 | exact g5 | exact g6 | exact g13 | exact g14 | exact g17 | exact g18 | exact g39 | exact g40 | rfl
  |
   false =>
   rw[XN] at a2 post
   by_cases hp:0<jJ q
   ·have BX:0<q:=G1.1 hp
    simp only[nA,g5,g6,g39,g40,g41,bW,e1,e2,wi,a1,a2,a3,a4,a5,hp,Im,QN,bI,VX,Nat.reduceEqDiff,Nat.reduceAdd,uT,sA,aKH,aMa]
    refine post (s.getD j false) _ (by simp[BX]) ?_ ?_ ?_ ?_ ?_ ?_ ?_ ?_ ?_ ?_ ?_
    all_goals first | exact g0 | exact g1 | exact g5 | exact g6 | exact g13 | exact g14 | exact g17 | exact g18 | exact g39 | exact g40 | rfl
   ·have BX:¬0<q:=mt G1.2 hp
    simp only[nA,g5,g6,g39,g40,g41,bW,e1,e2,wi,a1,a2,a5,hp,Im,QN,bI,VX,Nat.reduceEqDiff,Nat.reduceAdd,uT,sA,aKH,aMa]
    refine post false _ (by simp[BX]) ?_ ?_ ?_ ?_ ?_ ?_ ?_ ?_ ?_ ?_ ?_
    all_goals first | exact g0 | exact g1 | exact g5 | exact g6 | exact g13 | exact g14 | exact g17 | exact g18 | exact g39 | exact g40 | rfl
 ·have S7:j=n:=by omega
  subst S7
  subst hs
  simp only[nA,g40,g41,bW,dS,VX,Nat.reduceEqDiff,Nat.reduceAdd,Nat.reduceLeDiff,Nat.reduceLT,Nat.reduceSub]
  refine hQ _ ?_ ?_ ?_ ?_ ?_ ?_ ?_<;>first | exact g0 | exact g1 | exact g5 | exact g13 | exact g14 | exact g17 | exact g18 | rfl
set_option maxHeartbeats 2000000 in
theorem XQ (hn:n≤1000000) (vZ:st.length=n) (hg:g.length=n) (W7:∀w∈g,w.length=n) (he:e.length=n) {r:Int} {ρ:cV} {Q:VQ} (g0:ρ 0=aC (aC aF) g) (g1:ρ 1=aC aF e) (g5:ρ 5 = .ref 0 0 0 n n) (g13:ρ 13=VI n) (g14:ρ 14=VI r) (g17:ρ 17=VI n) (g18:ρ 18=VI 0)
  (hQ:∀aQ,aQ 0=aC (aC aF) g→aQ 1=aC aF e→aQ 5 = .ref 0 0 0 n n→aQ 13=VI n→aQ 14=VI r→Q .normal aQ [tR (mH g e n st n)]) :
  VW ⟨true,false⟩ 0 (.loop pW) (tI 2 Q) ρ [tR st]:=by
 refine aP (fun(i:Nat) aQ H=>i≤n∧H=[tR (mH g e n st i)]∧aQ 0=aC (aC aF) g∧aQ 1=aC aF e∧aQ 5 = .ref 0 0 0 n n∧aQ 13=VI n∧aQ 14=VI r∧aQ 17=VI n∧aQ 18=VI i) (fun i=>n-i) 0 ⟨aK1 _,rfl,g0,g1,g5,g13,g14,g17,g18⟩ ?_
 clear g0 g1 g5 g13 g14 g17 g18
 rintro i aQ H ⟨hi,rfl,g0,g1,g5,g13,g14,g17,g18⟩
 have hl:(mH g e n st i).length=n:=by rw[Iw,vZ]
 have B3:mH g e n st (i+1)=LB g e n (mH g e n st i) i:=rH
 generalize hs:mH g e n st i=s at *
 by_cases bW:(i:Int)<(n:Int)
 ·have Eu:i<n:=by omega
  obtain⟨q,hq⟩:∃q,e[i]? = some q:=⟨_,aKE (by omega)⟩
  obtain⟨row,hr⟩:∃row,g[i]? = some row:=⟨_,aKE (by omega)⟩
  have BY:=W7 row (aLr hr)
  have e1:=fun H=>aH (f:=aF) (t := .op) (H:=H) (size:=3) (k := .i64) hq rfl
  have e3:=fun H=>aH (f:=aC aF) (t := .op) (H:=H) (size:=1) (k := .i64) hr rfl
  have wi:IntKind.i64.wrap ((i:Int)+1)=((i+1:Nat):Int):=wrapN (i+1) (by omega) (by omega)
  have e2:=dI q
  have a1:=fun K=>xW (st:=s) (n:=n) Eu K
  have a2:=fun K=>yE (st:=s) (i:=i) (by omega) K
  have a5:=fun v K=>DW (st:=s) (i:=i) (by omega) v K
  have pT:∀v:Bool,v=(s.getD i false||decide (0<q))→mH g e n st (i+1)=RW row i (s.set i v) n:=by
   intro v hv
   rw[B3,LB,hv,aKu (l:=g),hr,aNL,aKu (l:=e),hq,aNL]
  have post:∀(v:Bool) (tC:cV),v=(s.getD i false||decide (0<q))→tC 0=aC (aC aF) g→tC 1=aC aF e→tC 5 = .ref 0 0 0 n n→tC 6=VI i→tC 13=VI n→tC 14=VI r→tC 17=VI n→tC 18=VI i→tC 39=aC aF row→tC 40=VI n→tC 41=VI 0 →
    ∀(Q':VQ),(∀xA,xA 0=aC (aC aF) g→xA 1=aC aF e→xA 5 = .ref 0 0 0 n n→xA 13=VI n→xA 14=VI r→xA 17=VI n→xA 18=VI i→Q' .normal xA [tR (mH g e n st (i+1))])→VW ⟨true,false⟩ 0 (.loop nA) (tI 4 Q') tC [tR (s.set i v)]:=by
   intro v tC hv k0 k1 k5 k6 Ce CS IH W9 k39 k40 k41 Q' hQ'
   refine YM hn Eu (by rw[aMv,hl]) BY k0 k1 k5 k6 Ce CS IH W9 k39 k40 k41 fun xA m0 m1 m5 m13 m14 m17 m18 => ?_
   rw[←pT v hv]
   exact hQ' xA m0 m1 m5 m13 m14 m17 m18
  have fin:∀(xA:cV),xA 0=aC (aC aF) g→xA 1=aC aF e→xA 5 = .ref 0 0 0 n n→xA 13=VI n→xA 14=VI r→xA 17=VI n→xA 18=VI ((i+1:Nat):Int)→∃s',n-s'<n-i∧s'≤n∧[tR (mH g e n st (i+1))]=[tR (mH g e n st s')]∧xA 0=aC (aC aF) g∧xA 1=aC aF e∧xA 5 = .ref 0 0 0 n n∧xA 13=VI n∧xA 14=VI r∧xA 17=VI n∧xA 18=VI s' :=
   fun xA m0 m1 m5 m13 m14 m17 m18=>⟨i+1,by omega,by omega,rfl,m0,m1,m5,m13,m14,m17,m18⟩
  have aAa:((row.length:Nat):Int)=(n:Int):=by omega
  cases XN:s.getD i false with
  |
   true =>
   rw[XN] at a2 post
   simp only[pW,g0,g1,g5,g17,g18,bW,e1,e3,a1,a2,a5,aAa,dS,VX,Nat.reduceEqDiff,Nat.reduceAdd,Nat.reduceLeDiff,Nat.reduceLT,Nat.reduceSub]
   refine post true _ (by simp) ?_ ?_ ?_ ?_ ?_ ?_ ?_ ?_ ?_ ?_ ?_ _ fun xA m0 m1 m5 m13 m14 m17 m18 => ?_
   all_goals first | exact g0 | exact g1 | exact g5 | exact g13 | exact g14 | exact g17 | exact g18 | rfl | skip
   simp only[m18,wi,dS,VX,Nat.reduceEqDiff,Nat.reduceAdd,Nat.reduceLeDiff,Nat.reduceLT,Nat.reduceSub]
   exact⟨i+1,by omega,by omega,by (repeat' apply aMd)<;>first | rfl | trivial | assumption⟩
  |
   false =>
   rw[XN] at a2 post
   by_cases hp:0<jJ q
   ·have BX:0<q:=G1.1 hp
    simp only[pW,g0,g1,g5,g17,g18,bW,e1,e2,e3,a1,a2,a5,aAa,hp,bI,dS,VX,Nat.reduceEqDiff,Nat.reduceAdd,Nat.reduceLeDiff,Nat.reduceLT,Nat.reduceSub]
    refine post true _ (by simp[BX]) ?_ ?_ ?_ ?_ ?_ ?_ ?_ ?_ ?_ ?_ ?_ _ fun xA m0 m1 m5 m13 m14 m17 m18 => ?_
    all_goals first | exact g0 | exact g1 | exact g5 | exact g13 | exact g14 | exact g17 | exact g18 | rfl | skip
    simp only[m18,wi,dS,VX,Nat.reduceEqDiff,Nat.reduceAdd,Nat.reduceLeDiff,Nat.reduceLT,Nat.reduceSub]
    exact⟨i+1,by omega,by omega,by (repeat' apply aMd)<;>first | rfl | trivial | assumption⟩
   ·have BX:¬0<q:=mt G1.2 hp
    simp only[pW,g0,g1,g5,g17,g18,bW,e1,e2,e3,a1,a2,a5,aAa,hp,bI,dS,VX,Nat.reduceEqDiff,Nat.reduceAdd,Nat.reduceLeDiff,Nat.reduceLT,Nat.reduceSub]
    refine post false _ (by simp[BX]) ?_ ?_ ?_ ?_ ?_ ?_ ?_ ?_ ?_ ?_ ?_ _ fun xA m0 m1 m5 m13 m14 m17 m18 => ?_
    all_goals first | exact g0 | exact g1 | exact g5 | exact g13 | exact g14 | exact g17 | exact g18 | rfl | skip
    simp only[m18,wi,dS,VX,Nat.reduceEqDiff,Nat.reduceAdd,Nat.reduceLeDiff,Nat.reduceLT,Nat.reduceSub]
    exact⟨i+1,by omega,by omega,by (repeat' apply aMd)<;>first | rfl | trivial | assumption⟩
 ·have mI:i=n:=by omega
  subst mI
  subst hs
  simp only[pW,g17,g18,bW,dS,VX,Nat.reduceEqDiff,Nat.reduceAdd,Nat.reduceLeDiff,Nat.reduceLT,Nat.reduceSub]
  refine hQ _ ?_ ?_ ?_ ?_ ?_<;>first | exact g0 | exact g1 | exact g5 | exact g13 | exact g14 | exact g17 | exact g18 | rfl
theorem LC (bs:List Bool):aY (aC (fun b=>VB b) bs)=true:=mN (fun _=>rfl) fun _=>rfl
theorem XU (bs:List Bool):gZ (aC (fun b=>VB b) bs)=true:=zL (fun _=>rfl) (fun _=>rfl) fun _=>rfl
set_option maxHeartbeats 1000000 in
theorem Ty (hn:n≤1000000) (hg:g.length=n) (W7:∀w∈g,w.length=n) (he:e.length=n):TC 195 [aC (aC aF) g,aC aF e] (aC (fun b=>VB b) (qD g e n n)):=by
 refine TC.walk ⟨true,false⟩ Ti rfl (aMl rfl) (by simp only[aO,Jv,gO];rfl) (XU _) ?_
 have e0:∀H,BM [.bool false] 1 (VI n) (VI n) H=some (.ref H.length 0 0 n n,H++[tR (aLn n false)]):=fun H=>nT (f:=fun b=>VB b) rfl (by omega) (by omega)
 simp only[PD,Jw,he,e0,List.nil_append,aMa,dS,VX,Nat.reduceEqDiff,Nat.reduceAdd,Nat.reduceLeDiff,Nat.reduceLT,Nat.reduceSub]
 refine aP (fun(i:Nat) aQ H=>i≤n∧H=[tR (qD g e n i)]∧aQ 0=aC (aC aF) g∧aQ 1=aC aF e∧aQ 5 = .ref 0 0 0 n n∧aQ 13=VI n∧aQ 14=VI i) (fun i=>n-i) 0 ⟨aK1 _,rfl,rfl,rfl,rfl,rfl,rfl⟩ ?_
 rintro i aQ H ⟨hi,rfl,g0,g1,g5,g13,g14⟩
 have hl:=Ea g e n i
 have B3:qD g e n (i+1)=mH g e n (qD g e n i) n:=rH
 by_cases bW:(i:Int)<(n:Int)
 ·have wi:IntKind.i64.wrap ((i:Int)+1)=((i+1:Nat):Int):=wrapN (i+1) (by omega) (by omega)
  have he':((e.length:Nat):Int)=(n:Int):=by omega
  simp only[CD,g1,g13,g14,bW,he',dS,VX,Nat.reduceEqDiff,Nat.reduceAdd,Nat.reduceLeDiff,Nat.reduceLT,Nat.reduceSub]
  refine XQ (r:=(i:Int)) hn hl hg W7 he ?_ ?_ ?_ ?_ ?_ ?_ ?_ fun xA m0 m1 m5 m13 m14 => ?_
  all_goals first | exact g0 | exact g1 | exact g5 | exact g13 | exact g14 | rfl | skip
  simp only[m14,wi,dS,VX,Nat.reduceEqDiff,Nat.reduceAdd,Nat.reduceLeDiff,Nat.reduceLT,Nat.reduceSub]
  exact⟨i+1,by omega,by omega,by rw[B3],m0,m1,m5,m13,rfl⟩
 ·have mI:i=n:=by omega
  subst mI
  simp only[CD,g5,g13,g14,bW,dS,VX,Nat.reduceEqDiff,Nat.reduceAdd,Nat.reduceLeDiff,Nat.reduceLT,Nat.reduceSub]
  have:=ZU (f:=fun b=>VB b) (e:=1) (b:=0) (g:=0) (c:=i) (xs:=qD g e i i) (H:=[tR (qD g e i i)]) (fun _=>rfl) (by rw[aT]) (by omega)
  rw[hl] at this
  exact this
end
end Go.PM
namespace Go.PM
end Go.PM
namespace Go.PM
end Go.PM
namespace Go.PM
open Go.Lib
theorem CG.wide {cG:List (List ByteArray)}:∀ {lo hi gB qI:Nat} {H:aA} {v:VV},CG cG lo hi H v→gB≤lo→hi≤qI→CG cG gB qI H v:=by
 rintro lo hi gB qI H v ⟨c,h1,h2⟩ hl hh
 exact⟨c,h1,h2.wide hl hh⟩
theorem CG.own {n lo hi:Nat} {H:aA} {v:VV} {cG:List (List ByteArray)} (h:CG cG lo hi H v) (hn:n≤lo):∃c,v = .agg [c]∧bO c=true∧aB c=[c]∧jU n c=true:=by
 obtain⟨c,rfl,h | ⟨b,g,cc,rs,h1,h2,rfl,h3⟩⟩:=h
 ·obtain⟨rfl,_⟩:=h
  exact⟨_,rfl,rfl,rfl,rfl⟩
 ·exact⟨_,rfl,rfl,rfl,by simp[jU];omega⟩
theorem SvG.wide {s:vH}:∀ {lo hi gB qI:Nat} {H:aA} {v:VV},SvG s lo hi H v→gB≤lo→hi≤qI→SvG s gB qI H v:=by
 rintro lo hi gB qI H v ⟨a,b,c,m1,m2,h1,k1,k2,k3,h2,h3,h4⟩ hl hh
 exact⟨a,b,c,m1,m2,h1,by omega,k2,by omega,h2.wide hl (aKx _),h3,h4.wide (aKx _) hh⟩
theorem Lv.start {n:Nat} {H:aA}:Lv n H.length H:=fun b g es e w hb hr=>by
 rw[aKX hb] at hr
 cases hr
def Cv (f:Rat→VV) (b:List Rat) (g:List (List Rat)) (e:List Rat):VV := .agg [aC f b,aC (aC f) g,aC f e]
end Go.PM
namespace Go.PM
section
variable {α:Type}
def vec (n:Nat) (f:Nat→α):List α:=(aKt n).map f
def Ql (n m:Nat) (F:Nat→Nat→α):List (List α):=vec n fun a=>vec m (F a)
theorem jM (n:Nat) (f:Nat→α):(vec n f).length=n:=by simp[vec]
theorem B0 (n m:Nat) (F:Nat→Nat→α):(Ql n m F).length=n:=jM ..
theorem vV {n i:Nat} {f:Nat→α} (h:i<n):(vec n f)[i]? = some (f i):=by simp[vec,h]
theorem JP {n i:Nat} {f:Nat→α} (h:n≤i):(vec n f)[i]? = none:=by rw[aKX];rw[jM];exact h
theorem uZ {n:Nat} {f g:Nat→α} (h:∀i,i<n→f i=g i):vec n f=vec n g:=List.map_congr_left fun i hi=>h i (aK8.1 hi)
theorem K7 {n m:Nat} {F G:Nat→Nat→α} (h:∀a b,a<n→b<m→F a b=G a b):Ql n m F=Ql n m G:=uZ fun a ha=>uZ fun b hb=>h a b ha hb
theorem Ny {n m i:Nat} {F:Nat→Nat→α} (h:i<n):(Ql n m F)[i]? = some (vec m (F i)):=vV h
theorem NG {n j:Nat} {f:Nat→α} {y:α}:(vec n f).set j y=vec n fun b=>if b=j then y else f b:=by
 apply aN1
 intro b
 rw[List.getElem?_set,jM]
 by_cases hb:b<n
 ·rw[vV hb,vV hb]
  by_cases hj:j=b
  ·subst hj;simp[hb]
  ·simp[hj,Ne.symm hj]
 ·rw[JP (by omega),JP (by omega)]
  split
  ·rw[if_neg (by omega)]
  ·rfl
theorem Si {n m i:Nat} {F:Nat→Nat→α} {g:Nat→α}:(Ql n m F).set i (vec m g)=Ql n m fun a b=>if a=i then g b else F a b:=by
 rw[Ql,NG]
 refine uZ fun a _ => ?_
 split
 ·rename_i h
  exact uZ fun b _=>(if_pos h).symm
 ·rename_i h
  exact uZ fun b _=>(if_neg h).symm
theorem Kr {n:Nat} {x:α}:aLn n x=vec n fun _=>x:=by
 apply aN1
 intro i
 by_cases h:i<n
 ·rw[vV h,aNW,if_pos h]
 ·rw[JP (by omega),aNW,if_neg h]
theorem abT {n m:Nat} {x:α}:aLn n (aLn m x)=Ql n m fun _ _=>x:=by rw[Kr,Kr];rfl
theorem ajG (xs:List α) (d:α):xs=vec xs.length fun i=>xs.getD i d:=by
 apply aN1
 intro i
 by_cases h:i<xs.length
 ·rw[vV h,aKu,aKE h]
  rfl
 ·rw[JP (by omega),aKX (by omega)]
theorem Jx {n:Nat} {f:Nat→α} {x:α}:x∈vec n f↔∃i,i<n∧f i=x:=by simp[vec]
theorem aaY {n m:Nat} {F:Nat→Nat→α} {r:List α} (h:r∈Ql n m F):∃i,i<n∧r=vec m (F i):=by
 obtain⟨i,hi,rfl⟩:=Jx.1 h
 exact⟨i,hi,rfl⟩
theorem Bn {n:Nat} {f:Nat→α}:vec (n+1) f=vec n f++[f n]:=by simp[vec,aNS]
end
end Go.PM
namespace Go.PM
open Go.Lib
theorem aoE {qs:List Rat} {B i:Nat} {y:Rat} (h:∀q∈qs,aK q≤B) (hy:aK y≤B):∀q∈qs.set i y,aK q≤B:=fun q hq=>by
 rcases List.mem_or_eq_of_mem_set hq with h1 | rfl
 ·exact h q h1
 ·exact hy
theorem SvG.own {n lo hi:Nat} {s:vH} {H:aA} {v:VV} (h:SvG s lo hi H v) (hn:n≤lo):∃a b c,v = .agg [a,b,c]∧bO a=true∧bO b=true∧bO c=true∧jU n a=true∧jU n b=true∧jU n c=true:=by
 obtain⟨a,b,c,m1,m2,rfl,l1,l2,l3,ha,hb,hc⟩:=h
 refine⟨a,b,c,rfl,ha.cell,hb.cell,hc.cell,?_,?_,?_⟩
 ·rcases ha with⟨rfl,_⟩ | ⟨b,g,c,h1,h2,rfl,h3⟩
  ·rfl
  ·simp[jU];omega
 ·rcases hb with⟨rfl,_⟩ | ⟨b,g,c,rs,h1,h2,rfl,h3⟩
  ·rfl
  ·simp[jU];omega
 ·rcases hc with⟨rfl,_⟩ | ⟨b,g,c,h1,h2,rfl,h3⟩
  ·rfl
  ·simp[jU];omega
abbrev kR:fN := .row 0 [.agg [.tree [] .nil,.tree [] .nil,.tree [] .nil]] 3 true
end Go.PM
namespace Go.PM
open Go.Lib
section
variable {α:Type} {f:α→VV} {e:Nat}
structure RdT (f:α→VV) (e:Nat) (m:List (List α)) (H:aA) (v:VV):Prop where
 len:∀H',H <+: H'→rW v H'=some (VI m.length)
 get:∀H',H <+: H'→∀(i:Nat) r,m[i]? = some r→∃p w,bJ 1 v (VI i) H'=some p∧bF false 1 p H'=some w∧Rd f e r H' w
theorem RdT.pre {m:List (List α)} {H H':aA} {v:VV} (h:RdT f e m H v) (hh:H <+: H'):RdT f e m H' v:=⟨fun H2 h2=>h.len H2 (hh.trans h2),fun H2 h2=>h.get H2 (hh.trans h2)⟩
theorem RdT.tree {m:List (List α)} {H:aA} {t:TK} (hs:∀x,(aB (f x)).length=e):RdT f e m H (.tree (m.map (aC f)) t) :=
 ⟨fun _ _=>eQ,fun _ _ i x hx=>⟨_,_,aH hx rfl,by rw[NB];rfl,Rd.tree hs⟩⟩
theorem RdT.row {m:List (List α)} {H:aA} {b g n c:Nat} {w:Bool} (h:aG H b g=some (m.map (aC f),1,w)) (hn:n=m.length) (hs:∀x,(aB (f x)).length=e):RdT f e m H (.ref b g 0 n c):=by
 subst hn
 refine⟨fun H' hh=>eH (cJ hh h),fun H' hh i x hx => ?_⟩
 have hi:=(List.getElem?_eq_some_iff.1 hx).1
 have e1:=bB (o:=0) (n:=m.length) (c:=c) (i:=i) (k := .i64) (cJ hh h) hi
 rw[aL5] at e1
 exact⟨_,_,e1,by rw[qA (f:=aC f) (cJ hh h) hx];rfl,Rd.tree hs⟩
theorem MG.snoc {lo hi gB b g:Nat} {H:aA} {rs:List (CF α)} (h:MG f e lo hi b g H rs) (hg:g=rs.length) (dR:gB≤lo) (hn:g≤1000000000) (r:CF α) (hhi:hi≤r.b) (hc:r.xs.length≤r.c) (hr:aG H r.b r.g=some (r.xs.map f,e,true)) :
  dP gB 1 24 (.ref b g 0 g g) [.ref r.b r.g 0 r.xs.length r.c] H=some (.ref b (g+1) 0 (g+1) (g+1),H.set b (.row (g+1) ((rs++[r]).map tL) 1 true))∧MG f e lo H.length b (g+1) (H.set b (.row (g+1) ((rs++[r]).map tL) 1 true)) (rs++[r]):=by
 have aHd:=h.blo
 have aIN:=h.bhi
 have BY:=iR hr
 have xH:=jQ (f:=tL) (xs:=rs) (x:=r) (lo:=gB) (bytes:=24) h.out hg (by omega) (by decide) (by decide) (by omega)
 refine⟨xH,bQ h.out,h.blo,iR h.out,?_,fun s hs => ?_⟩
 ·rw[aMU,List.nodup_append]
  refine⟨h.rows.nd,by simp,fun a ha c hc' => ?_⟩
  obtain⟨s,hs,rfl⟩:=aL8.1 ha
  have:=h.rows.row s hs
  simp only[List.map_cons,List.map_nil,aLD] at hc'
  omega
 ·rcases aLt.1 hs with hs | hs
  ·obtain⟨k1,k2,k3,k4,k5⟩:=h.rows.row s hs
   exact⟨k1,by omega,k3,k4,aX (by omega) k5⟩
  ·rw[aLD] at hs
   subst hs
   exact⟨by omega,BY,by omega,hc,aX (by omega) hr⟩
end
def qZ (m:List (List Rat)) (i:Nat):Rat:=(m.take i).foldl (fun a r=>if a<dL r then dL r else a) 0
def H6 (m:List (List Rat)):Rat:=qZ m m.length
theorem Mx {m:List (List Rat)} {i:Nat} {r:List Rat} (h:m[i]? = some r):qZ m (i+1)=if qZ m i<dL r then dL r else qZ m i:=by
 unfold qZ
 rw[sQ h,aNI]
 rfl
def abB (d:Rat) (i:Nat) (r:List Rat):List Rat:=(r.map (· / d)).set i (1-dL (r.map (· / d)))
def WY (m:List (List Rat)):List (List Rat):=vec m.length fun i=>abB (H6 m) i (m.getD i [])
theorem El {qs:List Rat} {B n:Nat} (h:∀q∈qs,aK q≤B) (hn:qs.length≤n):aK (dL qs)≤n*(B+1)+1:=by
 have h1:=A6 h qs.length
 rw[aLK] at h1
 have h2:qs.length*(B+1)≤n*(B+1):=aKY _ hn
 omega
theorem K8 {m:List (List Rat)} {B n:Nat} (h:∀r∈m,r.length≤n∧∀q∈r,aK q≤B):∀i,aK (qZ m i)≤n*(B+1)+1
 |
  0=>by
  show aK 0≤_
  rw[sC]
  omega
 |
  i+1=>by
  cases hr:m[i]? with
  |
   none =>
   have:qZ m (i+1)=qZ m i:=by
    unfold qZ
    rw[aMn,hr]
    simp
   rw[this]
   exact K8 h i
  |
   some r =>
   rw[Mx hr]
   have:=h r (aLr hr)
   split
   ·exact El this.2 this.1
   ·exact K8 h i
theorem adJ {qs:List Rat} {d:Rat} {B D:Nat} (h:∀q∈qs,aK q≤B) (hd:aK d≤D):∀q∈qs.map (· / d),aK q≤B+D+1:=fun q hq=>by
 obtain⟨p,hp,rfl⟩:=aL8.1 hq
 have h1:=h p hp
 have h2:=Dg p d
 omega
end Go.PM
namespace Go.PM
open Go.Lib
theorem KC {a:Nat} (h:a≤12):a*(665+1)+1≤7993:=by omega
def iI (n i:Nat) (xs:List ByteArray):Option (List Rat):=match sZ xs with
 | some r=>if r.length=n∧(r.any fun q=>decide (q<0))=false∧r.getD i 0=0 then some r else none
 | none=>none
def iS (c:List (List ByteArray)):Nat→Option (List (List Rat))
 | 0=>some []
 |
  i+1=>match iS c i,iI c.length i (c.getD i []) with
  | some out,some r=>some (out++[r])
  | _,_=>none
theorem Jr {n i:Nat} {xs:List ByteArray} {r:List Rat} (h:iI n i xs=some r):sZ xs=some r∧r.length=n∧(∀q∈r,0≤q)∧r.getD i 0=0:=by
 unfold iI at h
 split at h
 ·rename_i ps hp
  split at h
  ·rename_i hc
   cases h
   refine⟨hp,hc.1,fun q hq => ?_,hc.2.2⟩
   have:=List.any_eq_false.1 hc.2.1 q hq
   exact Rat.not_lt.1 (by simpa using this)
  ·cases h
 ·cases h
theorem Eb {c:List (List ByteArray)} {i:Nat} (h:iS c i=none):∀j,i≤j→iS c j=none:=by
 intro j hj
 induction j with
 |
  zero =>
  have:i=0:=by omega
  subst this
  exact h
 |
  succ j ih =>
  by_cases Qr:i≤j
  ·rw[iS,ih Qr]
  ·have:i=j+1:=by omega
   subst this
   exact h
theorem tM {c:List (List ByteArray)}:∀ {i:Nat} {m:List (List Rat)},iS c i=some m→m.length=i∧∀r∈m,r.length=c.length∧∀q∈r,0≤q∧aK q≤665
 | 0,m,h=>by cases h;exact⟨rfl,fun r hr=>by cases hr⟩
 |
  i+1,m,h=>by
  rw[iS] at h
  split at h
  ·rename_i out r h1 h2
   cases h
   obtain⟨k1,k2⟩:=tM h1
   obtain⟨j1,j2,j3,_⟩:=Jr h2
   refine⟨by rw[aKI,k1];rfl,fun s hs => ?_⟩
   rcases aLt.1 hs with hs | hs
   ·exact k2 s hs
   ·rw[aLD] at hs
    subst hs
    exact⟨j2,fun q hq=>⟨j3 q hq,(nD j1).1 q hq⟩⟩
  ·cases h
theorem Ul {qs:List Rat} (h:∀q∈qs,0≤q):0≤dL qs:=by
 have key:∀i,i≤qs.length→0≤dL (qs.take i):=by
  intro i
  induction i with
  | zero=>intro _;show (0:Rat)≤0;exact aN3
  |
   succ i ih =>
   intro hi
   have hq:qs[i]? = some qs[i]:=aKE (by omega)
   rw[C6 hq]
   have h1:=ih (by omega)
   have h2:=h _ (aKK (by omega:i<qs.length))
   grind
 have:=key qs.length (aKx _)
 rwa [aLK] at this
theorem PU {m:List (List Rat)} (h:∀r∈m,0≤dL r):∀i,0≤qZ m i∧0≤dL ((m.map dL).take i)∧(dL ((m.map dL).take i)=0↔qZ m i=0)∧(((m.take i).any fun r => !decide (dL r=0)) = !decide (qZ m i=0))
 | 0=>⟨aN3,aN3,⟨fun _=>rfl,fun _=>rfl⟩,rfl⟩
 |
  i+1=>by
  obtain⟨h1,h2,h3,h4⟩:=PU h i
  cases hr:m[i]? with
  |
   none =>
   have e1:qZ m (i+1)=qZ m i:=by unfold qZ;rw[aMn,hr];simp
   have e2:(m.map dL).take (i+1)=(m.map dL).take i:=by rw[aMn,aN2,hr];simp
   have e3:m.take (i+1)=m.take i:=by rw[aMn,hr];simp
   rw[e1,e2,e3]
   exact⟨h1,h2,h3,h4⟩
  |
   some r =>
   have h0:=h r (aLr hr)
   have Jc:(m.map dL)[i]? = some (dL r):=by rw[aN2,hr];rfl
   rw[Mx hr,C6 Jc,sQ hr,List.any_append,h4]
   simp only[List.any_cons,List.any_nil,Bool.or_false]
   by_cases hc:qZ m i<dL r
   ·rw[if_pos hc]
    have hp:¬dL r=0:=by grind
    have hs:¬dL ((m.map dL).take i)+dL r=0:=by grind
    refine⟨h0,by grind,⟨fun h=>absurd h hs,fun h=>absurd h hp⟩,by simp[hp]⟩
   ·rw[if_neg hc]
    refine⟨h1,by grind,?_,?_⟩
    ·constructor
     ·intro h;exact h3.1 (by grind)
     ·intro h;have:=h3.2 h;grind
    ·by_cases hz:qZ m i=0
     ·have:dL r=0:=by grind
      simp[hz,this]
     ·simp[hz]
theorem acA {m:List (List Rat)} {n B:Nat} (hm:m.length=n) (hb:∀r∈m,r.length=n∧∀q∈r,aK q≤B) (hn:n≤100) (hB:B≤1000000):(WY m).length=n∧∀r∈WY m,r.length=n∧∀q∈r,aK q≤100000000000:=by
 refine⟨by rw[WY,jM,hm],fun r hr => ?_⟩
 obtain⟨i,hi,rfl⟩:=Jx.1 hr
 have hgi:m[i]? = some m[i]:=aKE hi
 have Mh:=hb _ (aKK hi)
 rw[aKu,hgi,aNL]
 have bm:=K8 (n:=n) (B:=B) (fun r hr=>⟨aN4 (hb r hr).1,(hb r hr).2⟩) m.length
 rw[←H6] at bm
 have qb:=adJ Mh.2 bm
 have hl:(m[i].map (· / H6 m)).length=n:=by rw[aMe];exact Mh.1
 have b3:=El qb (aN4 hl)
 have m1:n*(B+1)≤100*(B+1):=aKY _ hn
 have m2:n*(B+(n*(B+1)+1)+1+1)≤100*(B+(n*(B+1)+1)+1+1):=aKY _ hn
 have b4:=abE 1 (dL (m[i].map (· / H6 m)))
 rw[AO] at b4
 refine⟨by rw[abB,aMv,hl],aoE (fun q hq => ?_) (by omega)⟩
 have:=qb q hq
 omega
end Go.PM
namespace Go.PM
abbrev P8:=Nat×Nat×Rat
def MP (F:Nat→Nat→Rat) (i j:Nat) (q:Rat) (a b:Nat):Rat:=if i≠j∧a=i∧b=j then F a b+q else F a b
theorem abW {F:Nat→Nat→Rat} {i:Nat} {q:Rat}:MP F i i q=F:=by
 funext a b
 exact if_neg fun h=>h.1 rfl
def JO (F:Nat→Nat→Rat) (L:List P8):Nat→Nat→Rat:=L.foldl (fun F t=>MP F t.1 t.2.1 t.2.2) F
def iW (L:List P8):Nat→Nat→Rat:=JO (fun _ _=>0) L
theorem IM {F:Nat→Nat→Rat} {t:P8} {L:List P8}:JO F (t::L)=JO (MP F t.1 t.2.1 t.2.2) L:=rfl
theorem Ji {F:Nat→Nat→Rat} {L M:List P8}:JO F (L++M)=JO (JO F L) M:=aNI
theorem Xi {L:List P8} {i j:Nat} {q:Rat}:iW (L++[(i,j,q)])=MP (iW L) i j q:=Ji
theorem XW {L:List P8} {i:Nat} {q:Rat}:iW (L++[(i,i,q)])=iW L:=by rw[Xi,abW]
theorem Pq {Q:Nat}:∀(L:List P8) (F:Nat→Nat→Rat) (B:Nat),(∀t∈L,aK t.2.2≤Q)→(∀a b,aK (F a b)≤B)→∀a b,aK (JO F L a b)≤B+L.length*(Q+1)
 |
  [],F,B,_,hF,a,b=>by
  have:=hF a b
  show aK (F a b)≤_
  omega
 |
  t::L,F,B,hL,hF,a,b=>by
  rw[IM]
  have ht:=hL t aK7
  have:=Pq L (MP F t.1 t.2.1 t.2.2) (B+(Q+1)) (fun s hs=>hL s (aK6 _ hs)) (fun a b=>by
   unfold MP
   have h1:=hF a b
   have h2:=vF (F a b) t.2.2
   split<;>omega) a b
  rw[aKH,Nat.succ_mul]
  omega
theorem OQ {Q:Nat} {L:List P8} (h:∀t∈L,aK t.2.2≤Q) (a b:Nat):aK (iW L a b)≤1+L.length*(Q+1) :=
 Pq L _ 1 h (fun _ _=>by show aK 0≤1;rw[sC];exact aKx _) a b
theorem OP:∀(L:List P8) (F:Nat→Nat→Rat),(∀t∈L,0≤t.2.2)→∀a b,F a b≤JO F L a b
 | [],F,_,a,b=>aN3
 |
  t::L,F,hL,a,b=>by
  rw[IM]
  have ht:=hL t aK7
  have h1:=OP L (MP F t.1 t.2.1 t.2.2) (fun s hs=>hL s (aK6 _ hs)) a b
  have h2:F a b≤MP F t.1 t.2.1 t.2.2 a b:=by
   unfold MP
   split<;>grind
  exact Rat.le_trans h2 h1
theorem JD {L:List P8} (h:∀t∈L,0≤t.2.2) (a b:Nat):0≤iW L a b:=OP L _ h a b
theorem aeJ {L:List P8} {i j:Nat} {q:Rat} (h:∀t∈L,0≤t.2.2) (ht:(i,j,q)∈L) (Qr:i≠j) (hq:0<q):0<iW L i j:=by
 obtain⟨s,r,rfl⟩:=List.append_of_mem ht
 have hs:∀t∈s,0≤t.2.2:=fun t ht=>h t (List.mem_append_left _ ht)
 have hr:∀t∈r,0≤t.2.2:=fun t ht=>h t (List.mem_append_right _ (aK6 _ ht))
 have h1:=OP r (MP (iW s) i j q) hr i j
 have h2:iW (s++(i,j,q)::r)=JO (MP (iW s) i j q) r:=by
  unfold iW
  rw[Ji,IM]
 rw[h2]
 have h3:=JD hs i j
 have h4:MP (iW s) i j q i j=iW s i j+q:=if_pos ⟨Qr,rfl,rfl⟩
 rw[h4] at h1
 grind
theorem arY {qs:List Rat} (h:∀q∈qs,0≤q) {q:Rat} (hq:q∈qs):q≤dL qs:=by
 have key:∀i,i≤qs.length→0≤dL (qs.take i)∧∀p∈qs.take i,p≤dL (qs.take i):=by
  intro i
  induction i with
  | zero=>intro _;exact⟨by show (0:Rat)≤0;exact aN3,by simp⟩
  |
   succ i ih =>
   intro hi
   have hq:qs[i]? = some qs[i]:=aKE (by omega)
   obtain⟨h1,h2⟩:=ih (by omega)
   have h3:=h _ (aKK (by omega:i<qs.length))
   rw[C6 hq]
   refine⟨by grind,fun p hp => ?_⟩
   rw[sQ hq] at hp
   rcases aLt.1 hp with hp | hp
   ·have:=h2 p hp
    grind
   ·rw[aLD] at hp
    subst hp
    grind
 have:=(key qs.length (aKx _)).2
 rw[aLK] at this
 exact this q hq
theorem Xu {N:Nat} {L:List P8} {i j:Nat} {q:Rat} (h:∀t∈L,0≤t.2.2) (ht:(i,j,q)∈L) (Qr:i≠j) (hq:0<q) (hi:i<N) (hj:j<N):H6 (Ql N N (iW L))≠0:=by
 have hnn:∀r∈Ql N N (iW L),∀q∈r,0≤q:=fun r hr q hq=>by
  obtain⟨a,_,rfl⟩:=aaY hr
  obtain⟨b,_,rfl⟩:=Jx.1 hq
  exact JD h a b
 obtain⟨_,_,_,h4⟩:=PU (fun r hr=>Ul (hnn r hr)) (Ql N N (iW L)).length
 rw[aLK] at h4
 intro h0
 rw[←H6,h0,decide_eq_true rfl,Bool.not_true] at h4
 have lL:=aLr (Ny (m:=N) (F:=iW L) hi)
 have h5:=List.any_eq_false.1 h4 _ lL
 have h6:=arY (hnn _ lL) (q:=iW L i j) (Jx.2 ⟨j,hj,rfl⟩)
 have h7:=aeJ h ht Qr hq
 simp only[Bool.not_eq_true',decide_eq_false_iff_not,not_true_eq_false,Classical.not_not] at h5
 rw[h5] at h6
 grind
theorem Xc {Q N:Nat} {L:List P8} (h:∀t∈L,aK t.2.2≤Q):∀r∈Ql N N (iW L),r.length=N∧∀q∈r,aK q≤1+L.length*(Q+1):=fun r hr=>by
 obtain⟨a,_,rfl⟩:=aaY hr
 refine⟨jM ..,fun q hq => ?_⟩
 obtain⟨b,_,rfl⟩:=Jx.1 hq
 exact OQ h a b
end Go.PM
namespace Go.PM
theorem fM (q:Rat):(aB (aF q)).all bO=true:=rfl
def PQ (F:Nat→Nat→Rat) (i j:Nat) (y:Rat) (a b:Nat):Rat:=if a=i∧b=j then y else F a b
def Tb (f:Rat→VV) (lo hi N M b g:Nat) (F:Nat→Nat→Rat) (H:aA):Prop:=∃rs,MG f 3 lo hi b g H rs∧rs.map (·.xs)=Ql N M F
def Qt (lo hi:Nat) (H H':aA):Prop:=H'.length=H.length∧∀b g x,b<lo∨hi≤b→aG H b g=some x→aG H' b g=some x
theorem Qt.refl {lo hi:Nat} {H:aA}:Qt lo hi H H:=⟨rfl,fun _ _ _ _ h=>h⟩
section
variable {f:Rat→VV} {lo hi N M b g:Nat} {F:Nat→Nat→Rat} {H H':aA}
theorem Tb.dC (h:Tb f lo hi N M b g F H) (hk:jV lo hi H H'):Tb f lo hi N M b g F H':=by
 obtain⟨rs,h1,h2⟩:=h
 exact⟨rs,h1.dC hk,h2⟩
theorem Tb.pre (h:Tb f lo hi N M b g F H) (hh:H <+: H'):Tb f lo hi N M b g F H':=h.dC (jV.pre hh)
theorem Tb.congr {G:Nat→Nat→Rat} (h:Tb f lo hi N M b g F H) (hF:∀a c,a<N→c<M→F a c=G a c):Tb f lo hi N M b g G H:=by
 obtain⟨rs,h1,h2⟩:=h
 exact⟨rs,h1,h2.trans (K7 hF)⟩
theorem Tb.lt (h:Tb f lo hi N M b g F H):lo≤b∧b<hi∧b<H.length:=by
 obtain⟨rs,h1,_⟩:=h
 exact⟨h1.blo,h1.bhi,iR h1.out⟩
theorem Tb.addr {c i:Nat} (h:Tb f lo hi N M b g F H) (qI:i<N):bJ 1 (.ref b g 0 N c) (VI i) H=some (.ptr b g i 0):=by
 obtain⟨rs,h1,_⟩:=h
 exact h1.addr qI
theorem Tb.len {c:Nat} (h:Tb f lo hi N M b g F H):rW (.ref b g 0 N c) H=some (VI N):=by
 obtain⟨rs,h1,_⟩:=h
 exact h1.len
theorem Tb.fz {d c:Nat} (h:Tb f lo hi N M b g F H) (hc:N≤c) (hp:∀x,aY (f x)=true):PM.fz (d+3) H (.ref b g 0 N c)=some (aC (aC f) (Ql N M F)):=by
 obtain⟨rs,h1,h2⟩:=h
 have hl:=congrArg aNH h2
 rw[aMe,B0] at hl
 rw[←h2,←hl]
 exact h1.fz (by omega) hp
theorem TabIs.tb {v:VV} (h:TabIs f 3 (Ql N M F) lo hi H v):∃b g c,v = .ref b g 0 N c∧N≤c∧Tb f lo hi N M b g F H:=by
 obtain⟨b,g,c,rs,h1,h2,h3,h4⟩:=h
 rw[B0] at h1 h2
 exact⟨b,g,c,h1,h2,rs,h3,h4⟩
theorem Tb.spot {i j:Nat} (h:Tb f lo hi N M b g F H) (qI:i<N) (hj:j<M) (hfs:∀x,(aB (f x)).length=3) (hfa:∀x,(aB (f x)).all bO=true) :
  ∃rb rg rc,bF false 1 (.ptr b g i 0) H=some (.ref rb rg 0 M rc)∧bJ 3 (.ref rb rg 0 M rc) (VI j) H=some (.ptr rb rg j 0)∧(∀ag,bF ag 3 (.ptr rb rg j 0) H=dO ag 3 (f (F i j)) 0) ∧
  ∀gB y,gB≤lo→∃H',bL gB 3 (.ptr rb rg j 0) (f y) H=some H'∧Qt lo hi H H'∧Tb f lo hi N M b g (PQ F i j y) H'∧∀k,bF false 1 (.ptr b g k 0) H'=bF false 1 (.ptr b g k 0) H:=by
 obtain⟨rs,hM,hx⟩:=h
 have hl:=congrArg aNH hx
 rw[aMe,B0] at hl
 obtain⟨r,hr⟩:∃r,rs[i]? = some r:=⟨_,aKE (by omega)⟩
 have M3:r.xs=vec M (F i):=by
  have h1:(rs.map (·.xs))[i]? = some r.xs:=by rw[aN2,hr];rfl
  rw[hx,Ny qI] at h1
  exact(Option.some.inj h1).symm
 have BY:r.xs.length=M:=by rw[M3,jM]
 have hgj:r.xs[j]? = some (F i j):=by rw[M3,vV hj]
 refine⟨r.b,r.g,r.c,?_,hM.at hr hj,fun ag=>hM.get hr hgj,fun gB y dR => ?_⟩
 ·have:=hM.cell hr
  rw[BY] at this
  exact this
 ·have h1:=hM.put (j:=j) (gB:=gB) (y:=y) hr (by omega) dR (hfs y) (hfa y)
  have h2:=hM.set (ys:=r.xs.set j y) hr (by rw[aMv])
  have Mh:=hM.rows.row r (aLr hr)
  refine⟨_,h1,⟨by rw[aMv],fun b' g' x xF JK=>aX (by have h7:=Mh.1;have h8:=Mh.2.1;omega) JK⟩,⟨_,h2,?_⟩,fun k => ?_⟩
  ·have e:(rs.set i { r with xs:=r.xs.set j y }).map (fun r:CF Rat=>r.xs)=(rs.map (fun r:CF Rat=>r.xs)).set i (r.xs.set j y):=aN5
   rw[e,hx,M3,NG,Si]
   exact K7 fun a c _ _=>by unfold PQ;by_cases ha:a=i<;>by_cases hc:c=j<;>simp[ha,hc]
  ·rw[bK,bK,aX Mh.2.2.1 hM.out,hM.out]
end
theorem amC {N:Nat}:aLn N (aLn N (0:Rat))=Ql N N fun _ _=>0:=abT
end Go.PM
namespace Go.PM
def DA (s:Int) (g:Nat) (a:Rat):Prop:=∃M:Int,a*(s:Rat)=(M:Rat)∧M.natAbs<2^g
theorem DA.bits {s:Int} {g:Nat} {a:Rat} (h:DA s g a) (hs:s≠0) (hg:s.natAbs<2^g):aK a≤g:=by
 obtain⟨M,hM,hl⟩:=h
 have h1:1≤g:=by
  cases g with
  | zero=>simp at hg;omega
  | succ g=>omega
 have hsr:(s:Rat)≠0:=by
  intro h
  exact hs (by exact_mod_cast h)
 have ha:a=(M:Rat) / (s:Rat):=by grind
 rcases Int.lt_or_gt_of_ne hs with mE | kZ
 ·have e:a=mkRat (-M) s.natAbs:=by
   rw[Rat.mkRat_eq_div]
   have:((s.natAbs:Nat):Int) = -s:=by omega
   have e2:((s.natAbs:Nat):Rat) = -(s:Rat):=by
    rw[←Rat.intCast_natCast,this,Rat.intCast_neg]
   rw[e2,Rat.intCast_neg,ha]
   grind
  rw[e]
  exact Dw (by rw[Int.natAbs_neg];exact xL hl) (xL hg) h1
 ·have e:a=mkRat M s.natAbs:=by
   rw[Rat.mkRat_eq_div]
   have:((s.natAbs:Nat):Int)=s:=by omega
   have e2:((s.natAbs:Nat):Rat)=(s:Rat):=by
    rw[←Rat.intCast_natCast,this]
   rw[e2,ha]
  rw[e]
  exact Dw (xL hl) (xL hg) h1
def qF (g n m:Nat) (A:Nat→Nat→Rat):Prop:=∃s:Int,s≠0∧s.natAbs<2^g∧∀i j,i<n→j<m→DA s g (A i j)
theorem qF.bits {g n m:Nat} {A:Nat→Nat→Rat} (h:qF g n m A) {i j:Nat} (hi:i<n) (hj:j<m):aK (A i j)≤g:=by
 obtain⟨s,h1,h2,h3⟩:=h
 exact(h3 i j hi hj).bits h1 h2
theorem WG (a b:Nat):2^a*2^b=2^(a+b):=(aML 2 a b).symm
theorem yT {x y:Int} {g:Nat} (hx:x.natAbs<2^g) (hy:y.natAbs<2^g):(x*y).natAbs<2^(2*g):=by
 rw[aNb,show 2*g=g+g by omega,←WG]
 exact aN6 hx hy
theorem qF.G8 {g n m k:Nat} {A:Nat→Nat→Rat} {c:Nat→Rat} (h:qF g n m A) (hk:k<n) (hkm:k<m) (Tr:A k k≠0) (hc:∀i,i<n→c i=0∨c i=A i k / A k k):qF (2*g+1) n m (G8 c k A):=by
 obtain⟨s,h1,h2,h3⟩:=h
 obtain⟨K,hK,hKl⟩:=h3 k k hk hkm
 have hsr:(s:Rat)≠0:=fun h=>h1 (by exact_mod_cast h)
 have hKr:(K:Rat)≠0:=by
  rw[←hK]
  grind
 have hK0:K≠0:=by
  intro h
  rw[h] at hKr
  exact hKr rfl
 have hp:2^(2*g+1)=2^(2*g)+2^(2*g):=by rw[aLY];omega
 refine⟨s*K,Int.mul_ne_zero h1 hK0,by have:=yT h2 hKl;omega,fun i j hi hj => ?_⟩
 obtain⟨M,hM,hMl⟩:=h3 i j hi hj
 obtain⟨N,hN,hNl⟩:=h3 i k hi hkm
 obtain⟨R,hR,hRl⟩:=h3 k j hk hj
 rcases hc i hi with hci | hci
 ·refine⟨M*K,?_,by have:=yT hMl hKl;omega⟩
  unfold Go.PM.G8
  rw[hci,aN7,aN7,←hM]
  grind
 ·refine⟨M*K-N*R,?_,?_⟩
  ·unfold Go.PM.G8
   rw[hci,aN7,Rat.intCast_sub,aN7,aN7,←hM,←hN,←hR,←hK]
   grind
  ·have e1:=yT hMl hKl
   have e2:=yT hNl hRl
   have e3:(M*K-N*R).natAbs≤(M*K).natAbs+(N*R).natAbs:=by omega
   omega
theorem qF.swp {g n m k r:Nat} {A:Nat→Nat→Rat} (h:qF g n m A) (hk:k<n) (hr:r<n):qF g n m (swp k r A):=by
 obtain⟨s,h1,h2,h3⟩:=h
 refine⟨s,h1,h2,fun i j hi hj => ?_⟩
 unfold Go.PM.swp
 split
 ·exact h3 r j hr hj
 ·split
  ·exact h3 k j hk hj
  ·exact h3 i j hi hj
def rhs (n:Nat) (B:Nat→Nat→Rat):Nat→Rat:=fun i=>B i n
theorem asJ {n k r:Nat} {B:Nat→Nat→Rat}:rhs n (swp k r B)=swp k r (rhs n B):=by
 funext i
 unfold rhs swp
 split
 ·rfl
 ·split<;>rfl
theorem BV.amR {n g:Nat} {B:Nat→Nat→Rat} (hF:BV n B) (hS:qF g n (n+1) B):∀k,k≤n →
  ∃B',ML n k B'∧BV n B'∧qF (2^k*(g+1)-1) n (n+1) B'∧∀x,eU n B' (rhs n B') x↔eU n B (rhs n B) x
 | 0,_=>⟨B,⟨fun _ _ _ h _=>absurd h (Nat.not_lt_zero _),fun _ h=>absurd h (Nat.not_lt_zero _)⟩,hF,by simpa using hS,fun _=>Iff.rfl⟩
 |
  k+1,hk=>by
  obtain⟨B',h1,h2,h3,h4⟩:=BV.amR hF hS k (by omega)
  obtain⟨m,Qe,XR,hm3⟩:=h2.ahJ (by omega) h1.upper
  have g1:=h1.swp Qe XR
  have g2:=OC (k:=k) (m:=m) (by omega) XR h2
  have g3:=h3.swp (k:=k) (r:=m) (by omega) XR
  have Tr:swp k m B' k k≠0:=by
   unfold Go.PM.swp
   rw[if_pos rfl]
   exact hm3
  have hck:(fun i=>if i=k then 0 else swp k m B' i k / swp k m B' k k) k=0:=if_pos rfl
  refine⟨G8 (fun i=>if i=k then 0 else swp k m B' i k / swp k m B' k k) k (swp k m B'),g1.step Tr (by omega),OT (by omega) hck g2,?_,fun x => ?_⟩
  ·have e:2^(k+1)*(g+1)-1=2*(2^k*(g+1)-1)+1:=by
    have h0:0<2^k*(g+1):=Nat.mul_pos (aN8 _) (by omega)
    have:2^(k+1)*(g+1)=2*(2^k*(g+1)):=by rw[aLY];grind
    omega
   rw[e]
   refine g3.G8 (by omega) (by omega) Tr fun i hi => ?_
   by_cases V9:i=k
   ·exact .inl (if_pos V9)
   ·exact .inr (if_neg V9)
  ·have e1:=DT (n:=n) (k:=k) (b:=rhs n (swp k m B')) (x:=x) (c:=fun i=>if i=k then 0 else swp k m B' i k / swp k m B' k k) (A:=swp k m B') (by omega) hck
   have e2:=DX (n:=n) (k:=k) (m:=m) (b:=rhs n B') (x:=x) (A:=B') (by omega) XR
   rw[←asJ] at e2
   exact(e1.trans e2).trans (h4 x)
theorem BV.aiT {n g:Nat} {B:Nat→Nat→Rat} (hF:BV n B) (hS:qF g n (n+1) B):∃X,eU n B (rhs n B) X∧∀i,i<n→aK (X i)≤2*(2^n*(g+1)):=by
 obtain⟨B',h1,h2,h3,h4⟩:=BV.amR hF hS n (aKx _)
 refine⟨fun i=>rhs n B' i / B' i i,(h4 _).1 (h1.ahB _),fun i hi => ?_⟩
 have b1:=h3.bits hi (Nat.lt_succ_self n)
 have b2:=h3.bits hi (show i<n+1 by omega)
 have b3:=Dg (B' i n) (B' i i)
 show aK (B' i n / B' i i)≤_
 omega
end Go.PM
namespace Go.PM
theorem DA.wide {s:Int} {g g':Nat} {a:Rat} (h:DA s g a) (hg:g≤g'):DA s g' a:=by
 obtain⟨M,h1,h2⟩:=h
 exact⟨M,h1,Nat.lt_of_lt_of_le h2 (aMA (by decide) hg)⟩
theorem DA.zero {s:Int} {g:Nat}:DA s g 0:=⟨0,by simp,by simpa using aN8 g⟩
theorem DA.mul {s t:Int} {g h:Nat} {a b:Rat} (ha:DA s g a) (hb:DA t h b):DA (s*t) (g+h) (a*b):=by
 obtain⟨M,m1,m2⟩:=ha
 obtain⟨N,n1,n2⟩:=hb
 refine⟨M*N,?_,?_⟩
 ·rw[aN7,aN7,←m1,←n1]
  grind
 ·rw[aNb,aML]
  exact aN6 m2 n2
theorem DA.sum {s:Int} {g:Nat} {f:Nat→Rat}:∀ {n:Nat},(∀j,j<n→DA s g (f j))→∃M:Int,Sg f n*(s:Rat)=(M:Rat)∧M.natAbs≤n*(2^g-1)
 | 0,_=>⟨0,by simp[Sg],by simp⟩
 |
  n+1,h=>by
  obtain⟨M,m1,m2⟩:=DA.sum (n:=n) fun j hj=>h j (by omega)
  obtain⟨N,n1,n2⟩:=h n (by omega)
  refine⟨M+N,?_,?_⟩
  ·rw[Sg,Rat.add_mul,m1,n1,Rat.intCast_add]
  ·have:=Int.natAbs_add_le M N
   rw[Nat.add_mul]
   omega
theorem DA.ahU {s:Int} {g n:Nat} {f:Nat→Rat} (hn:n≤16) (h:∀j,j<n→DA s g (f j)):DA s (g+4) (Sg f n):=by
 obtain⟨M,m1,m2⟩:=DA.sum h
 refine⟨M,m1,?_⟩
 have h1:n*(2^g-1)≤16*(2^g-1):=aKY _ hn
 have h2:=aN8 g
 rw[aML]
 omega
def dG (h n:Nat) (X:Nat→Rat):Prop:=∃t:Int,t≠0∧t.natAbs<2^h∧∀i,i<n→DA t h (X i)
theorem dG.bits {h n:Nat} {X:Nat→Rat} (hX:dG h n X) {i:Nat} (hi:i<n):aK (X i)≤h:=by
 obtain⟨t,h1,h2,h3⟩:=hX
 exact(h3 i hi).bits h1 h2
theorem qF.row {g n m:Nat} {A:Nat→Nat→Rat} (h:qF g n m A) {i:Nat} (hi:i<n):dG g m (A i):=by
 obtain⟨s,h1,h2,h3⟩:=h
 exact⟨s,h1,h2,fun j hj=>h3 i j hi hj⟩
theorem dG.mix {g h n:Nat} {c X:Nat→Rat} (hc:dG g n c) (hX:dG h n X) (hn:n≤16):aK (Sg (fun j=>c j*X j) n)≤g+h+4:=by
 obtain⟨s,s1,s2,s3⟩:=hc
 obtain⟨t,t1,t2,t3⟩:=hX
 have h1:=DA.ahU (s:=s*t) (g:=g+h) hn fun j hj=>(s3 j hj).mul (t3 j hj)
 refine h1.bits (Int.mul_ne_zero s1 t1) ?_
 rw[aNb]
 have h2:s.natAbs*t.natAbs<2^g*2^h:=aN6 s2 t2
 rw[←aML] at h2
 exact Nat.lt_of_lt_of_le h2 (aMA (by decide) (by omega))
theorem dG.some {g n:Nat} {c:Nat→Rat} (hc:dG g n c) (p:Nat→Prop) [DecidablePred p]:dG g n fun j=>if p j then 0 else c j:=by
 obtain⟨s,s1,s2,s3⟩:=hc
 refine⟨s,s1,s2,fun j hj => ?_⟩
 by_cases h:p j
 ·simp only[h,if_true]
  exact DA.zero
 ·simp only[h,if_false]
  exact s3 j hj
structure XI (n k g:Nat) (A:Nat→Nat→Rat) (b X:Nat→Rat):Prop where
 f:BV n A
 u:Bh n k A
 s:eU n A b X
 z:qF g n n A
structure DgS (n k g:Nat) (A:Nat→Nat→Rat) (b X:Nat→Rat):Prop where
 f:BV n A
 u:ML n k A
 s:eU n A b X
 z:qF g n n A
section
variable {n k m g h:Nat} {A:Nat→Nat→Rat} {b X:Nat→Rat}
theorem XI.swp (H:XI n k g A b X) (hk:k≤m) (hm:m<n):XI n k g (swp k m A) (swp k m b) X :=
 ⟨OC (by omega) hm H.f,H.u.swp hk hm,(DX (by omega) hm).2 H.s,H.z.swp (by omega) hm⟩
theorem DgS.swp (H:DgS n k g A b X) (hk:k≤m) (hm:m<n):DgS n k g (swp k m A) (swp k m b) X :=
 ⟨OC (by omega) hm H.f,H.u.swp hk hm,(DX (by omega) hm).2 H.s,H.z.swp (by omega) hm⟩
def M9 (k:Nat) (A:Nat→Nat→Rat):Nat→Rat:=fun i=>if k<i then A i k / A k k else 0
def cDg (k:Nat) (A:Nat→Nat→Rat):Nat→Rat:=fun i=>if i=k then 0 else A i k / A k k
theorem XI.step (H:XI n k g A b X) (Tr:A k k≠0) (hk:k<n):XI n (k+1) (2*g+1) (G8 (M9 k A) k A) (TZ (M9 k A) k b) X:=by
 have hc:M9 k A k=0:=if_neg (Nat.lt_irrefl _)
 refine⟨OT hk hc H.f,H.u.step Tr hk,(DT hk hc).2 H.s,H.z.G8 hk hk Tr fun i _ => ?_⟩
 unfold M9
 by_cases h:k<i
 ·exact .inr (if_pos h)
 ·exact .inl (if_neg h)
theorem DgS.step (H:DgS n k g A b X) (Tr:A k k≠0) (hk:k<n):DgS n (k+1) (2*g+1) (G8 (cDg k A) k A) (TZ (cDg k A) k b) X:=by
 have hc:cDg k A k=0:=if_pos rfl
 refine⟨OT hk hc H.f,H.u.step Tr hk,(DT hk hc).2 H.s,H.z.G8 hk hk Tr fun i _ => ?_⟩
 unfold cDg
 by_cases h:i=k
 ·exact .inl (if_pos h)
 ·exact .inr (if_neg h)
theorem XI.right (H:XI n k g A b X) (hX:dG h n X) (hn:n≤16) {i:Nat} (hi:i<n):aK (b i)≤g+h+4:=by
 rw[←H.s i hi]
 exact(H.z.row hi).mix hX hn
theorem DgS.right (H:DgS n k g A b X) (hX:dG h n X) (hn:n≤16) {i:Nat} (hi:i<n):aK (b i)≤g+h+4:=by
 rw[←H.s i hi]
 exact(H.z.row hi).mix hX hn
theorem DgS.done (H:DgS n n g A b X) {i:Nat} (hi:i<n):X i=b i / A i i:=(H.f.uniq H.s (H.u.ahB b)) i hi
def bk (A:Nat→Nat→Rat) (b X:Nat→Rat) (k j:Nat):Rat:=b k-(Sg (fun m=>A k m*X m) j-Sg (fun m=>A k m*X m) (k+1))
theorem aiN:bk A b X k (k+1)=b k:=by unfold bk;grind
theorem asE {j:Nat}:bk A b X k (j+1)=bk A b X k j-A k j*X j:=by unfold bk;rw[Sg];grind
theorem avT {f:Nat→Rat} {a:Nat}:∀ {j n:Nat},a≤j→j≤n→Sg f n-(Sg f j-Sg f a)=Sg (fun m=>if a≤m∧m<j then 0 else f m) n:=by
 intro j n haj Eu
 induction n with
 |
  zero =>
  have h1:j=0:=by omega
  have h2:a=0:=by omega
  subst h1 h2
  simp only[Sg]
  grind
 |
  succ n ih =>
  by_cases hj:j=n+1
  ·subst hj
   have e:Sg (fun m=>if a≤m∧m<n+1 then 0 else f m) (n+1)=Sg f a:=by
    clear ih Eu
    have key:∀k,Sg (fun m=>if a≤m∧m<n+1 then 0 else f m) (min k a)=Sg f (min k a):=fun k=>gU fun i hi=>if_neg (by omega)
    have h1:=key (n+1)
    have h2:∀d,a+d≤n+1→Sg (fun m=>if a≤m∧m<n+1 then 0 else f m) (a+d)=Sg (fun m=>if a≤m∧m<n+1 then 0 else f m) a:=by
     intro d
     induction d with
     | zero=>intro _;rfl
     |
      succ d ih =>
      intro hd
      rw[←Nat.add_assoc,Sg,ih (by omega),if_pos ⟨by omega,by omega⟩]
      grind
    have h3:=h2 (n+1-a) (by omega)
    rw[show a+(n+1-a)=n+1 by omega] at h3
    rw[h3]
    have h4:=key a
    rwa [Nat.min_self] at h4
   rw[e]
   grind
  ·rw[Sg,Sg,←ih (by omega),if_neg (by omega)]
   grind
theorem XI.part (H:XI n n g A b X) (hX:dG h n X) (hn:n≤16) {j:Nat} (hk:k<n) (hj:k+1≤j) (Eu:j≤n):aK (bk A b X k j)≤g+h+4:=by
 have e:bk A b X k j=Sg (fun m=>(if k+1≤m∧m<j then 0 else A k m)*X m) n:=by
  unfold bk
  rw[←H.s k hk,avT hj Eu]
  refine gU fun m _ => ?_
  by_cases hm:k+1≤m∧m<j
  ·rw[if_pos hm,if_pos hm];grind
  ·rw[if_neg hm,if_neg hm]
 rw[e]
 exact((H.z.row hk).some fun m=>k+1≤m∧m<j).mix hX hn
theorem XI.back (H:XI n n g A b X) (hk:k<n):X k=bk A b X k n / A k k:=H.u.back H.s hk
end
def gk (g:Nat):Nat→Nat
 | 0=>g
 | k+1=>2*gk g k+1
theorem auV {g:Nat}:∀ {k n:Nat},k≤n→gk g k≤2^n*(g+1)
 |
  0,n,_=>by
  have:=Nat.one_le_two_pow (n:=n)
  have h:1*(g+1)≤2^n*(g+1):=aKY _ this
  show g≤_
  omega
 |
  k+1,n,hk=>by
  have key:∀k,gk g k+1=2^k*(g+1):=by
   intro k
   induction k with
   | zero=>simp[gk]
   | succ k ih=>rw[gk,aLY];grind
  have h1:=key (k+1)
  have h2:2^(k+1)*(g+1)≤2^n*(g+1):=aKY _ (aMA (by decide) hk)
  omega
end Go.PM
namespace Go.PM
theorem Tb.swap {f:Rat→VV} {lo hi N M b g:Nat} {F:Nat→Nat→Rat} {H:aA} (h:Tb f lo hi N M b g F H) {k m:Nat} (hk:k<N) (hm:m<N) :
  ∃u v,bF false 1 (.ptr b g k 0) H=some u∧bF false 1 (.ptr b g m 0) H=some v∧∀gB,gB≤lo→∃H1 H2,bL gB 1 (.ptr b g k 0) v H=some H1∧(∀c,bJ 1 (.ref b g 0 N c) (VI m) H1=some (.ptr b g m 0))∧bL gB 1 (.ptr b g m 0) u H1=some H2∧Qt lo hi H H1∧Qt lo hi H H2∧Tb f lo hi N M b g (swp k m F) H2:=by
 obtain⟨rs,hM,hx⟩:=h
 have hl:=congrArg aNH hx
 rw[aMe,B0] at hl
 have hkl:k<rs.length:=by omega
 have hml:m<rs.length:=by omega
 have hrk:rs[k]? = some rs[k]:=aKE hkl
 have Mh:rs[m]? = some rs[m]:=aKE hml
 have M3:∀i (hi:i<rs.length),rs[i].xs=vec M (F i):=fun i hi=>by
  have h1:(rs.map (·.xs))[i]? = some rs[i].xs:=by rw[aN2,aKE hi];rfl
  rw[hx,Ny (by omega)] at h1
  exact(Option.some.inj h1).symm
 have avK:((rs.set k rs[m]).set m rs[k]).Perm rs:=List.set_set_perm hkl hml
 refine⟨_,_,hM.cell hrk,hM.cell Mh,fun gB dR => ?_⟩
 have s1:=dQ (f:=tL) (e:=1) (x:=rs[m]) (j:=k) (lo:=gB) hM.out hkl (aKy dR hM.blo) rfl rfl
 have o1:=bQ (es:=(rs.set k rs[m]).map tL) (e:=1) (w:=true) (g:=g) hM.out
 have s2:=dQ (f:=tL) (e:=1) (x:=rs[k]) (j:=m) (lo:=gB) o1 (by rw[aMv];exact hml) (aKy dR hM.blo) rfl rfl
 have o2:=bQ (es:=((rs.set k rs[m]).set m rs[k]).map tL) (e:=1) (w:=true) (g:=g) o1
 have GX:=hM.blo
 have hb2:=hM.bhi
 refine⟨_,_,s1,fun c => ?_,s2,⟨by rw[aMv],fun b' g' x xF h=>aX (by omega) h⟩,⟨by rw[aMv,aMv],fun b' g' x xF h=>aX (by omega) (aX (by omega) h)⟩,(rs.set k rs[m]).set m rs[k],⟨o2,hM.blo,hM.bhi,?_,fun r hr => ?_⟩,?_⟩
 ·have:=bB (o:=0) (n:=N) (c:=c) (i:=m) (k := .i64) o1 hm
  rwa [aL5] at this
 ·exact(avK.map (·.b)).nodup_iff.2 hM.rows.nd
 ·obtain⟨k1,k2,k3,k4,k5⟩:=hM.rows.row r (avK.mem_iff.1 hr)
  exact⟨k1,k2,k3,k4,aX (Ne.symm k3) (aX (Ne.symm k3) k5)⟩
 ·have e:((rs.set k rs[m]).set m rs[k]).map (fun r:CF Rat=>r.xs)=((rs.map (fun r:CF Rat=>r.xs)).set k rs[m].xs).set m rs[k].xs:=by rw[aN5,aN5]
  rw[e,hx,M3 m hml,M3 k hkl,Si,Si]
  refine K7 fun a c _ _ => ?_
  unfold swp
  by_cases h1:a=m
  ·subst h1
   rw[if_pos rfl]
   by_cases h2:a=k
   ·subst h2;rw[if_pos rfl]
   ·rw[if_neg h2,if_pos rfl]
  ·rw[if_neg h1]
   by_cases h2:a=k
   ·rw[if_pos h2,if_pos h2]
   ·rw[if_neg h2,if_neg h2,if_neg h1]
def zK (bb:Nat→Rat) (i:Nat) (y:Rat) (j:Nat):Rat:=if j=i then y else bb j
def Rw (f:Rat→VV) (rb rg n:Nat) (bb:Nat→Rat) (H:aA):Prop:=aG H rb rg=some ((vec n bb).map f,3,true)
section
variable {f:Rat→VV} {rb rg n i:Nat} {bb:Nat→Rat} {H:aA}
theorem Rw.addr {c:Nat} (h:Rw f rb rg n bb H) (hi:i<n):bJ 3 (.ref rb rg 0 n c) (VI i) H=some (.ptr rb rg i 0):=by
 have:=bB (o:=0) (n:=n) (c:=c) (i:=i) (k := .i64) h hi
 rwa [aL5] at this
theorem Rw.get (h:Rw f rb rg n bb H) (hi:i<n) (ag:Bool):bF ag 3 (.ptr rb rg i 0) H=dO ag 3 (f (bb i)) 0:=qA (f:=f) h (vV hi)
theorem Rw.put {lo:Nat} (h:Rw f rb rg n bb H) (hi:i<n) (dR:lo≤rb) (hfs:∀x,(aB (f x)).length=3) (hfa:∀x,(aB (f x)).all bO=true) (y:Rat) :
  ∃H',bL lo 3 (.ptr rb rg i 0) (f y) H=some H'∧H'.length=H.length∧(∀b g x,b≠rb→aG H b g=some x→aG H' b g=some x)∧Rw f rb rg n (zK bb i y) H':=by
 have s:=dQ (lo:=lo) (f:=f) (x:=y) (j:=i) h (by rw[jM];exact hi) dR (hfs y) (hfa y)
 rw[NG] at s
 exact⟨_,s,by rw[aMv],fun b g x hb h=>aX (Ne.symm hb) h,bQ h⟩
theorem Rw.congr {Ie:Nat→Rat} (h:Rw f rb rg n bb H) (he:∀j,j<n→bb j=Ie j):Rw f rb rg n Ie H:=by
 unfold Rw at *
 rw[←uZ he]
 exact h
end
structure Sy (f:Rat→VV) (lo hi n b g rb rg:Nat) (A:Nat→Nat→Rat) (bb:Nat→Rat) (H:aA):Prop where
 t:Tb f lo hi n n b g A H
 r:Rw f rb rg n bb H
 d:rb<lo∨hi≤rb
def C1 (lo hi rb:Nat) (H H':aA):Prop:=H.length≤H'.length∧∀b g x,(b<lo∨hi≤b)→b≠rb→aG H b g=some x→aG H' b g=some x
theorem C1.refl {lo hi rb:Nat} {H:aA}:C1 lo hi rb H H:=⟨aKx _,fun _ _ _ _ _ h=>h⟩
theorem C1.trans {lo hi rb:Nat} {H H' WB:aA} (h:C1 lo hi rb H H') (h':C1 lo hi rb H' WB):C1 lo hi rb H WB:=⟨aKy h.1 h'.1,fun b g x h1 h2 h3=>h'.2 b g x h1 h2 (h.2 b g x h1 h2 h3)⟩
theorem C1.app {lo hi rb:Nat} {H L:aA}:C1 lo hi rb H (H++L):=⟨by simp,fun _ _ _ _ _ h=>eT h⟩
theorem Qt.aBq {lo hi rb:Nat} {H H':aA} (h:Qt lo hi H H'):C1 lo hi rb H H':=⟨aN4 h.1.symm,fun b g x h1 _ h3=>h.2 b g x h1 h3⟩
section
variable {f:Rat→VV} {lo hi n b g rb rg i j:Nat} {A:Nat→Nat→Rat} {bb:Nat→Rat} {H H':aA}
theorem Sy.app {L:aA} (h:Sy f lo hi n b g rb rg A bb H):Sy f lo hi n b g rb rg A bb (H++L):=⟨h.t.pre (aMr _ _),eT h.r,h.d⟩
theorem Sy.congr {A':Nat→Nat→Rat} {Ie:Nat→Rat} (h:Sy f lo hi n b g rb rg A bb H) (h1:∀a c,a<n→c<n→A a c=A' a c) (h2:∀a,a<n→bb a=Ie a):Sy f lo hi n b g rb rg A' Ie H:=⟨h.t.congr h1,h.r.congr h2,h.d⟩
theorem Sy.spot (h:Sy f lo hi n b g rb rg A bb H) (qI:i<n) (hj:j<n) (hfs:∀x,(aB (f x)).length=3) (hfa:∀x,(aB (f x)).all bO=true) :
  ∃p q,bF false 1 (.ptr b g i 0) H=some p∧bJ 3 p (VI j) H=some q∧(∀ag,bF ag 3 q H=dO ag 3 (f (A i j)) 0) ∧
  ∀gB y,gB≤lo→∃H',bL gB 3 q (f y) H=some H'∧C1 lo hi rb H H'∧Sy f lo hi n b g rb rg (PQ A i j y) bb H':=by
 obtain⟨rb1,rg1,rc1,c1,c2,c3,c4⟩:=h.t.spot qI hj hfs hfa
 refine⟨_,_,c1,c2,c3,fun gB y dR => ?_⟩
 obtain⟨H',d1,d2,d3,_⟩:=c4 gB y dR
 exact⟨H',d1,d2.aBq,d3,d2.2 _ _ _ h.d h.r,h.d⟩
theorem Sy.put {gB:Nat} (h:Sy f lo hi n b g rb rg A bb H) (qI:i<n) (dR:gB≤rb) (hfs:∀x,(aB (f x)).length=3) (hfa:∀x,(aB (f x)).all bO=true) (y:Rat) :
  ∃H',bL gB 3 (.ptr rb rg i 0) (f y) H=some H'∧C1 lo hi rb H H'∧Sy f lo hi n b g rb rg A (zK bb i y) H':=by
 obtain⟨H',h1,h2,h3,h4⟩:=h.r.put qI dR hfs hfa y
 have hd:=h.d
 exact⟨H',h1,⟨aN4 h2.symm,fun b g x _ hb hx=>h3 b g x hb hx⟩,h.t.dC fun b' g' x k1 k2 hx=>h3 b' g' x (by omega) hx,h4,h.d⟩
end
end Go.PM
namespace Go.PM
def Py (p:Nat×List P8):List (List Rat):=Ql p.1 p.1 (iW p.2)
structure QOk (p:Nat×List P8):Prop where
 n:p.1≤12
 l:p.2.length≤400
 t:∀t∈p.2,aK t.2.2≤1331∧0≤t.2.2
 s:∃i j q,(i,j,q)∈p.2∧i≠j∧0<q∧i<p.1∧j<p.1
theorem QOk.aHe {p:Nat×List P8} (h:QOk p):H6 (Py p)≠0:=by
 obtain⟨i,j,q,h1,h2,h3,h4,h5⟩:=h.s
 exact Xu (fun t ht=>(h.t t ht).2) h1 h2 h3 h4 h5
theorem QOk.rows {p:Nat×List P8} (h:QOk p):∀r∈Py p,r.length=p.1∧∀q∈r,aK q≤600000:=fun r hr=>by
 obtain⟨h1,h2⟩:=Xc (Q:=1331) (fun t ht=>(h.t t ht).1) r hr
 have h3:p.2.length*(1331+1)≤400*(1331+1):=aKY _ h.l
 exact⟨h1,fun q hq=>by have:=h2 q hq;omega⟩
theorem XV {p:Nat×List P8}:(Py p).length=p.1:=B0 ..
end Go.PM