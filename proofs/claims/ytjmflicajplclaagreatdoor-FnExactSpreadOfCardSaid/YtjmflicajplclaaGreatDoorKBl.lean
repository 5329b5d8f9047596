/- Texts of a claim, in one: part 12. -/
import Derived.KernelRfl
import Derived.Test.YtjmflicajplclaaGreatDoorKBk
open And renaming intro → aMh
open Int renaming le_refl → aNZ,natAbs_mul → aNf
open List renaming append_nil → aLJ,countP_eq_length → aN1,eq_nil_of_length_eq_zero → aKH,ext_getElem? → aN5,foldl_append → aNM,getD_eq_getElem?_getD → aKy,getElem?_eq_getElem → aKI,getElem?_eq_none → aK1,getElem?_map → aN6,getElem?_replicate → aN0,getElem_mem → aKO,length → aNL,length_append → aKM,length_cons → aKL,length_map → aMi,length_nil → aMe,length_replicate → aMq,length_set → aMz,map_append → aMY,map_id → aN2,map_map → aN4,map_set → aN9,mem_append → aLx,mem_cons_of_mem → aLa,mem_cons_self → aLb,mem_map → aMc,mem_of_getElem? → aLv,mem_range → aLc,mem_singleton → aLH,prefix_append → aMv,range → aKx,range_succ → aNW,replicate → aLr,replicate_succ → aLL,replicate_zero → aN3,set_cons_zero → aMf,take_add_one → aMr,take_append_of_le_length → aNc,take_length → aLO,take_of_length_le → aLu
open Nat renaming le_of_ble_eq_true → aMp,le_of_eq → aN8,le_refl → aKB,le_trans → aKC,mul_le_mul_right → aK2,mul_lt_mul'' → aOa,pow_add → aMP,pow_le_pow_right → aME,pow_succ → aL2,sub_self → aKU,two_pow_pos → aOc,zero_add → aL9,zero_le → aK5
open Option renaming getD_some → aNP
open Rat renaming intCast_mul → aOb,le_refl → aN7
set_option linter.unusedSimpArgs false
set_option linter.unusedVariables false
namespace Go.PM
def XY (st:List Int) (i:Nat):Bool:=decide (K9 st i<0)
def gtB (u e:Int):Bool:=decide (u<e)
section
variable {cO wK:Int} {cs:List lS} {st:List Int} {t:Int}
theorem oR.sorted (hc:oR cs):∀ {i j:Nat},i≤j→j<cs.length→Qk cs i≤Qk cs j:=by
 intro i j Qn hj
 induction j with
 |
  zero =>
  have:i=0:=by omega
  subst this
  exact aNZ _
 |
  succ j ih =>
  rcases Nat.lt_or_ge i (j+1) with h | h
  ·have h1:=ih (by omega) (by omega)
   have hx:cs[j+1]? = some cs[j+1]:=aKI hj
   have hy:cs[j]? = some cs[j]:=aKI (by omega)
   have h2:=(hc.1 (j+1) _ hx).2 _ (by omega) (by rw[Nat.add_sub_cancel];exact hy)
   rw[Y3 hx]
   rw[Y3 hy] at h1
   omega
  ·have:i=j+1:=by omega
   subst this
   exact aNZ _
theorem J3 {gA:Nat} (aBl:gA≤cs.length) (past:∀i,i<gA→Qk cs i≤t) (fut:∀i,gA≤i→i<cs.length→t<Qk cs i):wt cs st t=(aKx gA).filter (XY st):=by
 unfold wt
 rw[show cs.length=gA+(cs.length-gA) by omega,List.range_add,List.filter_append]
 have h1:(aKx gA).filter (isW cs st t)=(aKx gA).filter (XY st):=by
  refine List.filter_congr fun i hi => ?_
  rw[aLc] at hi
  simp[isW,XY,past i hi]
 have h2:((aKx (cs.length-gA)).map fun x=>gA+x).filter (isW cs st t)=[]:=by
  rw[List.filter_eq_nil_iff]
  intro i hi
  obtain⟨j,hj,rfl⟩:=aMc.1 hi
  rw[aLc] at hj
  have:=fut (gA+j) (by omega) (by omega)
  simp only[isW,Bool.and_eq_true,decide_eq_true_eq]
  omega
 rw[h1,h2,aLJ]
structure SM (cO wK:Int) (cs:List lS) (st:List Int) (t:Int) (gA:Nat) (ws:List Nat) (ends:List Int):Prop where
 len:st.length=cs.length
 low:∀i,i<cs.length → -1≤K9 st i
 high:∀i,i<cs.length→K9 st i≤t
 bd:∀i,i<cs.length→K9 st i+1000*(Ih st:Int)≤10000+1000*(cs.length:Int)
 tm : -1≤t
 RX:gA≤cs.length
 past:∀i,i<gA→Qk cs i≤t
 fut:∀i,gA≤i→i<cs.length→t<Qk cs i∧K9 st i<0
 wsq:ws=wt cs st t
 cnt:∀u,t≤u→ends.countP (gtB u)=bz cs st u
 ef:∀e∈ends,t<e
 eb:∀e∈ends,e+1000*(Ih st:Int)≤11000+1000*(cs.length:Int)
 fl:full cO wK cs st t
 room:ws.length+ends.length≤gA
 es:(ends.length:Int)≤wK
 run:runT cO wK cs (t+1) (100000-(t+1)).toNat st=stL cO wK cs
theorem JD {n i:Nat} (h:i<n):K9 (aLr n (-1)) i = -1:=akQ (by rw[aN0,if_pos h])
theorem SM.start (hc:oR cs) (hs:1≤wK):SM cO wK cs (aLr cs.length (-1)) (-1) 0 [] []:=by
 have hw:wt cs (aLr cs.length (-1)) (-1)=[]:=by
  rw[J3 (aK5 _) (fun i hi=>by omega) fun i _ hi=>by have:=hc.bnd hi;omega]
  rfl
 have hu:Ih (aLr cs.length (-1))=cs.length:=by simp[Ih,List.countP_replicate]
 refine⟨by simp,fun i hi=>by rw[JD hi];decide,fun i hi=>by rw[JD hi];decide,fun i hi=>by rw[JD hi,hu];omega,by decide,aK5 _,fun i hi=>by omega,fun i _ hi=>⟨by have:=hc.bnd hi;omega,by rw[JD hi];decide⟩,hw.symm,fun u _ => ?_,fun e he=>(by cases he),fun e he=>(by cases he),.inr (BC.2 hw),aKB _,by simp;omega,rfl⟩
 unfold bz
 rw[(List.countP_eq_zero (p:=inS cs (aLr cs.length (-1)) u)).2]
 ·rfl
 ·intro i hi
  rw[aLc] at hi
  simp only[inS,JD hi,Bool.and_eq_true,decide_eq_true_eq]
  omega
def T1 (w:Bool) (b e:Int):Int:=if b<0∨(w=true∧e<b) then e else b
theorem ayP {es:List Int} {b:Int} (h:0≤b):es.foldl (T1 false) b=b:=by
 induction es with
 | nil=>rfl
 |
  cons e es ih =>
  rw[List.foldl_cons]
  have:T1 false b e=b:=by
   unfold T1
   rw[if_neg (by simp;omega)]
  rw[this,ih]
theorem auD:∀ {es:List Int} {b:Int},(∀e∈es,0≤e)→(es.foldl (T1 true) b=b∨es.foldl (T1 true) b∈es)∧(∀e∈es,es.foldl (T1 true) b≤e)∧(0≤b→es.foldl (T1 true) b≤b)∧(es≠[]→0≤es.foldl (T1 true) b)
 | [],b,_=>⟨.inl rfl,fun e he=>(by cases he),fun _=>aNZ _,fun h=>absurd rfl h⟩
 |
  e::es,b,h=>by
  rw[List.foldl_cons]
  have h1:=h e aLb
  have h2:∀e'∈es,0≤e':=fun e' he=>h e' (aLa _ he)
  have hm:(T1 true b e=b∨T1 true b e=e)∧T1 true b e≤e∧(0≤b→T1 true b e≤b)∧0≤T1 true b e:=by
   unfold T1
   by_cases hc:b<0∨(true=true∧e<b)
   ·rw[if_pos hc]
    refine⟨.inr rfl,aNZ _,fun hb => ?_,h1⟩
    rcases hc with hc | hc<;>omega
   ·rw[if_neg hc]
    simp at hc
    exact⟨.inl rfl,hc.2,fun _=>aNZ _,hc.1⟩
  obtain⟨m1,m2,m3,m4⟩:=hm
  obtain⟨g1,g2,g3,g4⟩:=auD (es:=es) (b:=T1 true b e) h2
  have g3:=g3 m4
  refine⟨?_,?_,fun hb=>by have:=m3 hb;omega,fun _ => ?_⟩
  ·rcases g1 with g1 | g1
   ·rw[g1]
    rcases m1 with m1 | m1
    ·exact .inl m1
    ·rw[m1];exact .inr aLb
   ·exact .inr (aLa _ g1)
  ·intro e' he
   rcases List.mem_cons.1 he with rfl | he
   ·omega
   ·exact g2 e' he
  ·rcases g1 with g1 | g1
   ·rw[g1];exact m4
   ·exact h2 _ g1
def Tf (cs:List lS) (gA:Nat):Int:=if gA<cs.length then Qk cs gA else -1
def Ps (cs:List lS) (gA:Nat) (ws:List Nat) (ends:List Int):Int:=ends.foldl (T1 (decide (0<ws.length))) (Tf cs gA)
theorem SM.akK {gA:Nat} {ws:List Nat} {ends:List Int} (h:SM cO wK cs st t gA ws ends):ends.length=bz cs st t:=by
 rw[←h.cnt t (aNZ _),aN1.2]
 intro e he
 exact decide_eq_true (h.ef e he)
theorem SM.time {gA:Nat} {ws:List Nat} {ends:List Int} (h:SM cO wK cs st t gA ws ends) (hc:oR cs) (hs:1≤wK) (hg:gA<cs.length∨0<ws.length) :
  (t<Ps cs gA ws ends∧Ps cs gA ws ends+1000*(Ih st:Int)≤11000+1000*(cs.length:Int))∧(∀i,gA≤i→i<cs.length→Ps cs gA ws ends≤Qk cs i) ∧
   (gA<cs.length∧Qk cs gA=Ps cs gA ws ends∨0<ws.length∧Ps cs gA ws ends∈ends)∧runT cO wK cs (Ps cs gA ws ends) (100000-Ps cs gA ws ends).toNat st=stL cO wK cs:=by
 have htm:=h.tm
 have T0:=aaE (st:=st)
 have hlen:=h.len
 have he0:∀e∈ends,0≤e:=fun e he=>by have:=h.ef e he;omega
 have aEb:=hc.2
 by_cases hw:0<ws.length
 ·have hbz:wK≤(bz cs st t:Int):=by
   rcases h.fl with hf | hf
   ·exact hf
   ·rw[BC,←h.wsq] at hf
    rw[hf] at hw
    simp at hw
  have fW:ends≠[]:=by
   intro he
   have:=h.akK
   rw[he] at this
   simp at this
   omega
  obtain⟨g1,g2,g3,g4⟩:=auD (es:=ends) (b:=Tf cs gA) he0
  have afD:Ps cs gA ws ends=ends.foldl (T1 true) (Tf cs gA):=by unfold Ps;rw[decide_eq_true hw]
  rw[afD]
  generalize ends.foldl (T1 true) (Tf cs gA)=w at *
  have g4:=g4 fW
  have N5:(gA<cs.length∧Qk cs gA=w)∨w∈ends:=by
   rcases g1 with g1 | g1
   ·unfold Tf at g1
    split at g1
    ·rename_i mQ
     exact .inl ⟨mQ,g1.symm⟩
    ·omega
   ·exact .inr g1
  have htw:t<w∧w+1000*(Ih st:Int)≤11000+1000*(cs.length:Int):=by
   rcases N5 with⟨h1,h2⟩ | h1
   ·have:=h.fut gA (aKB _) h1
    have:=hc.bnd h1
    omega
   ·exact⟨h.ef _ h1,h.eb _ h1⟩
  refine⟨htw,fun i h1 h2 => ?_,N5.imp id fun h1=>⟨hw,h1⟩,?_⟩
  ·have h3:=hc.sorted h1 h2
   have h4:=hc.bnd (i:=gA) (by omega)
   have h5:Tf cs gA=Qk cs gA:=by unfold Tf;rw[if_pos (by omega)]
   have:=g3 (by rw[h5];omega)
   omega
  ·rw[←h.run]
   refine(aaV (by omega) (by omega) (by omega) fun u h1 h2 => .inl ?_).symm
   rw[←h.cnt u (by omega),(aN1 (p:=gtB u)).2 fun e he=>decide_eq_true (by have:=g2 e he;omega),h.akK]
   exact hbz
 ·have mQ:gA<cs.length:=by omega
  have h5:Tf cs gA=Qk cs gA:=by unfold Tf;rw[if_pos mQ]
  have h4:=hc.bnd mQ
  have hf:=(h.fut gA (aKB _) mQ).1
  have afD:Ps cs gA ws ends=Qk cs gA:=by unfold Ps;rw[decide_eq_false hw,ayP (by rw[h5];omega),h5]
  rw[afD]
  refine⟨⟨hf,by omega⟩,fun i h1 h2=>hc.sorted h1 h2,.inl ⟨mQ,rfl⟩,?_⟩
  rw[←h.run]
  refine(aaV (by omega) (by omega) (by omega) fun u h1 h2 => .inr ?_).symm
  rw[BC,J3 h.RX (fun i hi=>by have:=h.past i hi;omega) fun i h3 h4=>by have:=hc.sorted h3 h4;omega]
  have e1:=J3 (st:=st) h.RX h.past fun i h3 h4=>(h.fut i h3 h4).1
  rw[←e1,←h.wsq]
  exact aKH (by omega)
theorem SM.done {gA:Nat} {ws:List Nat} {ends:List Int} (h:SM cO wK cs st t gA ws ends) (aBl:¬gA<cs.length) (hw:¬0<ws.length):st=stL cO wK cs:=by
 rw[←h.run]
 refine(aeM _ _ fun u hu => .inr ?_).symm
 have mQ:=h.RX
 have e1:=J3 (st:=st) h.RX h.past fun i h3 h4=>(h.fut i h3 h4).1
 rw[BC,J3 h.RX (fun i hi=>by have:=h.past i hi;omega) fun i h3 h4=>by omega,←e1,←h.wsq]
 exact aKH (by omega)
structure Ph4 (cO wK:Int) (cs:List lS) (KS:List Int) (now:Int) (gA tot:Nat) (st:List Int) (ws:List Nat) (ends:List Int):Prop where
 way:Way cs st now
 wsq:ws=wt cs st now
 cnt:∀u,now≤u→ends.countP (gtB u)=bz cs st u
 ef:∀e∈ends,now<e
 eb:∀e∈ends,e+1000*(Ih st:Int)≤11000+1000*(cs.length:Int)
 fl:fill cO wK cs now cs.length st=fill cO wK cs now cs.length KS
 past:∀i,i<gA→Qk cs i≤now
 fut:∀i,gA≤i→i<cs.length→now<Qk cs i∧K9 st i<0
 tot:ws.length+ends.length=tot
 es:(ends.length:Int)≤wK
theorem EC:∀ {l:List Nat} {i k:Nat},l.Nodup→l[i]? = some k→l.eraseIdx i=l.filter (· != k)
 | [],_,_,_,h=>by cases h
 |
  x::l,0,k,hn,h=>by
  injection h with h
  subst h
  rw[List.nodup_cons] at hn
  rw[List.eraseIdx_cons_zero,List.filter_cons_of_neg (by simp),List.filter_eq_self.2]
  intro y hy
  have:y≠x:=fun he=>hn.1 (he▸hy)
  simpa using this
 |
  x::l,i+1,k,hn,h=>by
  rw[List.nodup_cons] at hn
  rw[List.getElem?_cons_succ] at h
  have hx:x≠k:=fun he=>hn.1 (he▸aLv h)
  rw[List.eraseIdx_cons_succ,List.filter_cons_of_pos (by simpa using hx),EC hn.2 h]
theorem Ph4.step {now:Int} {KS:List Int} {gA tot:Nat} {ws:List Nat} {ends:List Int} (h:Ph4 cO wK cs KS now gA tot st ws ends) (hc:oR cs) (hr:0≤cO∧cO≤3) (hb:(ends.length:Int)<wK) (fW:0<ws.length) :
  ∃k,ws[N8 cO cs ws]? = some k∧k<cs.length∧N8 cO cs ws<ws.length∧(0≤now∧now≤35000)∧Ph4 cO wK cs KS now gA tot (st.set k now) (ws.eraseIdx (N8 cO cs ws)) (ends++[now+wkC cs k]):=by
 have abX:ws≠[]:=fun he=>by rw[he] at fW;simp at fW
 obtain⟨g1,g2⟩:=alB (cs:=cs) abX hr
 obtain⟨k,hk⟩:∃k,ws[N8 cO cs ws]? = some k:=⟨_,aKI g1⟩
 have hnx:nxt cO cs st now=some k:=by
  unfold nxt
  rw[←h.wsq,←g2,hk]
 obtain⟨m1,m2,m3⟩:=Pj.1 (Sw hnx)
 have htm:=h.way.tm
 have hle:=(h.way.le hc).1
 have hbz:(bz cs st now:Int)=ends.length:=by
  rw[←h.cnt now (aNZ _),(aN1 (p:=gtB now)).2 fun e he=>decide_eq_true (h.ef e he)]
 have Tv:k<st.length:=by rw[h.way.len];exact m1
 have hus:=CZ (t:=now) Tv m2 htm.1
 have hwk:=(hc.bnd m1).2
 refine⟨k,hk,m1,g1,⟨htm.1,hle⟩,h.way.set m1 m2,?_,?_,?_,?_,?_,h.past,?_,?_,?_⟩
 ·rw[awX h.way.len m1 htm.1,←h.wsq]
  exact EC (by rw[h.wsq];exact aiN) hk
 ·intro u hu
  rw[List.countP_append,h.cnt u hu,azF m1 h.way.len m2 htm.1,List.countP_singleton]
  congr 1
  simp only[gtB,decide_eq_true_eq]
  by_cases hq:u<now+wkC cs k
  ·rw[if_pos hq,if_pos ⟨hu,hq⟩]
  ·rw[if_neg hq,if_neg fun h'=>hq h'.2]
 ·intro e he
  rcases aLx.1 he with he | he
  ·exact h.ef e he
  ·rw[aLH] at he
   omega
 ·intro e he
  rcases aLx.1 he with he | he
  ·have:=h.eb e he
   omega
  ·rw[aLH] at he
   omega
 ·rw[acP h.way.len htm.1 (by rw[hbz];exact hb) hnx,h.fl]
 ·intro i h1 h2
  have h3:=h.fut i h1 h2
  refine⟨h3.1,?_⟩
  rw[Ja Tv,if_neg (fun he=>by subst he;omega)]
  exact h3.2
 ·rw[List.length_eraseIdx_of_lt g1,aKM,aKL,aMe]
  have:=h.tot
  omega
 ·rw[aKM,aKL,aMe]
  omega
theorem Ph4.done {now:Int} {KS:List Int} {gA tot:Nat} {ws:List Nat} {ends:List Int} (h:Ph4 cO wK cs KS now gA tot st ws ends) (hc:oR cs) (mQ:gA≤cs.length) (ht:tot≤gA) (hf:wK≤(ends.length:Int)∨ws=[])
  (hr:runT cO wK cs now (100000-now).toNat KS=stL cO wK cs):SM cO wK cs st now gA ws ends:=by
 have htm:=h.way.tm
 have hle:=(h.way.le hc).1
 have hbz:(bz cs st now:Int)=ends.length:=by
  rw[←h.cnt now (aNZ _),(aN1 (p:=gtB now)).2 fun e he=>decide_eq_true (h.ef e he)]
 have avR:full cO wK cs st now:=by
  rcases hf with hf | hf
  ·exact .inl (by rw[hbz];exact hf)
  ·exact .inr (BC.2 (by rw[←h.wsq];exact hf))
 refine⟨h.way.len,h.way.low,h.way.high,h.way.bd,by omega,mQ,h.past,h.fut,h.wsq,h.cnt,h.ef,h.eb,avR,by rw[h.tot];exact ht,h.es,?_⟩
 have h1:=AR avR cs.length
 rw[h.fl] at h1
 rw[amL htm.1 (by omega),h1] at hr
 exact hr
end
end Go.PM
namespace Go.PM
theorem Hi (n:Nat) (h:n<4294967296):TC 207 [VK .u64 1,VK .u64 (n:Int)] (.eJ [VK .u64 0,VK .u64 (n:Int)]):=by
 refine TC.walk ⟨true,false⟩ J8 rfl (aMp rfl) rfl rfl ?_
 have a1:dK .and (.int .u64 1) (.int .u64 4294967295)=some (.int .u64 1):=S6 1 (by decide)
 have a2:dK .and (.int .u64 (n:Int)) (.int .u64 4294967295)=some (.int .u64 (n:Int)):=by rw[S6 n (by omega),Nat.mod_eq_of_lt h]
 have a0:dK .and (.int .u64 0) (.int .u64 4294967295)=some (.int .u64 0):=S6 0 (by decide)
 have s1:dK .shr (.int .u64 1) (.int .u64 32)=some (.int .u64 0):=qO 1 .u64
 have s0:dK .shr (.int .u64 0) (.int .u64 32)=some (.int .u64 0):=qO 0 .u64
 have s2:dK .shr (.int .u64 (n:Int)) (.int .u64 32)=some (.int .u64 0):=by rw[qO n .u64,Nat.div_eq_of_lt h];rfl
 have w0:IntKind.u64.wrap 0=0:=eZ 0 (by decide)
 have wn:IntKind.u64.wrap (n:Int)=n:=eZ n (by omega)
 simp only[EL,Cj,a0,a1,a2,s0,s1,s2,w0,wn,Int.one_mul,Int.zero_mul,Int.mul_zero,Int.add_zero,VX,Nat.reduceEqDiff,Nat.reduceAdd]
 exact aL rfl
theorem J9 (n:Nat) (h:n<4294967296):TC 187 [VK .u64 1,VK .u64 (n:Int)] (.eJ [VK .u64 0,VK .u64 (n:Int)]):=by
 refine TC.walk ⟨true,false⟩ M3 rfl (aMp rfl) rfl rfl ?_
 simp only[HH,EO,Hi n h,VX,Nat.reduceEqDiff,Nat.reduceAdd]
 exact aL rfl
end Go.PM
namespace Go.PM
section
variable {α:Type} {f:α→VV} {H:aA} {b g e lo:Nat} {X Y:List α}
theorem VP {o:Nat}:dF (X.map f) o (Y.map f)=(X.take o++Y++X.drop (o+Y.length)).map f:=by
 simp[dF]
theorem Q5 {o d cc:Nat} {y:VV} (h:aG H b g=some (X.map f,e,true)) (hy:cZ e y H=some (Y.map f)) (dS:lo≤b) (ho:o+(Y.take d).length≤X.length) :
  MU lo e (.ref b g o d cc) y H=some (VI (Y.take d).length,H.set b (.row g ((X.take o++Y.take d++X.drop (o+(Y.take d).length)).map f) e true)):=by
 simp only[MU,hy,h]
 rw[←List.map_take,VP,if_pos ⟨trivial,dS,by simpa using ho⟩,aMi]
end
end Go.PM
namespace Go.PM
def fU:aE:=(LS [LO 68 (.bin .lss (LT 67) (LT 66))] (.seq (.cond (LT 68) .skip (.exit 0)) (.seq (.block 1 (LS [LM 69 67,LO 70 (.iaddr 1 (LT 65) (LT 67)),LO 71 (LL 70),LM 10 69,LM 11 71] (LS [LM 73 11,LO 74 (.call 65 [(LT 73)]),LM 72 74,LO 75 (LX 72 0),LO 76 (LX 72 1),LM 12 75,LM 13 76] (.seq (LS [LM 77 13,LO 78 (.un .not (LT 77)),LM 79 78,LZ 79 80 (.mv (LT 12)),LZ 79 81 (.len (LT 80)),LZ 79 82 (.mv (LT 4)),LZ 79 83 (.bin .neq (LT 81) (LT 82)),LO 84 (.pick (LT 79) LG (LT 83)),LM 85 84,LZ 85 86 (.mv (LT 12)),LZ 85 87 (.call 66 [(LT 86),(.func 67)]),LO 88 (.pick (LT 85) LG (LT 87)),LM 89 88,LZ 89 90 (.mv (LT 12)),LZ 89 91 (.mv (LT 10)),LZ 89 92 (.iaddr 3 (LT 90) (LT 91)),LZ 89 93 (LK 92),LZ 89 94 (.call 68 [(LT 93)]),LZ 89 95 (.bin .neq (LT 94) (LI 0)),LO 96 (.pick (LT 89) LG (LT 95))] (.cond (LT 96) (LS [LO 97 (.build [(.slice none 0 0),(.slice none 0 0),(.slice none 0 0)] [(0,1),(1,1),(2,1)] []),LN (.store 3 (LT 2) (LT 97)),LO 3 (.mv LF)] .ret) .skip)) (.cU [LO 98 (LA 1 9),LO 99 (LL 98),LM 100 12,LO 101 (.lit [(.slice none 0 0)] 1 [(0,(LT 100))]),LO 102 (.app 1 24 (LT 99) (LT 101)),LO 103 (LA 1 9),LN (.store 1 (LT 103) (LT 102))]))))) (.cU [LO 104 (.bin .add (LT 67) (LI 1)),LM 67 104]))))
def eG:aE:=(LS [LO 1 (.box (LT 0)),LO 2 (.new [(.slice none 0 0),(.slice none 0 0),(.slice none 0 0)]),LO 3 (.mv LF)] (LS [LO 14 (LA 0 1),LO 15 (LL 14),LO 16 (.len (LT 15)),LM 4 16] (.seq (LS [LM 17 4,LO 18 (.bin .lss (LT 17) (LI 1)),LM 19 18,LZ 19 20 (.mv (LT 4)),LZ 19 21 (.bin .gtr (LT 20) (LI 6)),LO 22 (.pick (LT 19) LG (LT 21)),LM 23 22,LZ 23 24 (LA 1 1),LZ 23 25 (LL 24),LZ 23 26 (.len (LT 25)),LZ 23 27 (.mv (LT 4)),LZ 23 28 (.bin .neq (LT 26) (LT 27)),LO 29 (.pick (LT 23) LG (LT 28)),LM 30 29,LZ 30 31 (LA 2 1),LZ 30 32 (LL 31),LZ 30 33 (.len (LT 32)),LZ 30 34 (.mv (LT 4)),LZ 30 35 (.bin .neq (LT 33) (LT 34)),LO 36 (.pick (LT 30) LG (LT 35))] (.cond (LT 36) (LS [LO 37 (.build [(.slice none 0 0),(.slice none 0 0),(.slice none 0 0)] [(0,1),(1,1),(2,1)] []),LN (.store 3 (LT 2) (LT 37)),LO 3 (.mv LF)] .ret) .skip)) (LS [LO 39 (LA 0 1),LO 40 (LL 39),LO 41 (.call 98 [(LT 40)]),LM 38 41,LO 42 (LX 38 0),LO 43 (LX 38 1),LM 5 42,LM 6 43] (LS [LO 45 (LA 2 1),LO 46 (LL 45),LO 47 (.call 65 [(LT 46)]),LM 44 47,LO 48 (LX 44 0),LO 49 (LX 44 1),LM 7 48,LM 8 49] (.seq (LS [LM 50 6,LO 51 (.un .not (LT 50)),LM 52 51,LZ 52 53 (.mv (LT 8)),LZ 52 54 (.un .not (LT 53)),LO 55 (.pick (LT 52) LG (LT 54)),LM 56 55,LZ 56 57 (.mv (LT 7)),LZ 56 58 (.call 66 [(LT 57),(.func 67)]),LO 59 (.pick (LT 56) LG (LT 58))] (.cond (LT 59) (LS [LO 60 (.build [(.slice none 0 0),(.slice none 0 0),(.slice none 0 0)] [(0,1),(1,1),(2,1)] []),LN (.store 3 (LT 2) (LT 60)),LO 3 (.mv LF)] .ret) .skip)) (LS [LM 61 5,LM 62 7,LO 63 (.build [(.slice none 0 0),(.slice none 0 0),(.slice none 0 0)] [(0,1),(1,1),(2,1)] [(0,(LT 61)),(2,(LT 62))]),LO 9 (.new [(.slice none 0 0),(.slice none 0 0),(.slice none 0 0)]),LN (.store 3 (LT 9) (LT 63))] (.seq (LS [LO 64 (LA 1 1),LO 65 (LL 64),LO 66 (.len (LT 65)),LO 67 (.mv (LI 0))] (.block 0 (.loop fU))) (LS [LO 105 (LK 9),LO 106 (LA 1 9),LO 107 (LL 106),LM 108 7,LQ 109 (.call 195 [(LT 107),(LT 108)]),LQ 110 (.call 194 [(LT 109),LF]),LO 111 (.un .not (LT 110)),LN (.store 3 (LT 2) (LT 105)),LM 3 111] .ret)))))))))
def gD:aU:=⟨112,[(.cell 2 true 3),(.tmp 3)],eG⟩
theorem Lo:fT 176=some gD:=by kernel_rfl
def nF:aE:=(LS [LO 42 (.bin .lss (LT 41) (LT 40))] (.seq (.cond (LT 42) .skip (.exit 4)) (.seq (.block 5 (LS [LM 43 41,LO 44 (.iaddr 3 (LT 39) (LT 41)),LO 45 (LK 44),LO 8 (.new [(.bool false),(.slice none 0 0),(.slice none 0 0)]),LM 7 43,LN (.store 3 (LT 8) (LT 45))] (.cU [LM 46 5,LM 47 6,LM 48 5,LM 49 6,LO 50 (.iaddr 1 (LT 48) (LT 49)),LO 51 (LL 50),LM 52 51,LZ 52 53 (LK 8),LZ 52 54 (.call 68 [(LT 53)]),LZ 52 55 (.bin .gtr (LT 54) (LI 0)),LZ 52 56 (.mv (LT 55)),LY 56 57 (.mv (LT 5)),LY 56 58 (.mv (LT 7)),LY 56 59 (.iaddr 1 (LT 57) (LT 58)),LY 56 60 (LL 59),LZ 52 61 (.pick (LT 56) (LT 60) LF),LO 62 (.pick (LT 52) LG (LT 61)),LO 63 (.iaddr 1 (LT 46) (LT 47)),LN (.store 1 (LT 63) (LT 62))]))) (.cU [LO 64 (.bin .add (LT 41) (LI 1)),LM 41 64]))))
def pV:aE:=(LS [LO 19 (.bin .lss (LT 18) (LT 17))] (.seq (.cond (LT 19) .skip (.exit 2)) (.seq (.block 3 (LS [LM 20 18,LM 6 20] (LS [LM 21 5,LM 22 6,LM 23 5,LM 24 6,LO 25 (.iaddr 1 (LT 23) (LT 24)),LO 26 (LL 25),LM 27 26,LZ 27 28 (.mv (LT 1)),LZ 27 29 (.mv (LT 6)),LZ 27 30 (.iaddr 3 (LT 28) (LT 29)),LZ 27 31 (LK 30),LZ 27 32 (.call 68 [(LT 31)]),LZ 27 33 (.bin .gtr (LT 32) (LI 0)),LO 34 (.pick (LT 27) LG (LT 33)),LO 35 (.iaddr 1 (LT 21) (LT 22)),LN (.store 1 (LT 35) (LT 34))] (LS [LM 36 0,LM 37 6,LO 38 (.iaddr 1 (LT 36) (LT 37)),LO 39 (LL 38),LO 40 (.len (LT 39)),LO 41 (.mv (LI 0))] (.block 4 (.loop nF)))))) (.cU [LO 65 (.bin .add (LT 18) (LI 1)),LM 18 65]))))
def Cy:aE:=(LS [LO 15 (.bin .lss (LT 14) (LT 13))] (.seq (.cond (LT 15) .skip (.exit 0)) (.seq (.block 1 (LS [LM 16 1,LO 17 (.len (LT 16)),LO 18 (.mv (LI 0))] (.block 2 (.loop pV)))) (.cU [LO 66 (.bin .add (LT 14) (LI 1)),LM 14 66]))))
def Jd:aE:=(LS [LO 4 (.mv (.const (.slice none 0 0)))] (LS [LM 9 1,LO 10 (.len (LT 9)),LO 11 (.make [(.bool false)] 1 (LT 10) (LT 10)),LM 5 11] (.seq (LS [LM 12 1,LO 13 (.len (LT 12)),LO 14 (.mv (LI 0))] (.block 0 (.loop Cy))) (LS [LM 67 5,LM 4 67] .ret))))
def Ow:aU:=⟨68,[(.tmp 4)],Jd⟩
theorem TL:fT 195=some Ow:=by kernel_rfl
def EX:aE:=(LS [LO 1 (.box (LT 0)),LO 2 (.mv (.const (.string ⟨#[]⟩))),LO 3 (.mv LF)] (LS [LO 4 (LK 1),LO 5 (.call 116 [(LT 4),(.func 126)]),LO 6 (LX 5 0),LO 7 (LX 5 1),LM 2 6,LM 3 7] .ret))
def HJ:aU:=⟨8,[(.tmp 2),(.tmp 3)],EX⟩
theorem Nd:fT 52=some HJ:=by kernel_rfl
def oI:aE:=(LS [LO 2 (.box (LT 0)),LO 4 (.mv (.const (.string ⟨#[]⟩))),LO 5 (.mv LF)] (LS [LO 9 (LK 2),LO 10 (.call 176 [(LT 9)]),LM 8 10,LO 11 (LX 8 0),LO 12 (LX 8 1),LO 6 (.new [(.slice none 0 0),(.slice none 0 0),(.slice none 0 0)]),LN (.store 3 (LT 6) (LT 11)),LM 7 12] (.seq (LS [LM 13 7,LO 14 (.un .not (LT 13))] (.cond (LT 14) (LS [LO 4 (.mv (.const (.string ⟨#[]⟩))),LO 5 (.mv LF)] .ret) .skip)) (LS [LM 15 1,LO 16 (LK 6),LO 17 (.callv (LT 15) [(LT 16)]),LO 18 (.call 137 [(LT 17)]),LO 19 (LX 18 0),LO 20 (LX 18 1),LM 4 19,LM 5 20] .ret))))
def rE:aU:=⟨21,[(.tmp 4),(.tmp 5)],oI⟩
theorem K4:fT 116=some rE:=by kernel_rfl
def nI:aE:=(LS [LO 23 (.bin .lss (LT 22) (LT 21))] (.seq (.cond (LT 23) .skip (.exit 2)) (.seq (.block 3 (LS [LM 24 22,LM 9 24] (LS [LM 25 2] (.cond (LT 25) (.cU [LM 26 7,LM 27 9,LO 28 (.iaddr 1 (LT 26) (LT 27)),LO 29 (LL 28),LM 30 8,LO 31 (LA 1 3),LO 32 (LL 31),LM 33 8,LO 34 (.iaddr 1 (LT 32) (LT 33)),LO 35 (LL 34),LM 36 9,LO 37 (.iaddr 3 (LT 35) (LT 36)),LO 38 (LK 37),LQ 39 (.call 177 [(LT 38)]),LO 40 (.iaddr 3 (LT 29) (LT 30)),LN (.store 3 (LT 40) (LT 39))]) (.cU [LM 41 7,LM 42 8,LO 43 (.iaddr 1 (LT 41) (LT 42)),LO 44 (LL 43),LM 45 9,LO 46 (LA 1 3),LO 47 (LL 46),LM 48 8,LO 49 (.iaddr 1 (LT 47) (LT 48)),LO 50 (LL 49),LM 51 9,LO 52 (.iaddr 3 (LT 50) (LT 51)),LO 53 (LK 52),LQ 54 (.call 177 [(LT 53)]),LO 55 (.iaddr 3 (LT 44) (LT 45)),LN (.store 3 (LT 55) (LT 54))]))))) (.cU [LO 56 (.bin .add (LT 22) (LI 1)),LM 22 56]))))
def nH:aE:=(LS [LO 18 (.bin .lss (LT 17) (LT 16))] (.seq (.cond (LT 18) .skip (.exit 0)) (.seq (.block 1 (LS [LM 19 17,LM 8 19] (LS [LM 20 7,LO 21 (.len (LT 20)),LO 22 (.mv (LI 0))] (.block 2 (.loop nI))))) (.cU [LO 57 (.bin .add (LT 17) (LI 1)),LM 17 57]))))
def nG:aE:=(LS [LO 61 (.bin .lss (LT 60) (LT 59))] (.seq (.cond (LT 61) .skip (.exit 4)) (.seq (.block 5 (LS [LM 62 60,LM 10 62] (.cU [LM 63 7,LM 64 10,LO 65 (.iaddr 1 (LT 63) (LT 64)),LO 66 (LL 65),LM 67 10,LM 68 7,LM 69 10,LO 70 (.iaddr 1 (LT 68) (LT 69)),LO 71 (LL 70),LM 72 10,LO 73 (.iaddr 3 (LT 71) (LT 72)),LO 74 (LK 73),LO 75 (LK 3),LM 76 10,LQ 77 (.call 136 [(LT 75),(LT 76)]),LQ 78 (.call 69 [(LT 74),(LT 77)]),LO 79 (LK 4),LQ 80 (.call 69 [(LT 78),(LT 79)]),LO 81 (.iaddr 3 (LT 66) (LT 67)),LN (.store 3 (LT 81) (LT 80))]))) (.cU [LO 82 (.bin .add (LT 60) (LI 1)),LM 60 82]))))
def vD:aE:=(LS [LO 3 (.box (LT 0)),LO 4 (.box (LT 1)),LO 6 (.mv (.const (.slice none 0 0)))] (LS [LO 11 (LA 0 3),LO 12 (LL 11),LO 13 (.len (LT 12)),LO 14 (.call 99 [(LT 13)]),LM 7 14] (.seq (LS [LM 15 7,LO 16 (.len (LT 15)),LO 17 (.mv (LI 0))] (.block 0 (.loop nH))) (.seq (LS [LM 58 7,LO 59 (.len (LT 58)),LO 60 (.mv (LI 0))] (.block 4 (.loop nG))) (LS [LM 83 7,LM 6 83] .ret)))))
def xK:aU:=⟨84,[(.tmp 6)],vD⟩
theorem DE:fT 119=some xK:=by kernel_rfl
def oH:aE:=(LS [LO 13 (.bin .lss (LT 12) (LT 11))] (.seq (.cond (LT 13) .skip (.exit 0)) (.seq (.block 1 (LS [LM 14 12,LO 15 (.iaddr 3 (LT 10) (LT 12)),LO 16 (LK 15),LO 7 (.new [(.bool false),(.slice none 0 0),(.slice none 0 0)]),LM 6 14,LN (.store 3 (LT 7) (LT 16))] (.cU [LO 17 (LK 5),LO 18 (LK 7),LM 19 1,LM 20 6,LO 21 (.iaddr 3 (LT 19) (LT 20)),LO 22 (LK 21),LQ 23 (.call 132 [(LT 18),(LT 22)]),LQ 24 (.call 69 [(LT 17),(LT 23)]),LN (.store 3 (LT 5) (LT 24))]))) (.cU [LO 25 (.bin .add (LT 12) (LI 1)),LM 12 25]))))
def wS:aE:=(LS [LO 2 (.box (LT 0)),LO 4 (.new [(.bool false),(.slice none 0 0),(.slice none 0 0)])] (LS [LO 8 (.call 64 [(LI 0)]),LO 5 (.new [(.bool false),(.slice none 0 0),(.slice none 0 0)]),LN (.store 3 (LT 5) (LT 8))] (.seq (LS [LO 9 (LA 0 2),LO 10 (LL 9),LO 11 (.len (LT 10)),LO 12 (.mv (LI 0))] (.block 0 (.loop oH))) (LS [LO 26 (LK 5),LN (.store 3 (LT 4) (LT 26))] .ret))))
def Aa:aU:=⟨27,[(.cell 4 true 3)],wS⟩
theorem DS:fT 121=some Aa:=by kernel_rfl
def nE:aE:=(LS [LO 17 (.bin .lss (LT 16) (LT 15))] (.seq (.cond (LT 17) .skip (.exit 0)) (.seq (.block 1 (LS [LM 18 16,LM 7 18] (LS [LO 20 (LK 2),LQ 21 (.call 64 [(LI 0)]),LQ 22 (.call 119 [(LT 20),(LT 21),LF]),LM 23 5,LO 24 (.call 118 [(LT 22),(LT 23)]),LM 19 24,LO 25 (LX 19 0),LO 26 (LX 19 1),LM 5 25] (.cU [LO 27 (LK 6),LM 28 7,LO 29 (.bin .add (LT 28) (LI 1)),LQ 30 (.call 64 [(LT 29)]),LQ 31 (.call 132 [(LT 27),(LT 30)]),LN (.store 3 (LT 6) (LT 31))])))) (.cU [LO 32 (.bin .add (LT 16) (LI 1)),LM 16 32]))))
def vG:aE:=(LS [LO 2 (.box (LT 0)),LO 4 (.new [(.bool false),(.slice none 0 0),(.slice none 0 0)])] (LS [LQ 8 (.call 64 [(LI 1)]),LQ 9 (.lit [(.bool false),(.slice none 0 0),(.slice none 0 0)] 1 [(0,(LT 8))]),LO 10 (LA 0 2),LO 11 (LL 10),LO 12 (.len (LT 11)),LQ 13 (.call 162 [(LT 9),(LT 12)]),LM 5 13] (LS [LO 14 (.call 64 [(LI 1)]),LO 6 (.new [(.bool false),(.slice none 0 0),(.slice none 0 0)]),LN (.store 3 (LT 6) (LT 14))] (.seq (LS [LM 15 1,LO 16 (.mv (LI 0))] (.block 0 (.loop nE))) (LS [LO 33 (LK 2),LM 34 5,LQ 35 (.call 121 [(LT 33),(LT 34)]),LO 36 (LK 6),LQ 37 (.call 132 [(LT 35),(LT 36)]),LN (.store 3 (LT 4) (LT 37))] .ret)))))
def xN:aU:=⟨38,[(.cell 4 true 3)],vG⟩
theorem C2:fT 124=some xN:=by kernel_rfl
def B6:aE:=(LS [LO 1 (.box (LT 0)),LO 2 (.new [(.bool false),(.slice none 0 0),(.slice none 0 0)])] (LS [LO 4 (LK 1),LO 5 (.call 124 [(LT 4),(LI 1)]),LO 6 (.call 127 [(LT 5),(LI 2)]),LO 3 (.new [(.bool false),(.slice none 0 0),(.slice none 0 0)]),LN (.store 3 (LT 3) (LT 6))] (LS [LO 7 (LK 1),LQ 8 (.call 124 [(LT 7),(LI 2)]),LO 9 (LK 3),LQ 10 (.call 128 [(LT 8),(LT 9)]),LO 11 (LK 3),LQ 12 (.call 129 [(LT 10),(LT 11)]),LN (.store 3 (LT 2) (LT 12))] .ret)))
def ED:aU:=⟨13,[(.cell 2 true 3)],B6⟩
theorem JX:fT 126=some ED:=by kernel_rfl
def zS:aE:=(LS [LO 2 (.box (LT 0)),LO 4 (.new [(.bool false),(.slice none 0 0),(.slice none 0 0)])] (LS [LO 5 (LA 1 2),LO 6 (LL 5),LM 7 1,LO 8 (.iaddr 1 (LT 6) (LT 7)),LO 9 (LL 8),LQ 10 (.call 70 [(LT 9)]),LO 11 (LA 2 2),LO 12 (LL 11),LM 13 1,LO 14 (.iaddr 3 (LT 12) (LT 13)),LO 15 (LK 14),LQ 16 (.call 69 [(LT 10),(LT 15)]),LN (.store 3 (LT 4) (LT 16))] .ret))
def BS:aU:=⟨17,[(.cell 4 true 3)],zS⟩
theorem FO:fT 136=some BS:=by kernel_rfl
end Go.PM
namespace Go.PM
open Go.Lib
def JT {α:Type} (f:α→VV) (e:Nat) (cH:List α) (lo hi:Nat) (H:aA) (v:VV):Prop :=
 ∃b g c,lo≤b∧b<hi∧v = .ref b g 0 cH.length c∧cH.length≤c∧aG H b g=some (cH.map f,e,true)
def TabIs {α:Type} (f:α→VV) (e:Nat) (m:List (List α)) (lo hi:Nat) (H:aA) (v:VV):Prop :=
 ∃b g c rs,v = .ref b g 0 m.length c∧m.length≤c∧MG f e lo hi b g H rs∧rs.map (·.xs)=m
theorem Fq {α:Type} {f:α→VV} {lo b k e bytes:Nat} {H:aA} {xs:List α} {x:α} (h:aG H b k=some (xs.map f,e,true)) (hk:k=xs.length) (dS:lo≤b) (he:1≤e) (hb:1≤bytes) (Fa:(k+1)*bytes≤140737488355328) :
 dR lo e bytes (.ref b k 0 k k) [f x] H=some (.ref b (k+1) 0 (k+1) (k+1),H.set b (.row (k+1) ((xs++[x]).map f) e true)):=jT h hk dS he hb Fa
theorem JT.rd {α:Type} {f:α→VV} {e lo hi:Nat} {cH:List α} {H:aA} {v:VV} (h:JT f e cH lo hi H v):Rd f e cH H v:=by
 obtain⟨b,g,c,h1,h2,rfl,h3,h4⟩:=h
 exact Rd.row h4 rfl
theorem Aq {lo:Nat} {H:aA} (q:Rat) (N:Nat) (hN:N≤1000000) (dS:lo≤H.length) :
  jH 162 [.tree [aF q] (.cl 3),VI N] lo H fun r H'=>r = .ref H.length 0 0 N N∧H'=H++[.row 0 ((aLr N q).map aF) 3 true]:=by
 refine jH.walk ⟨true,false⟩ tF (aMp rfl) ?_
 have eM:=J9 N (by omega)
 have c1:IntKind.u64.wrap ((1:Nat):Int)=1:=eZ 1 (by decide)
 have c2:IntKind.u64.wrap (N:Int)=(N:Int):=eZ N (by omega)
 have c3:IntKind.i64.wrap (N:Int)=(N:Int):=wrap64 (by omega) (by omega)
 have g1:¬(N:Int)<0:=by omega
 have g2:¬(0:Int)<0:=by decide
 have g3:¬(9223372036854775807:Int)<(N:Int):=by omega
 have em:=fun H=>nY (H:=H) (f:=id) (x:=rz) (z:=[.bool false,.slice none 0 0,.slice none 0 0]) (bytes:=56) (n:=N) rfl (by omega) (by omega)
 have s1:cZ 3 (.tree [aF q] (.cl 3)) (H++[.row 0 ((aLr N rz).map id) 3 true])=some ([aF q].map id):=eV (v:=aF q) rfl rfl
 have r1:aG (H++[.row 0 ((aLr N rz).map id) 3 true]) H.length 0=some ((aLr N rz).map id,3,true):=by rw[Cd,aT]
 have s2:=Q5 (f:=id) (Y:=[aF q]) (lo:=lo) (o:=0) (d:=N) (cc:=N) (y := .tree [aF q] (.cl 3)) r1 s1 dS (by simp;omega)
 rw[SC] at s2
 simp only[lY,kS,eM,c1,c2,c3,g1,g2,g3,em,s2,dT,VX,Nat.reduceEqDiff,Nat.reduceAdd,Nat.reduceLeDiff,Nat.reduceLT,Nat.reduceSub]
 refine aP (fun(i:Nat) ρ H1=>i≤N∧(i=0→N=0)∧H1=H++[.row 0 ((aLr i (aF q)++aLr (N-i) rz).map id) 3 true]∧ρ 7 = .ref H.length 0 0 N N∧ρ 8=VI i) (fun i=>N-i) (min 1 N) ?_ ?_
 refine⟨by omega,by omega,?_,rfl,?_⟩
 ·congr 2
  cases N with
  | zero=>rfl
  |
   succ N =>
   have:min 1 (N+1)=1:=by omega
   rw[this]
   simp[aLL]
 ·cases N with
  | zero=>rfl
  |
   succ N =>
   have:min 1 (N+1)=1:=by omega
   simp only[this,dT,VX,Nat.reduceEqDiff,Nat.reduceAdd,Nat.reduceLeDiff,Nat.reduceLT,Nat.reduceSub]
   try simp
 rintro i ρ H1 ⟨hi,h0,rfl,h7,h8⟩
 have hr:aG (H++[.row 0 ((aLr i (aF q)++aLr (N-i) rz).map id) 3 true]) H.length 0=some ((aLr i (aF q)++aLr (N-i) rz).map id,3,true):=by rw[Cd,aT]
 have el:=eK (o:=0) (n:=N) (c:=N) hr
 by_cases bZ:(i:Int)<(N:Int)
 ·have hXl:(aLr i (aF q)++aLr (N-i) rz).length=N:=by simp;omega
  have ET:∀X:List VV,X=aLr i (aF q)++aLr (N-i) rz→(((X.map id).drop 0).take i).all (fun x=>(aB x).all bN)=true:=by
   rintro X rfl
   rw[aN2,List.drop_zero,aNc (by simp),aLu (by simp),List.all_eq_true]
   intro x hx
   rw[List.eq_of_mem_replicate hx]
   rfl
  have q1:=QN (o:=0) (n:=N) (c:=N) (l:=i) (k1 := .i64) hr hi (aKB _)
  have q2:=rJ (o:=0) (n:=N) (c:=N) (h:=i) (k2 := .i64) hr hi
  have hY:((aLr i (aF q)++aLr (N-i) rz).drop 0).take i=aLr i (aF q):=by
   rw[List.drop_zero,aNc (by simp),aLu (by simp)]
  have q3:cZ 3 (.ref H.length 0 0 i N) (H++[.row 0 ((aLr i (aF q)++aLr (N-i) rz).map id) 3 true])=some ((aLr i (aF q)).map id):=by
   have hs:=ET _ rfl
   simp only[cZ,hr]
   rw[if_pos ⟨trivial,by rw[aMi,hXl];omega,hs⟩,aN2,aN2,hY]
  have hYd:(aLr i (aF q)).take (N-i)=aLr (min (N-i) i) (aF q):=List.take_replicate
  have q4:=Q5 (f:=id) (lo:=lo) (o:=i) (d:=N-i) (cc:=N-i) hr q3 dS (by rw[hYd,hXl];simp;omega)
  rw[SC,hYd,aMq,aNc (by simp),aLu (by simp)] at q4
  have hX':aLr i (aF q)++aLr (min (N-i) i) (aF q)++(aLr i (aF q)++aLr (N-i) rz).drop (i+min (N-i) i)=aLr (i+min (N-i) i) (aF q)++aLr (N-(i+min (N-i) i)) rz:=by
   rw[List.replicate_append_replicate,List.drop_append,List.drop_of_length_le (by simp),List.nil_append,aMq,List.drop_replicate]
   congr 2
   omega
  rw[hX'] at q4
  have wi:IntKind.i64.wrap ((i:Int)+((min (N-i) i:Nat):Int))=((i+min (N-i) i:Nat):Int):=wrapN _ (by omega) (by omega)
  simp only[fL,h7,h8,el,bZ,q1,q2,q3,q4,wi,dT,VX,Nat.reduceEqDiff,Nat.reduceAdd,Nat.reduceLeDiff,Nat.reduceLT,Nat.reduceSub]
  exact⟨i+min (N-i) i,by omega,by omega,by omega,by (repeat' apply aMh)<;>first | rfl | trivial | assumption⟩
 ·have mC:i=N:=by omega
  subst mC
  simp only[fL,h7,h8,el,bZ,dT,VX,Nat.reduceEqDiff,Nat.reduceAdd,Nat.reduceLeDiff,Nat.reduceLT,Nat.reduceSub]
  rw[aKU,aN3,aLJ,aN2,List.map_replicate]
theorem Yd (a n:Nat):((aKx n).map fun k=>a+k).Nodup:=List.pairwise_map.2 (List.nodup_range.imp fun h=>by omega)
theorem Sq {lo:Nat} {H:aA} (N:Nat) (hN:N≤1000) (dS:lo≤H.length) :
  jH 99 [VI N] lo H (Q3 (TabIs aF 3 (aLr N (aLr N (0:Rat)))) H):=by
 refine jH.walk ⟨true,false⟩ TF (aMp rfl) ?_
 have em:=fun H=>nY (H:=H) (f:=id) (x := .tree [] .nil) (z:=[.slice none 0 0]) (bytes:=24) (n:=N) rfl (by omega) (by omega)
 have el0:=eK (H:=H++[.row 0 ((aLr N (VV.tree [] .nil)).map id) 1 true]) (b:=H.length) (g:=0) (o:=0) (n:=N) (c:=N) jD
 simp only[OH,JV,em,el0,aKL,aMe,aL9,dT,VX,Nat.reduceEqDiff,Nat.reduceAdd,Nat.reduceLeDiff,Nat.reduceLT,Nat.reduceSub]
 refine aP (fun(i:Nat) ρ H1=>i≤N∧H1=H ++ .row 0 (((aKx i).map fun k=>VV.ref (H.length+1+k) 0 0 N N)++aLr (N-i) (VV.tree [] TK.nil)) 1 true::aLr i (.row 0 ((aLr N (0:Rat)).map aF) 3 true)∧ρ 0=VI N∧ρ 3 = .ref H.length 0 0 N N∧ρ 8=VI N∧ρ 9=VI i) (fun i=>N-i) 0 ⟨aK5 _,by simp,rfl,rfl,rfl,rfl⟩ ?_
 rintro i ρ H1 ⟨hi,rfl,g0,g3,g8,g9⟩
 have e1:TC 64 [VI 0] (aF 0):=kY 0 (by decide) (by decide)
 have eL:∀H,mW false [.bool false,.slice none 0 0,.slice none 0 0] 1 [(0,aF 0)] H=some (.tree [aF 0] (.cl 3),H):=fun H=>iY rfl rfl rfl
 by_cases bZ:(i:Int)<(N:Int)
 ·have wi:IntKind.i64.wrap ((i:Int)+1)=((i+1:Nat):Int):=wrapN (i+1) (by omega) (by omega)
  simp only[Cx,g0,g3,g8,g9,bZ,e1,eL,dT,VX,Nat.reduceEqDiff,Nat.reduceAdd,Nat.reduceLeDiff,Nat.reduceLT,Nat.reduceSub]
  refine gC rfl ((Aq 0 N (by omega) (by rw[aKM];omega)).mono ?_)
  rintro r H' ⟨rfl,rfl⟩
  have hl:(H++fC.row 0 (((aKx i).map fun k=>VV.ref (H.length+1+k) 0 0 N N)++aLr (N-i) (VV.tree [] TK.nil)) 1 true::aLr i (.row 0 ((aLr N (0:Rat)).map aF) 3 true)).length=H.length+1+i:=by simp;omega
  rw[hl,List.append_assoc,List.cons_append]
  have hr:aG (H++fC.row 0 (((aKx i).map fun k=>VV.ref (H.length+1+k) 0 0 N N)++aLr (N-i) (VV.tree [] TK.nil)) 1 true::(aLr i (.row 0 ((aLr N (0:Rat)).map aF) 3 true)++[.row 0 ((aLr N (0:Rat)).map aF) 3 true])) H.length 0=some ((((aKx i).map fun k=>VV.ref (H.length+1+k) 0 0 N N)++aLr (N-i) (VV.tree [] TK.nil)),1,true):=by rw[Cd,aT]
  have a1:=bB (o:=0) (n:=N) (c:=N) (i:=i) (k := .i64) hr (by omega)
  have a2:=bS (lo:=lo) (v := .ref (H.length+1+i) 0 0 N N) (j:=i) hr (by simp;omega) dS rfl rfl
  rw[SC,aMf] at a2
  have hs:(((aKx i).map fun k=>VV.ref (H.length+1+k) 0 0 N N)++aLr (N-i) (VV.tree [] TK.nil)).set i (.ref (H.length+1+i) 0 0 N N)=((aKx (i+1)).map fun k=>VV.ref (H.length+1+k) 0 0 N N)++aLr (N-(i+1)) (VV.tree [] TK.nil):=by
   obtain⟨m,hm⟩:∃m,N-i=m+1:=⟨N-i-1,by omega⟩
   have hm':N-(i+1)=m:=by omega
   rw[List.set_append_right _ _ (by simp),hm,hm',aMi,List.length_range,aKU,aLL,aMf,aNW,aMY,List.append_assoc]
   rfl
  rw[hs] at a2
  rw[aL9] at a1
  simp only[a1,a2,wi,g9,dT,VX,Nat.reduceEqDiff,Nat.reduceAdd,Nat.reduceLeDiff,Nat.reduceLT,Nat.reduceSub]
  exact⟨i+1,by omega,by omega,by rw[List.replicate_succ'],by (repeat' apply aMh)<;>first | rfl | trivial | assumption⟩
 ·have mC:i=N:=by omega
  subst mC
  simp only[Cx,g3,g8,g9,bZ,dT,VX,Nat.reduceEqDiff,Nat.reduceAdd,Nat.reduceLeDiff,Nat.reduceLT,Nat.reduceSub]
  refine⟨aMv _ _,H.length,0,i,(aKx i).map fun k=>⟨H.length+1+k,0,i,aLr i 0⟩,by rw[aMq],by rw[aMq];exact aKB _,⟨?_,aKB _,by simp,?_,?_⟩,?_⟩
  ·rw[Cd,aT,aKU,aN3,aLJ,aN4]
   simp[tR,Function.comp_def]
  ·rw[aN4]
   exact Yd (H.length+1) i
  ·intro r hr
   obtain⟨k,hk,rfl⟩:=aMc.1 hr
   rw[aLc] at hk
   refine⟨by simp only;omega,by simp;omega,by simp only;omega,by simp,?_⟩
   have:H.length+1+k=H.length+(k+1):=by omega
   simp only[this]
   rw[NO,dZ,cB,aN0,if_pos hk]
  ·rw[aN4]
   apply aN5
   intro k
   rw[aN6,aN0]
   by_cases hk:k<i
   ·simp[hk,List.getElem?_range]
   ·simp[hk]
end Go.PM
namespace Go.PM
def O9 (s:vJ) (left:Int):Int:=if HV s.b left<0 then -1 else if FJ s.g (HV s.b left)<0 then -1 else if HV s.e (FJ s.g (HV s.b left))<0 then -1 else HV s.e (FJ s.g (HV s.b left))
theorem arE {s:vJ} {l:Int} (h:0≤O9 s l):O9 s l≤l∧(s.b.length:Int)≤l∧(s.g.length:Int)≤l∧(∀x∈s.g,(x.length:Int)≤l)∧(s.e.length:Int)≤l:=by
 unfold O9 at h ⊢
 split at h
 ·omega
 rename_i h0
 split at h
 ·omega
 rename_i h1
 split at h
 ·omega
 rename_i h2
 rw[if_neg h0,if_neg h1,if_neg h2]
 have b0:=Iz (xs:=s.b) (l:=l) (by omega)
 have b1:=TV (xs:=s.g) (l:=HV s.b l) (by omega)
 have b2:=Iz (xs:=s.e) (l:=FJ s.g (HV s.b l)) (by omega)
 exact⟨by omega,b0.2.1,by omega,fun x hx=>by have:=(b1.2.2 x hx).1;omega,by omega⟩
theorem Zc {lo:Nat} {s:vJ} {bare:Bool} {H:aA} {K:VV→aA→Prop} (hb:s.b.length≤1000000000) (hg:s.g.length≤1000000000∧∀x∈s.g,x.length≤1000000000) (he:s.e.length≤1000000000)
  (hk:∀c H',H <+: H'→vK H.length H' bare s c→K c H'):dI 46 [vW s,.sc (.bool bare)] lo H K:=by
 refine(LH s bare hb hg he).call rfl (mapM_pure (n:=7) (by simp only[aO,rS,Bool.true_and];rfl)) ?_
 intro r L h
 exact hk r _ (aMv _ _) (h.dB fun b g x hb h=>LU (Nat.le_of_lt hb) h)
theorem aD8 {n lo:Nat} {s:vJ} {bare:Bool} {H:aA} {c:VV} (hc:vK n H bare s c) (dS:lo≤H.length):bL lo 3 (.ptr H.length 0 0 0) c (H++[.row 0 [.agg [.tree [] .nil,.tree [] .nil,.tree [] .nil]] 3 true])=some (H++[.row 0 [c] 3 true]):=by
 obtain⟨c0,c1,c2,rfl,h0,h1,h2⟩:=hc
 rw[bS (e:=3) (g:=0) (lo:=lo) (v := .agg [c0,c1,c2]) (j:=0) jD (by decide) dS rfl (by simp[aB,h0.cell.2.1,h1.cell.2,h2.cell.2.1]),Ou]
 rfl
theorem ld3 {n b:Nat} {s:vJ} {bare:Bool} {H H':aA} {c:VV} (hc:vK n H bare s c) (h:aG H' b 0=some ([c],3,true)):bH true 3 (.ptr b 0 0 0) H'=some c:=by
 obtain⟨c0,c1,c2,rfl,_⟩:=hc
 rw[bJ,h]
 rfl
theorem pL {s:vJ}:dP true 3 (vW s) 0=some (vW s):=rfl
theorem lA {s:vJ}:(aB (vW s)).all bN=true:=rfl
structure TN (s:vJ):Prop where
 b4:s.b.length≤400000000
 e4:s.e.length≤400000000
 g4:s.g.length≤400000000∧∀x∈s.g,x.length≤400000000
 bs:∀x∈s.b,x.size≤1000000000
 es:∀x∈s.e,x.size≤1000000000
 gs:∀x∈s.g,∀y∈x,y.size≤1000000000
theorem TN.g9 {s:vJ} (h:TN s):s.g.length≤1000000000∧∀x∈s.g,x.length≤1000000000:=⟨by have:=h.g4.1;omega,fun x hx=>by have:=h.g4.2 x hx;omega⟩
theorem asC {s:vJ} {l:Int} (h:O9 s l<0):O9 s l = -1:=by
 unfold O9 at h ⊢
 split
 ·rfl
 rename_i h0
 rw[if_neg h0] at h
 split
 ·rfl
 rename_i h1
 rw[if_neg h1] at h
 split
 ·rfl
 rename_i h2
 rw[if_neg h2] at h
 omega
theorem atK {s:vJ} {l:Int} (h:0≤O9 s l) (hl:l≤1000000):O9 s l≤l∧TN s:=by
 have hle:=arE h
 unfold O9 at h
 split at h
 ·omega
 rename_i h0
 split at h
 ·omega
 rename_i h1
 split at h
 ·omega
 rename_i h2
 have b0:=Iz (xs:=s.b) (l:=l) (by omega)
 have b1:=TV (xs:=s.g) (l:=HV s.b l) (by omega)
 have b2:=Iz (xs:=s.e) (l:=FJ s.g (HV s.b l)) (by omega)
 exact⟨hle.1,by omega,by omega,⟨by omega,fun x hx=>by have:=(b1.2.2 x hx).1;omega⟩,fun x hx=>by have:=b0.2.2 x hx;omega,fun x hx=>by have:=b2.2.2 x hx;omega,fun x hx y hy=>by have:=(b1.2.2 x hx).2 y hy;omega⟩
end Go.PM
namespace Go.PM
def Iy {β:Type} (xs:List (List β)):Nat:=(xs.map aNL).sum
section
variable {β:Type}
end
def svN (s:vJ):Nat:=s.b.length+Iy s.g+s.e.length
theorem Xe.cell {α:Type} {f:α→VV} {e lo hi:Nat} {H:aA} {v:VV} {cH:List α} (h:Xe f e cH lo hi H v):bN v=true:=by
 rcases h with⟨rfl,rfl⟩ | ⟨b,g,c,h1,h2,rfl,h3⟩<;>rfl
theorem RG.cell {α:Type} {f:α→VV} {e lo hi:Nat} {H:aA} {v:VV} {cH:List (List α)} (h:RG f e cH lo hi H v):bN v=true:=by
 rcases h with⟨rfl,rfl⟩ | ⟨b,g,c,rs,h1,h2,rfl,h3⟩<;>rfl
end Go.PM
namespace Go.PM
open Go.Lib
section
variable {α:Type} {f:α→VV} {e:Nat}
def UX (f:α→VV) (e:Nat) (cH:List (List α)) (lo hi:Nat) (H:aA) (v:VV):Prop :=
 (v = .tree [] .nil∧cH=[])∨∃b g rs,lo≤b∧b<hi∧v = .ref b g 0 cH.length cH.length∧aG H b g=some (rs.map tR,1,true)∧rs.map (·.xs)=cH∧Zj f e lo hi b H rs
theorem UX.rg {cH:List (List α)} {lo hi:Nat} {H:aA} {v:VV} (h:UX f e cH lo hi H v):RG f e cH lo hi H v:=by
 rcases h with h | ⟨b,g,rs,h1,h2,h3,h5,h6,h7⟩
 ·exact .inl h
 ·exact .inr ⟨b,g,_,rs,h1,h2,h3,aKB _,h5,h6,h7⟩
theorem UX.dB {cH:List (List α)} {lo hi:Nat} {H H':aA} {v:VV} (h:UX f e cH lo hi H v) (hk:jY lo hi H H'):UX f e cH lo hi H' v:=by
 rcases h with h | ⟨b,g,rs,h1,h2,h3,h5,h6,h7⟩
 ·exact .inl h
 ·exact .inr ⟨b,g,rs,h1,h2,h3,hk _ _ _ h1 h2 h5,h6,h7.nd,fun r hr=>by
   obtain⟨k1,k2,k3,k4,k5⟩:=h7.row r hr
   exact⟨k1,k2,k3,k4,hk _ _ _ k1 k2 k5⟩⟩
theorem UX.wide {cH:List (List α)} {lo hi gF qL:Nat} {H:aA} {v:VV} (h:UX f e cH lo hi H v) (hl:gF≤lo) (hh:hi≤qL):UX f e cH gF qL H v:=by
 rcases h with h | ⟨b,g,rs,h1,h2,h3,h5,h6,h7⟩
 ·exact .inl h
 ·exact .inr ⟨b,g,rs,by omega,by omega,h3,h5,h6,h7.nd,fun r hr=>by
   obtain⟨k1,k2,k3,k4,k5⟩:=h7.row r hr
   exact⟨by omega,by omega,k3,k4,k5⟩⟩
theorem UX.iQ {cH:List (List α)} {lo hi:Nat} {H:aA} {v:VV} (h:UX f e cH lo hi H v):bN v=true∧aB v=[v]∧isAny v=false:=by
 rcases h with⟨rfl,rfl⟩ | ⟨b,g,rs,h1,h2,rfl,h3⟩<;>exact⟨rfl,rfl,rfl⟩
theorem UX.ayB {cH:List (List α)} {lo hi:Nat} {H:aA} {v:VV} (h:UX f e cH lo hi H v):rL v H=some (VI cH.length):=by
 rcases h with⟨rfl,rfl⟩ | ⟨b,g,rs,h1,h2,rfl,h5,h6,h7⟩
 ·rfl
 ·exact eK h5
theorem UX.snoc {cH:List (List α)} {lo gF hi:Nat} {H:aA} {v:VV} (h:UX f e cH lo hi H v) (dS:gF≤lo) (hn:cH.length≤1000000000) (r:CQ α) (hhi:hi≤r.b) (BX:lo≤r.b) (hc:r.xs.length≤r.c) (hr:aG H r.b r.g=some (r.xs.map f,e,true)) :
  ∃v' H3,dR gF 1 24 v [.ref r.b r.g 0 r.xs.length r.c] H=some (v',H3)∧UX f e (cH++[r.xs]) lo H3.length H3 v'∧(∀b' g' x,b'<lo→aG H b' g'=some x→aG H3 b' g'=some x)∧H.length≤H3.length ∧
   (∀n,n≤lo→C3 n H→C3 n H3)∧(∀H0:aA,H0.length≤lo→H0 <+: H→H0 <+: H3)∧(∀b' g' x,aG H b' g'=some x→(∀g0 n0 c0,v ≠ .ref b' g0 0 n0 c0)→aG H3 b' g'=some x):=by
 have hb:=iT hr
 rcases h with⟨rfl,rfl⟩ | ⟨b,g,rs,h1,h2,rfl,h5,h6,h7⟩
 ·refine⟨.ref H.length 0 0 1 1,H++[.row 0 [tR r] 1 true],by simp[dR,tR],.inr ⟨H.length,0,[r],by omega,by simp,rfl,jD,rfl,by simp,fun s hs => ?_⟩,fun _ _ _ _ h=>dU h,by simp,fun n hn hO=>hO.app (by simp[AB,jR,tR];omega),fun H0 _ hp=>FT hp,fun _ _ _ h _=>dU h⟩
  rw[aLH] at hs
  subst hs
  exact⟨BX,by simp;omega,by omega,hc,dU hr⟩
 ·subst h6
  rw[aMi] at hn ⊢
  have xL:=jT (f:=tR) (xs:=rs) (x:=r) (lo:=gF) (bytes:=24) h5 rfl (by omega) (by decide) (by decide) (by omega)
  refine⟨_,_,xL,.inr ⟨b,g+1,rs++[r],h1,by rw[aMz];exact iT h5,by simp,bQ h5,by simp,?_,fun s hs => ?_⟩,fun b' g' x xJ h=>aZ (by omega) h,by simp,fun n hn hO=>hO.set (by omega) ?_,fun H0 hl hp=>lR hp (by omega),fun b' g' x h fW=>aZ (fun he=>fW g _ _ (by rw[he])) h⟩
  ·rw[aMY,List.nodup_append]
   refine⟨h7.nd,by simp,fun a ha c hc' => ?_⟩
   obtain⟨s,hs,rfl⟩:=aMc.1 ha
   have:=h7.row s hs
   simp only[List.map_cons,List.map_nil,aLH] at hc'
   omega
  ·rcases aLx.1 hs with hs | hs
   ·obtain⟨k1,k2,k3,k4,k5⟩:=h7.row s hs
    exact⟨k1,by rw[aMz];exact iT k5,k3,k4,aZ (by omega) k5⟩
   ·rw[aLH] at hs
    subst hs
    exact⟨BX,by rw[aMz];exact hb,by omega,hc,aZ (by omega) hr⟩
  ·rw[zW]
   intro x hx
   obtain⟨s,hs,rfl⟩:=aMc.1 hx
   rcases aLx.1 hs with hs | hs
   ·have:=h7.row s hs
    simp[tR,jR];omega
   ·rw[aLH] at hs
    subst hs
    simp[tR,jR];omega
end
def LsO {α:Type} (f:α→VV) (e:Nat) (o:Option (List α)) (lo hi:Nat) (H:aA) (v:VV):Prop:=match o with
 | none=>v = .tree [] .nil
 | some ys=>JT f e ys lo hi H v
theorem JT.dB {α:Type} {f:α→VV} {e:Nat} {ys:List α}:∀ {lo hi H H' v},JT f e ys lo hi H v→jY lo hi H H'→JT f e ys lo hi H' v:=by
 rintro lo hi H H' v ⟨b,g,c,h1,h2,h3,h4,h5⟩ hk
 exact⟨b,g,c,h1,h2,h3,h4,hk _ _ _ h1 h2 h5⟩
theorem LsO.dB {α:Type} {f:α→VV} {e:Nat} {o:Option (List α)}:∀ {lo hi H H' v},LsO f e o lo hi H v→jY lo hi H H'→LsO f e o lo hi H' v:=by
 intro lo hi H H' v h hk
 cases o with
 | none=>exact h
 | some ys=>exact JT.dB h hk
end Go.PM
namespace Go.PM
open Go.Lib
def orJ (row:List Rat) (i:Nat) (st:List Bool) (j:Nat):List Bool:=st.set i (st.getD i false||(decide (0<row.getD j 0)&&st.getD j false))
def Si (row:List Rat) (i:Nat) (st:List Bool) (m:Nat):List Bool:=(aKx m).foldl (orJ row i) st
def L5 (g:List (List Rat)) (e:List Rat) (n:Nat) (st:List Bool) (i:Nat):List Bool:=Si (g.getD i []) i (st.set i (st.getD i false||decide (0<e.getD i 0))) n
def mK (g:List (List Rat)) (e:List Rat) (n:Nat) (st:List Bool) (m:Nat):List Bool:=(aKx m).foldl (L5 g e n) st
def qF (g:List (List Rat)) (e:List Rat) (n m:Nat):List Bool:=(aKx m).foldl (fun st _=>mK g e n st n) (aLr n false)
theorem sD {α:Type} {f:α→Nat→α} {s:α} {j:Nat}:(aKx (j+1)).foldl f s=f ((aKx j).foldl f s) j:=by rw[aNW,aNM];rfl
theorem Jp {f:List Bool→Nat→List Bool} (hf:∀st j,(f st j).length=st.length) {st:List Bool}:∀m,((aKx m).foldl f st).length=st.length
 | 0=>rfl
 | m+1=>by rw[sD,hf,Jp hf m]
theorem atU (row:List Rat) (i:Nat) (st:List Bool) (j:Nat):(orJ row i st j).length=st.length:=aMz ..
theorem S8 (row:List Rat) (i:Nat) (st:List Bool) (m:Nat):(Si row i st m).length=st.length:=Jp (atU row i) m
theorem adX (g:List (List Rat)) (e:List Rat) (n:Nat) (st:List Bool) (i:Nat):(L5 g e n st i).length=st.length:=by rw[L5,S8,aMz]
theorem Iq (g:List (List Rat)) (e:List Rat) (n:Nat) (st:List Bool) (m:Nat):(mK g e n st m).length=st.length:=Jp (adX g e n) m
theorem DX (g:List (List Rat)) (e:List Rat) (n m:Nat):(qF g e n m).length=n:=by
 rw[qF,Jp (fun st _=>Iq g e n st n),aMq]
abbrev tT (st:List Bool):fC := .row 0 (st.map fun b=>VB b) 1 true
theorem xX {st:List Bool} {i n:Nat} (hi:i<n) (K:aA):bK 1 (.ref 0 0 0 n n) (VI i) (tT st::K)=some (.ptr 0 0 i 0):=by
 have:=bB (b:=0) (g:=0) (o:=0) (n:=n) (c:=n) (k := .i64) (i:=i) (H:=tT st::K) aT hi
 rwa [aL9] at this
theorem yK {st:List Bool} {i:Nat} (hi:i<st.length) (K:aA):bH false 1 (.ptr 0 0 i 0) (tT st::K)=some (VB (st.getD i false)):=by
 have hx:st[i]? = some st[i]:=aKI hi
 rw[qC (f:=fun b=>VB b) aT hx,aKy,hx]
 rfl
theorem Em {st:List Bool} {i:Nat} (hi:i<st.length) (v:Bool) (K:aA):bL 0 1 (.ptr 0 0 i 0) (VB v) (tT st::K)=some (tT (st.set i v)::K):=by
 rw[dQ (f:=fun b=>VB b) (e:=1) (x:=v) aT hi (aK5 _) rfl rfl,aMf]
theorem IJ {R:fC} {q:Rat}:bL 0 3 (.ptr 1 0 0 0) (aF q) [R,cell0]=some [R,.row 0 [aF q] 3 true]:=by simp only[aH,cF,bF,aV,aW,aR,fZ,Nat.reduceLeDiff,Nat.reduceLT,Nat.reduceSub,dT,VX,Nat.reduceEqDiff,Nat.reduceAdd,Nat.reduceLeDiff,Nat.reduceLT,Nat.reduceSub]
theorem QS {R:fC} {q:Rat}:bH true 3 (.ptr 1 0 0 0) [R,.row 0 [aF q] 3 true]=some (aF q):=by simp only[aH,cF,bF,aV,aW,aR,fZ,Nat.reduceLeDiff,Nat.reduceLT,Nat.reduceSub,dT,VX,Nat.reduceEqDiff,Nat.reduceAdd,Nat.reduceLeDiff,Nat.reduceLT,Nat.reduceSub]
section
variable {g:List (List Rat)} {e row:List Rat} {n i:Nat} {st:List Bool}
set_option maxHeartbeats 2000000 in
theorem XO (hn:n≤1000000) (hi:i<n) (wU:st.length=n) (lT:row.length=n) {r:Int} {ρ:cW} {Q:VQ} (g0:ρ 0=aC (aC aF) g) (g1:ρ 1=aC aF e) (g5:ρ 5 = .ref 0 0 0 n n) (g6:ρ 6=VI i) (g13:ρ 13=VI n) (g14:ρ 14=VI r) (g17:ρ 17=VI n) (g18:ρ 18=VI i) (g39:ρ 39=aC aF row) (g40:ρ 40=VI n) (g41:ρ 41=VI 0)
  (hQ:∀aQ,aQ 0=aC (aC aF) g→aQ 1=aC aF e→aQ 5 = .ref 0 0 0 n n→aQ 13=VI n→aQ 14=VI r→aQ 17=VI n→aQ 18=VI i→Q .normal aQ [tT (Si row i st n)]) :
  VW ⟨true,false⟩ 0 (.loop nF) (tH 4 Q) ρ [tT st]:=by
 refine OS (fun(j:Nat) aQ H=>j≤n∧H=[tT (Si row i st j)]∧aQ 0=aC (aC aF) g∧aQ 1=aC aF e∧aQ 5 = .ref 0 0 0 n n∧aQ 6=VI i∧aQ 13=VI n∧aQ 14=VI r∧aQ 17=VI n∧aQ 18=VI i∧aQ 39=aC aF row∧aQ 40=VI n∧aQ 41=VI j) (fun j=>n-j) 0 ⟨aK5 _,rfl,g0,g1,g5,g6,g13,g14,g17,g18,g39,g40,g41⟩ ?_
 clear g0 g1 g5 g6 g13 g14 g17 g18 g39 g40 g41
 rintro j aQ H ⟨hj,rfl,g0,g1,g5,g6,g13,g14,g17,g18,g39,g40,g41⟩
 have hl:(Si row i st j).length=n:=by rw[S8,wU]
 have Cu:Si row i st (j+1)=orJ row i (Si row i st j) j:=sD
 generalize hs:Si row i st j=s at *
 by_cases bZ:(j:Int)<(n:Int)
 ·have Ew:j<n:=by omega
  obtain⟨q,hq⟩:∃q,row[j]? = some q:=⟨_,aKI (by omega)⟩
  have e1:=fun H=>aI (f:=aF) (t := .op) (H:=H) (size:=3) (k := .i64) hq rfl
  have wi:IntKind.i64.wrap ((j:Int)+1)=((j+1:Nat):Int):=wrapN (j+1) (by omega) (by omega)
  have e2:=dJ q
  have a1:=fun K=>xX (st:=s) (n:=n) hi K
  have a2:=fun K=>yK (st:=s) (i:=i) (by omega) K
  have a3:=fun K=>xX (st:=s) (n:=n) Ew K
  have a4:=fun K=>yK (st:=s) (i:=j) (by omega) K
  have a5:=fun v K=>Em (st:=s) (i:=i) (by omega) v K
  have pO:∀v:Bool,v=(s.getD i false||(decide (0<q)&&s.getD j false))→Si row i st (j+1)=s.set i v:=by
   intro v hv
   rw[Cu,orJ,hv,aKy (l:=row),hq,aNP]
  have post:∀(v:Bool) (tG:cW),v=(s.getD i false||(decide (0<q)&&s.getD j false))→tG 0=aC (aC aF) g→tG 1=aC aF e→tG 5 = .ref 0 0 0 n n→tG 6=VI i→tG 13=VI n→tG 14=VI r→tG 17=VI n→tG 18=VI i→tG 39=aC aF row→tG 40=VI n→tG 41=VI ((j+1:Nat):Int) →
    ∃s',n-s'<n-j∧oA 1 [tT (s.set i v)]=true∧s'≤n∧[tT (s.set i v)]=[tT (Si row i st s')]∧sA 1 tG 0=aC (aC aF) g∧sA 1 tG 1=aC aF e∧sA 1 tG 5 = .ref 0 0 0 n n∧sA 1 tG 6=VI i∧sA 1 tG 13=VI n∧sA 1 tG 14=VI r∧sA 1 tG 17=VI n∧sA 1 tG 18=VI i∧sA 1 tG 39=aC aF row∧sA 1 tG 40=VI n∧sA 1 tG 41=VI s':=by
   intro v tG hv k0 k1 k5 k6 Ck Dh Il W9 k39 k40 k41
   refine⟨j+1,by omega,by rw[DP (oP _ (fQ fun _=>rfl)),LD],by omega,by rw[pO v hv],?_⟩
   simp only[Bs,k0,k1,k5,k6,Ck,Dh,Il,W9,k39,k40,k41,Da (Jb _),Da (gR _),Pm,KV (Nat.lt_succ_self 0),and_self]
  cases XB:s.getD i false with
  |
   true =>
   rw[XB] at a2 post
   simp only[nF,g5,g6,g39,g40,g41,bZ,e1,wi,a1,a2,a5,IJ,bF,VX,Nat.reduceEqDiff,Nat.reduceAdd,uL,rD,aKL,aMe]
   refine post true _ (by simp) ?_ ?_ ?_ ?_ ?_ ?_ ?_ ?_ ?_ ?_ ?_
   all_goals first | exact g0 | exact g1 | exact g5 | exact g6 | exact g13 | exact g14 | exact g17 | exact g18 | exact g39 | exact g40 | rfl
  |
   false =>
   rw[XB] at a2 post
   by_cases hp:0<jL q
   ·have BY:0<q:=GL.1 hp
    simp only[nF,g5,g6,g39,g40,g41,bZ,e1,e2,wi,a1,a2,a3,a4,a5,hp,IJ,QS,bF,VX,Nat.reduceEqDiff,Nat.reduceAdd,uL,rD,aKL,aMe]
    refine post (s.getD j false) _ (by simp[BY]) ?_ ?_ ?_ ?_ ?_ ?_ ?_ ?_ ?_ ?_ ?_
    all_goals first | exact g0 | exact g1 | exact g5 | exact g6 | exact g13 | exact g14 | exact g17 | exact g18 | exact g39 | exact g40 | rfl
   ·have BY:¬0<q:=mt GL.2 hp
    simp only[nF,g5,g6,g39,g40,g41,bZ,e1,e2,wi,a1,a2,a5,hp,IJ,QS,bF,VX,Nat.reduceEqDiff,Nat.reduceAdd,uL,rD,aKL,aMe]
    refine post false _ (by simp[BY]) ?_ ?_ ?_ ?_ ?_ ?_ ?_ ?_ ?_ ?_ ?_
    all_goals first | exact g0 | exact g1 | exact g5 | exact g6 | exact g13 | exact g14 | exact g17 | exact g18 | exact g39 | exact g40 | rfl
 ·have Sp:j=n:=by omega
  subst Sp
  subst hs
  simp only[nF,g40,g41,bZ,dT,VX,Nat.reduceEqDiff,Nat.reduceAdd,Nat.reduceLeDiff,Nat.reduceLT,Nat.reduceSub]
  refine hQ _ ?_ ?_ ?_ ?_ ?_ ?_ ?_<;>first | exact g0 | exact g1 | exact g5 | exact g13 | exact g14 | exact g17 | exact g18 | rfl
set_option maxHeartbeats 2000000 in
theorem XV (hn:n≤1000000) (wU:st.length=n) (hg:g.length=n) (Xg:∀w∈g,w.length=n) (he:e.length=n) {r:Int} {ρ:cW} {Q:VQ} (g0:ρ 0=aC (aC aF) g) (g1:ρ 1=aC aF e) (g5:ρ 5 = .ref 0 0 0 n n) (g13:ρ 13=VI n) (g14:ρ 14=VI r) (g17:ρ 17=VI n) (g18:ρ 18=VI 0)
  (hQ:∀aQ,aQ 0=aC (aC aF) g→aQ 1=aC aF e→aQ 5 = .ref 0 0 0 n n→aQ 13=VI n→aQ 14=VI r→Q .normal aQ [tT (mK g e n st n)]) :
  VW ⟨true,false⟩ 0 (.loop pV) (tH 2 Q) ρ [tT st]:=by
 refine aP (fun(i:Nat) aQ H=>i≤n∧H=[tT (mK g e n st i)]∧aQ 0=aC (aC aF) g∧aQ 1=aC aF e∧aQ 5 = .ref 0 0 0 n n∧aQ 13=VI n∧aQ 14=VI r∧aQ 17=VI n∧aQ 18=VI i) (fun i=>n-i) 0 ⟨aK5 _,rfl,g0,g1,g5,g13,g14,g17,g18⟩ ?_
 clear g0 g1 g5 g13 g14 g17 g18
 rintro i aQ H ⟨hi,rfl,g0,g1,g5,g13,g14,g17,g18⟩
 have hl:(mK g e n st i).length=n:=by rw[Iq,wU]
 have Cu:mK g e n st (i+1)=L5 g e n (mK g e n st i) i:=sD
 generalize hs:mK g e n st i=s at *
 by_cases bZ:(i:Int)<(n:Int)
 ·have Ew:i<n:=by omega
  obtain⟨q,hq⟩:∃q,e[i]? = some q:=⟨_,aKI (by omega)⟩
  obtain⟨row,hr⟩:∃row,g[i]? = some row:=⟨_,aKI (by omega)⟩
  have BX:=Xg row (aLv hr)
  have e1:=fun H=>aI (f:=aF) (t := .op) (H:=H) (size:=3) (k := .i64) hq rfl
  have e3:=fun H=>aI (f:=aC aF) (t := .op) (H:=H) (size:=1) (k := .i64) hr rfl
  have wi:IntKind.i64.wrap ((i:Int)+1)=((i+1:Nat):Int):=wrapN (i+1) (by omega) (by omega)
  have e2:=dJ q
  have a1:=fun K=>xX (st:=s) (n:=n) Ew K
  have a2:=fun K=>yK (st:=s) (i:=i) (by omega) K
  have a5:=fun v K=>Em (st:=s) (i:=i) (by omega) v K
  have pO:∀v:Bool,v=(s.getD i false||decide (0<q))→mK g e n st (i+1)=Si row i (s.set i v) n:=by
   intro v hv
   rw[Cu,L5,hv,aKy (l:=g),hr,aNP,aKy (l:=e),hq,aNP]
  have post:∀(v:Bool) (tG:cW),v=(s.getD i false||decide (0<q))→tG 0=aC (aC aF) g→tG 1=aC aF e→tG 5 = .ref 0 0 0 n n→tG 6=VI i→tG 13=VI n→tG 14=VI r→tG 17=VI n→tG 18=VI i→tG 39=aC aF row→tG 40=VI n→tG 41=VI 0 →
    ∀(Q':VQ),(∀vL,vL 0=aC (aC aF) g→vL 1=aC aF e→vL 5 = .ref 0 0 0 n n→vL 13=VI n→vL 14=VI r→vL 17=VI n→vL 18=VI i→Q' .normal vL [tT (mK g e n st (i+1))])→VW ⟨true,false⟩ 0 (.loop nF) (tH 4 Q') tG [tT (s.set i v)]:=by
   intro v tG hv k0 k1 k5 k6 Ck Dh Il W9 k39 k40 k41 Q' hQ'
   refine XO hn Ew (by rw[aMz,hl]) BX k0 k1 k5 k6 Ck Dh Il W9 k39 k40 k41 fun vL m0 m1 m5 m13 m14 m17 m18 => ?_
   rw[←pO v hv]
   exact hQ' vL m0 m1 m5 m13 m14 m17 m18
  have fin:∀(vL:cW),vL 0=aC (aC aF) g→vL 1=aC aF e→vL 5 = .ref 0 0 0 n n→vL 13=VI n→vL 14=VI r→vL 17=VI n→vL 18=VI ((i+1:Nat):Int)→∃s',n-s'<n-i∧s'≤n∧[tT (mK g e n st (i+1))]=[tT (mK g e n st s')]∧vL 0=aC (aC aF) g∧vL 1=aC aF e∧vL 5 = .ref 0 0 0 n n∧vL 13=VI n∧vL 14=VI r∧vL 17=VI n∧vL 18=VI s' :=
   fun vL m0 m1 m5 m13 m14 m17 m18=>⟨i+1,by omega,by omega,rfl,m0,m1,m5,m13,m14,m17,m18⟩
  have avV:((row.length:Nat):Int)=(n:Int):=by omega
  cases XB:s.getD i false with
  |
   true =>
   rw[XB] at a2 post
   simp only[pV,g0,g1,g5,g17,g18,bZ,e1,e3,a1,a2,a5,avV,dT,VX,Nat.reduceEqDiff,Nat.reduceAdd,Nat.reduceLeDiff,Nat.reduceLT,Nat.reduceSub]
   refine post true _ (by simp) ?_ ?_ ?_ ?_ ?_ ?_ ?_ ?_ ?_ ?_ ?_ _ fun vL m0 m1 m5 m13 m14 m17 m18 => ?_
   all_goals first | exact g0 | exact g1 | exact g5 | exact g13 | exact g14 | exact g17 | exact g18 | rfl | skip
   simp only[m18,wi,dT,VX,Nat.reduceEqDiff,Nat.reduceAdd,Nat.reduceLeDiff,Nat.reduceLT,Nat.reduceSub]
   exact⟨i+1,by omega,by omega,by (repeat' apply aMh)<;>first | rfl | trivial | assumption⟩
  |
   false =>
   rw[XB] at a2 post
   by_cases hp:0<jL q
   ·have BY:0<q:=GL.1 hp
    simp only[pV,g0,g1,g5,g17,g18,bZ,e1,e2,e3,a1,a2,a5,avV,hp,bF,dT,VX,Nat.reduceEqDiff,Nat.reduceAdd,Nat.reduceLeDiff,Nat.reduceLT,Nat.reduceSub]
    refine post true _ (by simp[BY]) ?_ ?_ ?_ ?_ ?_ ?_ ?_ ?_ ?_ ?_ ?_ _ fun vL m0 m1 m5 m13 m14 m17 m18 => ?_
    all_goals first | exact g0 | exact g1 | exact g5 | exact g13 | exact g14 | exact g17 | exact g18 | rfl | skip
    simp only[m18,wi,dT,VX,Nat.reduceEqDiff,Nat.reduceAdd,Nat.reduceLeDiff,Nat.reduceLT,Nat.reduceSub]
    exact⟨i+1,by omega,by omega,by (repeat' apply aMh)<;>first | rfl | trivial | assumption⟩
   ·have BY:¬0<q:=mt GL.2 hp
    simp only[pV,g0,g1,g5,g17,g18,bZ,e1,e2,e3,a1,a2,a5,avV,hp,bF,dT,VX,Nat.reduceEqDiff,Nat.reduceAdd,Nat.reduceLeDiff,Nat.reduceLT,Nat.reduceSub]
    refine post false _ (by simp[BY]) ?_ ?_ ?_ ?_ ?_ ?_ ?_ ?_ ?_ ?_ ?_ _ fun vL m0 m1 m5 m13 m14 m17 m18 => ?_
    all_goals first | exact g0 | exact g1 | exact g5 | exact g13 | exact g14 | exact g17 | exact g18 | rfl | skip
    simp only[m18,wi,dT,VX,Nat.reduceEqDiff,Nat.reduceAdd,Nat.reduceLeDiff,Nat.reduceLT,Nat.reduceSub]
    exact⟨i+1,by omega,by omega,by (repeat' apply aMh)<;>first | rfl | trivial | assumption⟩
 ·have mC:i=n:=by omega
  subst mC
  subst hs
  simp only[pV,g17,g18,bZ,dT,VX,Nat.reduceEqDiff,Nat.reduceAdd,Nat.reduceLeDiff,Nat.reduceLT,Nat.reduceSub]
  refine hQ _ ?_ ?_ ?_ ?_ ?_<;>first | exact g0 | exact g1 | exact g5 | exact g13 | exact g14 | exact g17 | exact g18 | rfl
theorem My (bs:List Bool):bA (aC (fun b=>VB b) bs)=true:=mO (fun _=>rfl) fun _=>rfl
theorem XF (bs:List Bool):hJ (aC (fun b=>VB b) bs)=true:=zY (fun _=>rfl) (fun _=>rfl) fun _=>rfl
set_option maxHeartbeats 1000000 in
theorem TE (hn:n≤1000000) (hg:g.length=n) (Xg:∀w∈g,w.length=n) (he:e.length=n):TC 195 [aC (aC aF) g,aC aF e] (aC (fun b=>VB b) (qF g e n n)):=by
 refine TC.walk ⟨true,false⟩ TL rfl (aMp rfl) (by simp only[aO,Jb,gR];rfl) (XF _) ?_
 have e0:∀H,BA [.bool false] 1 (VI n) (VI n) H=some (.ref H.length 0 0 n n,H++[tT (aLr n false)]):=fun H=>nY (f:=fun b=>VB b) rfl (by omega) (by omega)
 simp only[Ow,Jd,he,e0,List.nil_append,aMe,dT,VX,Nat.reduceEqDiff,Nat.reduceAdd,Nat.reduceLeDiff,Nat.reduceLT,Nat.reduceSub]
 refine aP (fun(i:Nat) aQ H=>i≤n∧H=[tT (qF g e n i)]∧aQ 0=aC (aC aF) g∧aQ 1=aC aF e∧aQ 5 = .ref 0 0 0 n n∧aQ 13=VI n∧aQ 14=VI i) (fun i=>n-i) 0 ⟨aK5 _,rfl,rfl,rfl,rfl,rfl,rfl⟩ ?_
 rintro i aQ H ⟨hi,rfl,g0,g1,g5,g13,g14⟩
 have hl:=DX g e n i
 have Cu:qF g e n (i+1)=mK g e n (qF g e n i) n:=sD
 by_cases bZ:(i:Int)<(n:Int)
 ·have wi:IntKind.i64.wrap ((i:Int)+1)=((i+1:Nat):Int):=wrapN (i+1) (by omega) (by omega)
  have he':((e.length:Nat):Int)=(n:Int):=by omega
  simp only[Cy,g1,g13,g14,bZ,he',dT,VX,Nat.reduceEqDiff,Nat.reduceAdd,Nat.reduceLeDiff,Nat.reduceLT,Nat.reduceSub]
  refine XV (r:=(i:Int)) hn hl hg Xg he ?_ ?_ ?_ ?_ ?_ ?_ ?_ fun vL m0 m1 m5 m13 m14 => ?_
  all_goals first | exact g0 | exact g1 | exact g5 | exact g13 | exact g14 | rfl | skip
  simp only[m14,wi,dT,VX,Nat.reduceEqDiff,Nat.reduceAdd,Nat.reduceLeDiff,Nat.reduceLT,Nat.reduceSub]
  exact⟨i+1,by omega,by omega,by rw[Cu],m0,m1,m5,m13,rfl⟩
 ·have mC:i=n:=by omega
  subst mC
  simp only[Cy,g5,g13,g14,bZ,dT,VX,Nat.reduceEqDiff,Nat.reduceAdd,Nat.reduceLeDiff,Nat.reduceLT,Nat.reduceSub]
  have:=ZA (f:=fun b=>VB b) (e:=1) (b:=0) (g:=0) (c:=i) (xs:=qF g e i i) (H:=[tT (qF g e i i)]) (fun _=>rfl) (by rw[aT]) (by omega)
  rw[hl] at this
  exact this
end
end Go.PM
namespace Go.PM
end Go.PM
namespace Go.PM
end Go.PM
namespace Go.PM
open Go.Lib
theorem CG.wide {cH:List (List ByteArray)}:∀ {lo hi gF qL:Nat} {H:aA} {v:VV},CG cH lo hi H v→gF≤lo→hi≤qL→CG cH gF qL H v:=by
 rintro lo hi gF qL H v ⟨c,h1,h2⟩ hl hh
 exact⟨c,h1,h2.wide hl hh⟩
theorem CG.own {n lo hi:Nat} {H:aA} {v:VV} {cH:List (List ByteArray)} (h:CG cH lo hi H v) (hn:n≤lo):∃c,v = .agg [c]∧bN c=true∧aB c=[c]∧jR n c=true:=by
 obtain⟨c,rfl,h | ⟨b,g,cc,rs,h1,h2,rfl,h3⟩⟩:=h
 ·obtain⟨rfl,_⟩:=h
  exact⟨_,rfl,rfl,rfl,rfl⟩
 ·exact⟨_,rfl,rfl,rfl,by simp[jR];omega⟩
theorem SvG.wide {s:vJ}:∀ {lo hi gF qL:Nat} {H:aA} {v:VV},SvG s lo hi H v→gF≤lo→hi≤qL→SvG s gF qL H v:=by
 rintro lo hi gF qL H v ⟨a,b,c,m1,m2,h1,k1,k2,k3,h2,h3,h4⟩ hl hh
 exact⟨a,b,c,m1,m2,h1,by omega,k2,by omega,h2.wide hl (aKB _),h3,h4.wide (aKB _) hh⟩
theorem Ls.start {n:Nat} {H:aA}:Ls n H.length H:=fun b g es e w hb hr=>by
 rw[aK1 hb] at hr
 cases hr
def CE (f:Rat→VV) (b:List Rat) (g:List (List Rat)) (e:List Rat):VV := .agg [aC f b,aC (aC f) g,aC f e]
end Go.PM
namespace Go.PM
section
variable {α:Type}
def vec (n:Nat) (f:Nat→α):List α:=(aKx n).map f
def QH (n m:Nat) (F:Nat→Nat→α):List (List α):=vec n fun a=>vec m (F a)
theorem jM (n:Nat) (f:Nat→α):(vec n f).length=n:=by simp[vec]
theorem Cf (n m:Nat) (F:Nat→Nat→α):(QH n m F).length=n:=jM ..
theorem wL {n i:Nat} {f:Nat→α} (h:i<n):(vec n f)[i]? = some (f i):=by simp[vec,h]
theorem J5 {n i:Nat} {f:Nat→α} (h:n≤i):(vec n f)[i]? = none:=by rw[aK1];rw[jM];exact h
theorem vB {n:Nat} {f g:Nat→α} (h:∀i,i<n→f i=g i):vec n f=vec n g:=List.map_congr_left fun i hi=>h i (aLc.1 hi)
theorem Le {n m:Nat} {F G:Nat→Nat→α} (h:∀a b,a<n→b<m→F a b=G a b):QH n m F=QH n m G:=vB fun a ha=>vB fun b hb=>h a b ha hb
theorem NM {n m i:Nat} {F:Nat→Nat→α} (h:i<n):(QH n m F)[i]? = some (vec m (F i)):=wL h
theorem ND {n j:Nat} {f:Nat→α} {y:α}:(vec n f).set j y=vec n fun b=>if b=j then y else f b:=by
 apply aN5
 intro b
 rw[List.getElem?_set,jM]
 by_cases hb:b<n
 ·rw[wL hb,wL hb]
  by_cases hj:j=b
  ·subst hj;simp[hb]
  ·simp[hj,Ne.symm hj]
 ·rw[J5 (by omega),J5 (by omega)]
  split
  ·rw[if_neg (by omega)]
  ·rfl
theorem SB {n m i:Nat} {F:Nat→Nat→α} {g:Nat→α}:(QH n m F).set i (vec m g)=QH n m fun a b=>if a=i then g b else F a b:=by
 rw[QH,ND]
 refine vB fun a _ => ?_
 split
 ·rename_i h
  exact vB fun b _=>(if_pos h).symm
 ·rename_i h
  exact vB fun b _=>(if_neg h).symm
theorem KM {n:Nat} {x:α}:aLr n x=vec n fun _=>x:=by
 apply aN5
 intro i
 by_cases h:i<n
 ·rw[wL h,aN0,if_pos h]
 ·rw[J5 (by omega),aN0,if_neg h]
theorem acA {n m:Nat} {x:α}:aLr n (aLr m x)=QH n m fun _ _=>x:=by rw[KM,KM];rfl
theorem alG (xs:List α) (d:α):xs=vec xs.length fun i=>xs.getD i d:=by
 apply aN5
 intro i
 by_cases h:i<xs.length
 ·rw[wL h,aKy,aKI h]
  rfl
 ·rw[J5 (by omega),aK1 (by omega)]
theorem Jl {n:Nat} {f:Nat→α} {x:α}:x∈vec n f↔∃i,i<n∧f i=x:=by simp[vec]
theorem Zt {n m:Nat} {F:Nat→Nat→α} {r:List α} (h:r∈QH n m F):∃i,i<n∧r=vec m (F i):=by
 obtain⟨i,hi,rfl⟩:=Jl.1 h
 exact⟨i,hi,rfl⟩
theorem Bt {n:Nat} {f:Nat→α}:vec (n+1) f=vec n f++[f n]:=by simp[vec,aNW]
end
end Go.PM
namespace Go.PM
open Go.Lib
theorem ajD {qs:List Rat} {B i:Nat} {y:Rat} (h:∀q∈qs,aK q≤B) (hy:aK y≤B):∀q∈qs.set i y,aK q≤B:=fun q hq=>by
 rcases List.mem_or_eq_of_mem_set hq with h1 | rfl
 ·exact h q h1
 ·exact hy
theorem SvG.own {n lo hi:Nat} {s:vJ} {H:aA} {v:VV} (h:SvG s lo hi H v) (hn:n≤lo):∃a b c,v = .agg [a,b,c]∧bN a=true∧bN b=true∧bN c=true∧jR n a=true∧jR n b=true∧jR n c=true:=by
 obtain⟨a,b,c,m1,m2,rfl,l1,l2,l3,ha,hb,hc⟩:=h
 refine⟨a,b,c,rfl,ha.cell,hb.cell,hc.cell,?_,?_,?_⟩
 ·rcases ha with⟨rfl,_⟩ | ⟨b,g,c,h1,h2,rfl,h3⟩
  ·rfl
  ·simp[jR];omega
 ·rcases hb with⟨rfl,_⟩ | ⟨b,g,c,rs,h1,h2,rfl,h3⟩
  ·rfl
  ·simp[jR];omega
 ·rcases hc with⟨rfl,_⟩ | ⟨b,g,c,h1,h2,rfl,h3⟩
  ·rfl
  ·simp[jR];omega
abbrev kR:fC := .row 0 [.agg [.tree [] .nil,.tree [] .nil,.tree [] .nil]] 3 true
end Go.PM
namespace Go.PM
open Go.Lib
section
variable {α:Type} {f:α→VV} {e:Nat}
structure RdT (f:α→VV) (e:Nat) (m:List (List α)) (H:aA) (v:VV):Prop where
 len:∀H',H <+: H'→rL v H'=some (VI m.length)
 get:∀H',H <+: H'→∀(i:Nat) r,m[i]? = some r→∃p w,bK 1 v (VI i) H'=some p∧bH false 1 p H'=some w∧Rd f e r H' w
theorem RdT.pre {m:List (List α)} {H H':aA} {v:VV} (h:RdT f e m H v) (hh:H <+: H'):RdT f e m H' v:=⟨fun H2 h2=>h.len H2 (hh.trans h2),fun H2 h2=>h.get H2 (hh.trans h2)⟩
theorem RdT.tree {m:List (List α)} {H:aA} {t:TK} (hs:∀x,(aB (f x)).length=e):RdT f e m H (.tree (m.map (aC f)) t) :=
 ⟨fun _ _=>eW,fun _ _ i x hx=>⟨_,_,aI hx rfl,by rw[NP];rfl,Rd.tree hs⟩⟩
theorem RdT.row {m:List (List α)} {H:aA} {b g n c:Nat} {w:Bool} (h:aG H b g=some (m.map (aC f),1,w)) (hn:n=m.length) (hs:∀x,(aB (f x)).length=e):RdT f e m H (.ref b g 0 n c):=by
 subst hn
 refine⟨fun H' hh=>eK (cL hh h),fun H' hh i x hx => ?_⟩
 have hi:=(List.getElem?_eq_some_iff.1 hx).1
 have e1:=bB (o:=0) (n:=m.length) (c:=c) (i:=i) (k := .i64) (cL hh h) hi
 rw[aL9] at e1
 exact⟨_,_,e1,by rw[qC (f:=aC f) (cL hh h) hx];rfl,Rd.tree hs⟩
theorem MG.snoc {lo hi gF b g:Nat} {H:aA} {rs:List (CQ α)} (h:MG f e lo hi b g H rs) (hg:g=rs.length) (dS:gF≤lo) (hn:g≤1000000000) (r:CQ α) (hhi:hi≤r.b) (hc:r.xs.length≤r.c) (hr:aG H r.b r.g=some (r.xs.map f,e,true)) :
  dR gF 1 24 (.ref b g 0 g g) [.ref r.b r.g 0 r.xs.length r.c] H=some (.ref b (g+1) 0 (g+1) (g+1),H.set b (.row (g+1) ((rs++[r]).map tR) 1 true))∧MG f e lo H.length b (g+1) (H.set b (.row (g+1) ((rs++[r]).map tR) 1 true)) (rs++[r]):=by
 have aHG:=h.blo
 have aIy:=h.bhi
 have BX:=iT hr
 have xL:=jT (f:=tR) (xs:=rs) (x:=r) (lo:=gF) (bytes:=24) h.out hg (by omega) (by decide) (by decide) (by omega)
 refine⟨xL,bQ h.out,h.blo,iT h.out,?_,fun s hs => ?_⟩
 ·rw[aMY,List.nodup_append]
  refine⟨h.rows.nd,by simp,fun a ha c hc' => ?_⟩
  obtain⟨s,hs,rfl⟩:=aMc.1 ha
  have:=h.rows.row s hs
  simp only[List.map_cons,List.map_nil,aLH] at hc'
  omega
 ·rcases aLx.1 hs with hs | hs
  ·obtain⟨k1,k2,k3,k4,k5⟩:=h.rows.row s hs
   exact⟨k1,by omega,k3,k4,aZ (by omega) k5⟩
  ·rw[aLH] at hs
   subst hs
   exact⟨by omega,BX,by omega,hc,aZ (by omega) hr⟩
end
def rU (m:List (List Rat)) (i:Nat):Rat:=(m.take i).foldl (fun a r=>if a<dM r then dM r else a) 0
def IL (m:List (List Rat)):Rat:=rU m m.length
theorem Mu {m:List (List Rat)} {i:Nat} {r:List Rat} (h:m[i]? = some r):rU m (i+1)=if rU m i<dM r then dM r else rU m i:=by
 unfold rU
 rw[sH h,aNM]
 rfl
def Ze (d:Rat) (i:Nat) (r:List Rat):List Rat:=(r.map (· / d)).set i (1-dM (r.map (· / d)))
def Ua (m:List (List Rat)):List (List Rat):=vec m.length fun i=>Ze (IL m) i (m.getD i [])
theorem En {qs:List Rat} {B n:Nat} (h:∀q∈qs,aK q≤B) (hn:qs.length≤n):aK (dM qs)≤n*(B+1)+1:=by
 have h1:=Bc h qs.length
 rw[aLO] at h1
 have h2:qs.length*(B+1)≤n*(B+1):=aK2 _ hn
 omega
theorem Lv {m:List (List Rat)} {B n:Nat} (h:∀r∈m,r.length≤n∧∀q∈r,aK q≤B):∀i,aK (rU m i)≤n*(B+1)+1
 |
  0=>by
  show aK 0≤_
  rw[rZ]
  omega
 |
  i+1=>by
  cases hr:m[i]? with
  |
   none =>
   have:rU m (i+1)=rU m i:=by
    unfold rU
    rw[aMr,hr]
    simp
   rw[this]
   exact Lv h i
  |
   some r =>
   rw[Mu hr]
   have:=h r (aLv hr)
   split
   ·exact En this.2 this.1
   ·exact Lv h i
theorem acF {qs:List Rat} {d:Rat} {B D:Nat} (h:∀q∈qs,aK q≤B) (hd:aK d≤D):∀q∈qs.map (· / d),aK q≤B+D+1:=fun q hq=>by
 obtain⟨p,hp,rfl⟩:=aMc.1 hq
 have h1:=h p hp
 have h2:=Dy p d
 omega
end Go.PM
namespace Go.PM
open Go.Lib
theorem KZ {a:Nat} (h:a≤12):a*(665+1)+1≤7993:=by omega
def iD (n i:Nat) (xs:List ByteArray):Option (List Rat):=match tB xs with
 | some r=>if r.length=n∧(r.any fun q=>decide (q<0))=false∧r.getD i 0=0 then some r else none
 | none=>none
def iS (c:List (List ByteArray)):Nat→Option (List (List Rat))
 | 0=>some []
 |
  i+1=>match iS c i,iD c.length i (c.getD i []) with
  | some out,some r=>some (out++[r])
  | _,_=>none
theorem Jt {n i:Nat} {xs:List ByteArray} {r:List Rat} (h:iD n i xs=some r):tB xs=some r∧r.length=n∧(∀q∈r,0≤q)∧r.getD i 0=0:=by
 unfold iD at h
 split at h
 ·rename_i ps hp
  split at h
  ·rename_i hc
   cases h
   refine⟨hp,hc.1,fun q hq => ?_,hc.2.2⟩
   have:=List.any_eq_false.1 hc.2.1 q hq
   exact Rat.not_lt.1 (by simpa using this)
  ·cases h
 ·cases h
theorem Ej {c:List (List ByteArray)} {i:Nat} (h:iS c i=none):∀j,i≤j→iS c j=none:=by
 intro j hj
 induction j with
 |
  zero =>
  have:i=0:=by omega
  subst this
  exact h
 |
  succ j ih =>
  by_cases Qn:i≤j
  ·rw[iS,ih Qn]
  ·have:i=j+1:=by omega
   subst this
   exact h
theorem tM {c:List (List ByteArray)}:∀ {i:Nat} {m:List (List Rat)},iS c i=some m→m.length=i∧∀r∈m,r.length=c.length∧∀q∈r,0≤q∧aK q≤665
 | 0,m,h=>by cases h;exact⟨rfl,fun r hr=>by cases hr⟩
 |
  i+1,m,h=>by
  rw[iS] at h
  split at h
  ·rename_i out r h1 h2
   cases h
   obtain⟨k1,k2⟩:=tM h1
   obtain⟨j1,j2,j3,_⟩:=Jt h2
   refine⟨by rw[aKM,k1];rfl,fun s hs => ?_⟩
   rcases aLx.1 hs with hs | hs
   ·exact k2 s hs
   ·rw[aLH] at hs
    subst hs
    exact⟨j2,fun q hq=>⟨j3 q hq,(nD j1).1 q hq⟩⟩
  ·cases h
theorem Uu {qs:List Rat} (h:∀q∈qs,0≤q):0≤dM qs:=by
 have key:∀i,i≤qs.length→0≤dM (qs.take i):=by
  intro i
  induction i with
  | zero=>intro _;show (0:Rat)≤0;exact aN7
  |
   succ i ih =>
   intro hi
   have hq:qs[i]? = some qs[i]:=aKI (by omega)
   rw[DO hq]
   have h1:=ih (by omega)
   have h2:=h _ (aKO (by omega:i<qs.length))
   grind
 have:=key qs.length (aKB _)
 rwa [aLO] at this
theorem Px {m:List (List Rat)} (h:∀r∈m,0≤dM r):∀i,0≤rU m i∧0≤dM ((m.map dM).take i)∧(dM ((m.map dM).take i)=0↔rU m i=0)∧(((m.take i).any fun r => !decide (dM r=0)) = !decide (rU m i=0))
 | 0=>⟨aN7,aN7,⟨fun _=>rfl,fun _=>rfl⟩,rfl⟩
 |
  i+1=>by
  obtain⟨h1,h2,h3,h4⟩:=Px h i
  cases hr:m[i]? with
  |
   none =>
   have e1:rU m (i+1)=rU m i:=by unfold rU;rw[aMr,hr];simp
   have e2:(m.map dM).take (i+1)=(m.map dM).take i:=by rw[aMr,aN6,hr];simp
   have e3:m.take (i+1)=m.take i:=by rw[aMr,hr];simp
   rw[e1,e2,e3]
   exact⟨h1,h2,h3,h4⟩
  |
   some r =>
   have h0:=h r (aLv hr)
   have I3:(m.map dM)[i]? = some (dM r):=by rw[aN6,hr];rfl
   rw[Mu hr,DO I3,sH hr,List.any_append,h4]
   simp only[List.any_cons,List.any_nil,Bool.or_false]
   by_cases hc:rU m i<dM r
   ·rw[if_pos hc]
    have hp:¬dM r=0:=by grind
    have hs:¬dM ((m.map dM).take i)+dM r=0:=by grind
    refine⟨h0,by grind,⟨fun h=>absurd h hs,fun h=>absurd h hp⟩,by simp[hp]⟩
   ·rw[if_neg hc]
    refine⟨h1,by grind,?_,?_⟩
    ·constructor
     ·intro h;exact h3.1 (by grind)
     ·intro h;have:=h3.2 h;grind
    ·by_cases hz:rU m i=0
     ·have:dM r=0:=by grind
      simp[hz,this]
     ·simp[hz]
theorem aeW {m:List (List Rat)} {n B:Nat} (hm:m.length=n) (hb:∀r∈m,r.length=n∧∀q∈r,aK q≤B) (hn:n≤100) (hB:B≤1000000):(Ua m).length=n∧∀r∈Ua m,r.length=n∧∀q∈r,aK q≤100000000000:=by
 refine⟨by rw[Ua,jM,hm],fun r hr => ?_⟩
 obtain⟨i,hi,rfl⟩:=Jl.1 hr
 have hgi:m[i]? = some m[i]:=aKI hi
 have Mm:=hb _ (aKO hi)
 rw[aKy,hgi,aNP]
 have bm:=Lv (n:=n) (B:=B) (fun r hr=>⟨aN8 (hb r hr).1,(hb r hr).2⟩) m.length
 rw[←IL] at bm
 have qb:=acF Mm.2 bm
 have hl:(m[i].map (· / IL m)).length=n:=by rw[aMi];exact Mm.1
 have b3:=En qb (aN8 hl)
 have m1:n*(B+1)≤100*(B+1):=aK2 _ hn
 have m2:n*(B+(n*(B+1)+1)+1+1)≤100*(B+(n*(B+1)+1)+1+1):=aK2 _ hn
 have b4:=GK 1 (dM (m[i].map (· / IL m)))
 rw[AQ] at b4
 refine⟨by rw[Ze,aMz,hl],ajD (fun q hq => ?_) (by omega)⟩
 have:=qb q hq
 omega
end Go.PM
namespace Go.PM
abbrev Qi:=Nat×Nat×Rat
def Nq (F:Nat→Nat→Rat) (i j:Nat) (q:Rat) (a b:Nat):Rat:=if i≠j∧a=i∧b=j then F a b+q else F a b
theorem afH {F:Nat→Nat→Rat} {i:Nat} {q:Rat}:Nq F i i q=F:=by
 funext a b
 exact if_neg fun h=>h.1 rfl
def JP (F:Nat→Nat→Rat) (L:List Qi):Nat→Nat→Rat:=L.foldl (fun F t=>Nq F t.1 t.2.1 t.2.2) F
def iV (L:List Qi):Nat→Nat→Rat:=JP (fun _ _=>0) L
theorem ID {F:Nat→Nat→Rat} {t:Qi} {L:List Qi}:JP F (t::L)=JP (Nq F t.1 t.2.1 t.2.2) L:=rfl
theorem JM {F:Nat→Nat→Rat} {L M:List Qi}:JP F (L++M)=JP (JP F L) M:=aNM
theorem XX {L:List Qi} {i j:Nat} {q:Rat}:iV (L++[(i,j,q)])=Nq (iV L) i j q:=JM
theorem YY {L:List Qi} {i:Nat} {q:Rat}:iV (L++[(i,i,q)])=iV L:=by rw[XX,afH]
theorem Pn {Q:Nat}:∀(L:List Qi) (F:Nat→Nat→Rat) (B:Nat),(∀t∈L,aK t.2.2≤Q)→(∀a b,aK (F a b)≤B)→∀a b,aK (JP F L a b)≤B+L.length*(Q+1)
 |
  [],F,B,_,hF,a,b=>by
  have:=hF a b
  show aK (F a b)≤_
  omega
 |
  t::L,F,B,hL,hF,a,b=>by
  rw[ID]
  have ht:=hL t aLb
  have:=Pn L (Nq F t.1 t.2.1 t.2.2) (B+(Q+1)) (fun s hs=>hL s (aLa _ hs)) (fun a b=>by
   unfold Nq
   have h1:=hF a b
   have h2:=vE (F a b) t.2.2
   split<;>omega) a b
  rw[aKL,Nat.succ_mul]
  omega
theorem PO {Q:Nat} {L:List Qi} (h:∀t∈L,aK t.2.2≤Q) (a b:Nat):aK (iV L a b)≤1+L.length*(Q+1) :=
 Pn L _ 1 h (fun _ _=>by show aK 0≤1;rw[rZ];exact aKB _) a b
theorem PA:∀(L:List Qi) (F:Nat→Nat→Rat),(∀t∈L,0≤t.2.2)→∀a b,F a b≤JP F L a b
 | [],F,_,a,b=>aN7
 |
  t::L,F,hL,a,b=>by
  rw[ID]
  have ht:=hL t aLb
  have h1:=PA L (Nq F t.1 t.2.1 t.2.2) (fun s hs=>hL s (aLa _ hs)) a b
  have h2:F a b≤Nq F t.1 t.2.1 t.2.2 a b:=by
   unfold Nq
   split<;>grind
  exact Rat.le_trans h2 h1
theorem JB {L:List Qi} (h:∀t∈L,0≤t.2.2) (a b:Nat):0≤iV L a b:=PA L _ h a b
theorem aeL {L:List Qi} {i j:Nat} {q:Rat} (h:∀t∈L,0≤t.2.2) (ht:(i,j,q)∈L) (Qn:i≠j) (hq:0<q):0<iV L i j:=by
 obtain⟨s,r,rfl⟩:=List.append_of_mem ht
 have hs:∀t∈s,0≤t.2.2:=fun t ht=>h t (List.mem_append_left _ ht)
 have hr:∀t∈r,0≤t.2.2:=fun t ht=>h t (List.mem_append_right _ (aLa _ ht))
 have h1:=PA r (Nq (iV s) i j q) hr i j
 have h2:iV (s++(i,j,q)::r)=JP (Nq (iV s) i j q) r:=by
  unfold iV
  rw[JM,ID]
 rw[h2]
 have h3:=JB hs i j
 have h4:Nq (iV s) i j q i j=iV s i j+q:=if_pos ⟨Qn,rfl,rfl⟩
 rw[h4] at h1
 grind
theorem atO {qs:List Rat} (h:∀q∈qs,0≤q) {q:Rat} (hq:q∈qs):q≤dM qs:=by
 have key:∀i,i≤qs.length→0≤dM (qs.take i)∧∀p∈qs.take i,p≤dM (qs.take i):=by
  intro i
  induction i with
  | zero=>intro _;exact⟨by show (0:Rat)≤0;exact aN7,by simp⟩
  |
   succ i ih =>
   intro hi
   have hq:qs[i]? = some qs[i]:=aKI (by omega)
   obtain⟨h1,h2⟩:=ih (by omega)
   have h3:=h _ (aKO (by omega:i<qs.length))
   rw[DO hq]
   refine⟨by grind,fun p hp => ?_⟩
   rw[sH hq] at hp
   rcases aLx.1 hp with hp | hp
   ·have:=h2 p hp
    grind
   ·rw[aLH] at hp
    subst hp
    grind
 have:=(key qs.length (aKB _)).2
 rw[aLO] at this
 exact this q hq
theorem YC {N:Nat} {L:List Qi} {i j:Nat} {q:Rat} (h:∀t∈L,0≤t.2.2) (ht:(i,j,q)∈L) (Qn:i≠j) (hq:0<q) (hi:i<N) (hj:j<N):IL (QH N N (iV L))≠0:=by
 have hnn:∀r∈QH N N (iV L),∀q∈r,0≤q:=fun r hr q hq=>by
  obtain⟨a,_,rfl⟩:=Zt hr
  obtain⟨b,_,rfl⟩:=Jl.1 hq
  exact JB h a b
 obtain⟨_,_,_,h4⟩:=Px (fun r hr=>Uu (hnn r hr)) (QH N N (iV L)).length
 rw[aLO] at h4
 intro h0
 rw[←IL,h0,decide_eq_true rfl,Bool.not_true] at h4
 have lT:=aLv (NM (m:=N) (F:=iV L) hi)
 have h5:=List.any_eq_false.1 h4 _ lT
 have h6:=atO (hnn _ lT) (q:=iV L i j) (Jl.2 ⟨j,hj,rfl⟩)
 have h7:=aeL h ht Qn hq
 simp only[Bool.not_eq_true',decide_eq_false_iff_not,not_true_eq_false,Classical.not_not] at h5
 rw[h5] at h6
 grind
theorem Yc {Q N:Nat} {L:List Qi} (h:∀t∈L,aK t.2.2≤Q):∀r∈QH N N (iV L),r.length=N∧∀q∈r,aK q≤1+L.length*(Q+1):=fun r hr=>by
 obtain⟨a,_,rfl⟩:=Zt hr
 refine⟨jM ..,fun q hq => ?_⟩
 obtain⟨b,_,rfl⟩:=Jl.1 hq
 exact PO h a b
end Go.PM
namespace Go.PM
theorem fR (q:Rat):(aB (aF q)).all bN=true:=rfl
def OQ (F:Nat→Nat→Rat) (i j:Nat) (y:Rat) (a b:Nat):Rat:=if a=i∧b=j then y else F a b
def Tb (f:Rat→VV) (lo hi N M b g:Nat) (F:Nat→Nat→Rat) (H:aA):Prop:=∃rs,MG f 3 lo hi b g H rs∧rs.map (·.xs)=QH N M F
def QJ (lo hi:Nat) (H H':aA):Prop:=H'.length=H.length∧∀b g x,b<lo∨hi≤b→aG H b g=some x→aG H' b g=some x
theorem QJ.refl {lo hi:Nat} {H:aA}:QJ lo hi H H:=⟨rfl,fun _ _ _ _ h=>h⟩
section
variable {f:Rat→VV} {lo hi N M b g:Nat} {F:Nat→Nat→Rat} {H H':aA}
theorem Tb.dB (h:Tb f lo hi N M b g F H) (hk:jY lo hi H H'):Tb f lo hi N M b g F H':=by
 obtain⟨rs,h1,h2⟩:=h
 exact⟨rs,h1.dB hk,h2⟩
theorem Tb.pre (h:Tb f lo hi N M b g F H) (hh:H <+: H'):Tb f lo hi N M b g F H':=h.dB (jY.pre hh)
theorem Tb.congr {G:Nat→Nat→Rat} (h:Tb f lo hi N M b g F H) (hF:∀a c,a<N→c<M→F a c=G a c):Tb f lo hi N M b g G H:=by
 obtain⟨rs,h1,h2⟩:=h
 exact⟨rs,h1,h2.trans (Le hF)⟩
theorem Tb.lt (h:Tb f lo hi N M b g F H):lo≤b∧b<hi∧b<H.length:=by
 obtain⟨rs,h1,_⟩:=h
 exact⟨h1.blo,h1.bhi,iT h1.out⟩
theorem Tb.addr {c i:Nat} (h:Tb f lo hi N M b g F H) (qL:i<N):bK 1 (.ref b g 0 N c) (VI i) H=some (.ptr b g i 0):=by
 obtain⟨rs,h1,_⟩:=h
 exact h1.addr qL
theorem Tb.len {c:Nat} (h:Tb f lo hi N M b g F H):rL (.ref b g 0 N c) H=some (VI N):=by
 obtain⟨rs,h1,_⟩:=h
 exact h1.len
theorem Tb.fz {d c:Nat} (h:Tb f lo hi N M b g F H) (hc:N≤c) (hp:∀x,bA (f x)=true):PM.fz (d+3) H (.ref b g 0 N c)=some (aC (aC f) (QH N M F)):=by
 obtain⟨rs,h1,h2⟩:=h
 have hl:=congrArg aNL h2
 rw[aMi,Cf] at hl
 rw[←h2,←hl]
 exact h1.fz (by omega) hp
theorem TabIs.tb {v:VV} (h:TabIs f 3 (QH N M F) lo hi H v):∃b g c,v = .ref b g 0 N c∧N≤c∧Tb f lo hi N M b g F H:=by
 obtain⟨b,g,c,rs,h1,h2,h3,h4⟩:=h
 rw[Cf] at h1 h2
 exact⟨b,g,c,h1,h2,rs,h3,h4⟩
theorem Tb.spot {i j:Nat} (h:Tb f lo hi N M b g F H) (qL:i<N) (hj:j<M) (hfs:∀x,(aB (f x)).length=3) (hfa:∀x,(aB (f x)).all bN=true) :
  ∃rb rg rc,bH false 1 (.ptr b g i 0) H=some (.ref rb rg 0 M rc)∧bK 3 (.ref rb rg 0 M rc) (VI j) H=some (.ptr rb rg j 0)∧(∀ag,bH ag 3 (.ptr rb rg j 0) H=dP ag 3 (f (F i j)) 0) ∧
  ∀gF y,gF≤lo→∃H',bL gF 3 (.ptr rb rg j 0) (f y) H=some H'∧QJ lo hi H H'∧Tb f lo hi N M b g (OQ F i j y) H'∧∀k,bH false 1 (.ptr b g k 0) H'=bH false 1 (.ptr b g k 0) H:=by
 obtain⟨rs,hM,hx⟩:=h
 have hl:=congrArg aNL hx
 rw[aMi,Cf] at hl
 obtain⟨r,hr⟩:∃r,rs[i]? = some r:=⟨_,aKI (by omega)⟩
 have Na:r.xs=vec M (F i):=by
  have h1:(rs.map (·.xs))[i]? = some r.xs:=by rw[aN6,hr];rfl
  rw[hx,NM qL] at h1
  exact(Option.some.inj h1).symm
 have BX:r.xs.length=M:=by rw[Na,jM]
 have hgj:r.xs[j]? = some (F i j):=by rw[Na,wL hj]
 refine⟨r.b,r.g,r.c,?_,hM.at hr hj,fun ag=>hM.get hr hgj,fun gF y dS => ?_⟩
 ·have:=hM.cell hr
  rw[BX] at this
  exact this
 ·have h1:=hM.put (j:=j) (gF:=gF) (y:=y) hr (by omega) dS (hfs y) (hfa y)
  have h2:=hM.set (ys:=r.xs.set j y) hr (by rw[aMz])
  have Mm:=hM.rows.row r (aLv hr)
  refine⟨_,h1,⟨by rw[aMz],fun b' g' x xJ Kg=>aZ (by have h7:=Mm.1;have h8:=Mm.2.1;omega) Kg⟩,⟨_,h2,?_⟩,fun k => ?_⟩
  ·have e:(rs.set i { r with xs:=r.xs.set j y }).map (fun r:CQ Rat=>r.xs)=(rs.map (fun r:CQ Rat=>r.xs)).set i (r.xs.set j y):=aN9
   rw[e,hx,Na,ND,SB]
   exact Le fun a c _ _=>by unfold OQ;by_cases ha:a=i<;>by_cases hc:c=j<;>simp[ha,hc]
  ·rw[bJ,bJ,aZ Mm.2.2.1 hM.out,hM.out]
end
theorem aoD {N:Nat}:aLr N (aLr N (0:Rat))=QH N N fun _ _=>0:=acA
end Go.PM
namespace Go.PM
def Dl (s:Int) (g:Nat) (a:Rat):Prop:=∃M:Int,a*(s:Rat)=(M:Rat)∧M.natAbs<2^g
theorem Dl.bits {s:Int} {g:Nat} {a:Rat} (h:Dl s g a) (hs:s≠0) (hg:s.natAbs<2^g):aK a≤g:=by
 obtain⟨M,hM,hl⟩:=h
 have h1:1≤g:=by
  cases g with
  | zero=>simp at hg;omega
  | succ g=>omega
 have hsr:(s:Rat)≠0:=by
  intro h
  exact hs (by exact_mod_cast h)
 have ha:a=(M:Rat) / (s:Rat):=by grind
 rcases Int.lt_or_gt_of_ne hs with mI | jZ
 ·have e:a=mkRat (-M) s.natAbs:=by
   rw[Rat.mkRat_eq_div]
   have:((s.natAbs:Nat):Int) = -s:=by omega
   have e2:((s.natAbs:Nat):Rat) = -(s:Rat):=by
    rw[←Rat.intCast_natCast,this,Rat.intCast_neg]
   rw[e2,Rat.intCast_neg,ha]
   grind
  rw[e]
  exact DD (by rw[Int.natAbs_neg];exact zO hl) (zO hg) h1
 ·have e:a=mkRat M s.natAbs:=by
   rw[Rat.mkRat_eq_div]
   have:((s.natAbs:Nat):Int)=s:=by omega
   have e2:((s.natAbs:Nat):Rat)=(s:Rat):=by
    rw[←Rat.intCast_natCast,this]
   rw[e2,ha]
  rw[e]
  exact DD (zO hl) (zO hg) h1
def qD (g n m:Nat) (A:Nat→Nat→Rat):Prop:=∃s:Int,s≠0∧s.natAbs<2^g∧∀i j,i<n→j<m→Dl s g (A i j)
theorem qD.bits {g n m:Nat} {A:Nat→Nat→Rat} (h:qD g n m A) {i j:Nat} (hi:i<n) (hj:j<m):aK (A i j)≤g:=by
 obtain⟨s,h1,h2,h3⟩:=h
 exact(h3 i j hi hj).bits h1 h2
theorem Wq (a b:Nat):2^a*2^b=2^(a+b):=(aMP 2 a b).symm
theorem zB {x y:Int} {g:Nat} (hx:x.natAbs<2^g) (hy:y.natAbs<2^g):(x*y).natAbs<2^(2*g):=by
 rw[aNf,show 2*g=g+g by omega,←Wq]
 exact aOa hx hy
theorem qD.Hr {g n m k:Nat} {A:Nat→Nat→Rat} {c:Nat→Rat} (h:qD g n m A) (hk:k<n) (hkm:k<m) (S9:A k k≠0) (hc:∀i,i<n→c i=0∨c i=A i k / A k k):qD (2*g+1) n m (Hr c k A):=by
 obtain⟨s,h1,h2,h3⟩:=h
 obtain⟨K,hK,hKl⟩:=h3 k k hk hkm
 have hsr:(s:Rat)≠0:=fun h=>h1 (by exact_mod_cast h)
 have hKr:(K:Rat)≠0:=by
  rw[←hK]
  grind
 have hK0:K≠0:=by
  intro h
  rw[h] at hKr
  exact hKr rfl
 have hp:2^(2*g+1)=2^(2*g)+2^(2*g):=by rw[aL2];omega
 refine⟨s*K,Int.mul_ne_zero h1 hK0,by have:=zB h2 hKl;omega,fun i j hi hj => ?_⟩
 obtain⟨M,hM,hMl⟩:=h3 i j hi hj
 obtain⟨N,hN,hNl⟩:=h3 i k hi hkm
 obtain⟨R,hR,hRl⟩:=h3 k j hk hj
 rcases hc i hi with hci | hci
 ·refine⟨M*K,?_,by have:=zB hMl hKl;omega⟩
  unfold Go.PM.Hr
  rw[hci,aOb,aOb,←hM]
  grind
 ·refine⟨M*K-N*R,?_,?_⟩
  ·unfold Go.PM.Hr
   rw[hci,aOb,Rat.intCast_sub,aOb,aOb,←hM,←hN,←hR,←hK]
   grind
  ·have e1:=zB hMl hKl
   have e2:=zB hNl hRl
   have e3:(M*K-N*R).natAbs≤(M*K).natAbs+(N*R).natAbs:=by omega
   omega
theorem qD.swp {g n m k r:Nat} {A:Nat→Nat→Rat} (h:qD g n m A) (hk:k<n) (hr:r<n):qD g n m (swp k r A):=by
 obtain⟨s,h1,h2,h3⟩:=h
 refine⟨s,h1,h2,fun i j hi hj => ?_⟩
 unfold Go.PM.swp
 split
 ·exact h3 r j hr hj
 ·split
  ·exact h3 k j hk hj
  ·exact h3 i j hi hj
def rhs (n:Nat) (B:Nat→Nat→Rat):Nat→Rat:=fun i=>B i n
theorem asB {n k r:Nat} {B:Nat→Nat→Rat}:rhs n (swp k r B)=swp k r (rhs n B):=by
 funext i
 unfold rhs swp
 split
 ·rfl
 ·split<;>rfl
theorem B0.ahQ {n g:Nat} {B:Nat→Nat→Rat} (hF:B0 n B) (hS:qD g n (n+1) B):∀k,k≤n →
  ∃B',Nb n k B'∧B0 n B'∧qD (2^k*(g+1)-1) n (n+1) B'∧∀x,eU n B' (rhs n B') x↔eU n B (rhs n B) x
 | 0,_=>⟨B,⟨fun _ _ _ h _=>absurd h (Nat.not_lt_zero _),fun _ h=>absurd h (Nat.not_lt_zero _)⟩,hF,by simpa using hS,fun _=>Iff.rfl⟩
 |
  k+1,hk=>by
  obtain⟨B',h1,h2,h3,h4⟩:=B0.ahQ hF hS k (by omega)
  obtain⟨m,QK,YL,hm3⟩:=h2.ahT (by omega) h1.upper
  have g1:=h1.swp QK YL
  have g2:=Oo (k:=k) (m:=m) (by omega) YL h2
  have g3:=h3.swp (k:=k) (r:=m) (by omega) YL
  have S9:swp k m B' k k≠0:=by
   unfold Go.PM.swp
   rw[if_pos rfl]
   exact hm3
  have hck:(fun i=>if i=k then 0 else swp k m B' i k / swp k m B' k k) k=0:=if_pos rfl
  refine⟨Hr (fun i=>if i=k then 0 else swp k m B' i k / swp k m B' k k) k (swp k m B'),g1.step S9 (by omega),Pc (by omega) hck g2,?_,fun x => ?_⟩
  ·have e:2^(k+1)*(g+1)-1=2*(2^k*(g+1)-1)+1:=by
    have h0:0<2^k*(g+1):=Nat.mul_pos (aOc _) (by omega)
    have:2^(k+1)*(g+1)=2*(2^k*(g+1)):=by rw[aL2];grind
    omega
   rw[e]
   refine g3.Hr (by omega) (by omega) S9 fun i hi => ?_
   by_cases Wn:i=k
   ·exact .inl (if_pos Wn)
   ·exact .inr (if_neg Wn)
  ·have e1:=DU (n:=n) (k:=k) (b:=rhs n (swp k m B')) (x:=x) (c:=fun i=>if i=k then 0 else swp k m B' i k / swp k m B' k k) (A:=swp k m B') (by omega) hck
   have e2:=D4 (n:=n) (k:=k) (m:=m) (b:=rhs n B') (x:=x) (A:=B') (by omega) YL
   rw[←asB] at e2
   exact(e1.trans e2).trans (h4 x)
theorem B0.ajX {n g:Nat} {B:Nat→Nat→Rat} (hF:B0 n B) (hS:qD g n (n+1) B):∃X,eU n B (rhs n B) X∧∀i,i<n→aK (X i)≤2*(2^n*(g+1)):=by
 obtain⟨B',h1,h2,h3,h4⟩:=B0.ahQ hF hS n (aKB _)
 refine⟨fun i=>rhs n B' i / B' i i,(h4 _).1 (h1.alH _),fun i hi => ?_⟩
 have b1:=h3.bits hi (Nat.lt_succ_self n)
 have b2:=h3.bits hi (show i<n+1 by omega)
 have b3:=Dy (B' i n) (B' i i)
 show aK (B' i n / B' i i)≤_
 omega
end Go.PM
namespace Go.PM
theorem Dl.wide {s:Int} {g g':Nat} {a:Rat} (h:Dl s g a) (hg:g≤g'):Dl s g' a:=by
 obtain⟨M,h1,h2⟩:=h
 exact⟨M,h1,Nat.lt_of_lt_of_le h2 (aME (by decide) hg)⟩
theorem Dl.zero {s:Int} {g:Nat}:Dl s g 0:=⟨0,by simp,by simpa using aOc g⟩
theorem Dl.mul {s t:Int} {g h:Nat} {a b:Rat} (ha:Dl s g a) (hb:Dl t h b):Dl (s*t) (g+h) (a*b):=by
 obtain⟨M,m1,m2⟩:=ha
 obtain⟨N,n1,n2⟩:=hb
 refine⟨M*N,?_,?_⟩
 ·rw[aOb,aOb,←m1,←n1]
  grind
 ·rw[aNf,aMP]
  exact aOa m2 n2
theorem Dl.sum {s:Int} {g:Nat} {f:Nat→Rat}:∀ {n:Nat},(∀j,j<n→Dl s g (f j))→∃M:Int,Sg f n*(s:Rat)=(M:Rat)∧M.natAbs≤n*(2^g-1)
 | 0,_=>⟨0,by simp[Sg],by simp⟩
 |
  n+1,h=>by
  obtain⟨M,m1,m2⟩:=Dl.sum (n:=n) fun j hj=>h j (by omega)
  obtain⟨N,n1,n2⟩:=h n (by omega)
  refine⟨M+N,?_,?_⟩
  ·rw[Sg,Rat.add_mul,m1,n1,Rat.intCast_add]
  ·have:=Int.natAbs_add_le M N
   rw[Nat.add_mul]
   omega
theorem Dl.ajJ {s:Int} {g n:Nat} {f:Nat→Rat} (hn:n≤16) (h:∀j,j<n→Dl s g (f j)):Dl s (g+4) (Sg f n):=by
 obtain⟨M,m1,m2⟩:=Dl.sum h
 refine⟨M,m1,?_⟩
 have h1:n*(2^g-1)≤16*(2^g-1):=aK2 _ hn
 have h2:=aOc g
 rw[aMP]
 omega
def dH (h n:Nat) (X:Nat→Rat):Prop:=∃t:Int,t≠0∧t.natAbs<2^h∧∀i,i<n→Dl t h (X i)
theorem dH.bits {h n:Nat} {X:Nat→Rat} (hX:dH h n X) {i:Nat} (hi:i<n):aK (X i)≤h:=by
 obtain⟨t,h1,h2,h3⟩:=hX
 exact(h3 i hi).bits h1 h2
theorem qD.row {g n m:Nat} {A:Nat→Nat→Rat} (h:qD g n m A) {i:Nat} (hi:i<n):dH g m (A i):=by
 obtain⟨s,h1,h2,h3⟩:=h
 exact⟨s,h1,h2,fun j hj=>h3 i j hi hj⟩
theorem dH.mix {g h n:Nat} {c X:Nat→Rat} (hc:dH g n c) (hX:dH h n X) (hn:n≤16):aK (Sg (fun j=>c j*X j) n)≤g+h+4:=by
 obtain⟨s,s1,s2,s3⟩:=hc
 obtain⟨t,t1,t2,t3⟩:=hX
 have h1:=Dl.ajJ (s:=s*t) (g:=g+h) hn fun j hj=>(s3 j hj).mul (t3 j hj)
 refine h1.bits (Int.mul_ne_zero s1 t1) ?_
 rw[aNf]
 have h2:s.natAbs*t.natAbs<2^g*2^h:=aOa s2 t2
 rw[←aMP] at h2
 exact Nat.lt_of_lt_of_le h2 (aME (by decide) (by omega))
theorem dH.some {g n:Nat} {c:Nat→Rat} (hc:dH g n c) (p:Nat→Prop) [DecidablePred p]:dH g n fun j=>if p j then 0 else c j:=by
 obtain⟨s,s1,s2,s3⟩:=hc
 refine⟨s,s1,s2,fun j hj => ?_⟩
 by_cases h:p j
 ·simp only[h,if_true]
  exact Dl.zero
 ·simp only[h,if_false]
  exact s3 j hj
structure X6 (n k g:Nat) (A:Nat→Nat→Rat) (b X:Nat→Rat):Prop where
 f:B0 n A
 u:Bn n k A
 s:eU n A b X
 z:qD g n n A
structure DgS (n k g:Nat) (A:Nat→Nat→Rat) (b X:Nat→Rat):Prop where
 f:B0 n A
 u:Nb n k A
 s:eU n A b X
 z:qD g n n A
section
variable {n k m g h:Nat} {A:Nat→Nat→Rat} {b X:Nat→Rat}
theorem X6.swp (H:X6 n k g A b X) (hk:k≤m) (hm:m<n):X6 n k g (swp k m A) (swp k m b) X :=
 ⟨Oo (by omega) hm H.f,H.u.swp hk hm,(D4 (by omega) hm).2 H.s,H.z.swp (by omega) hm⟩
theorem DgS.swp (H:DgS n k g A b X) (hk:k≤m) (hm:m<n):DgS n k g (swp k m A) (swp k m b) X :=
 ⟨Oo (by omega) hm H.f,H.u.swp hk hm,(D4 (by omega) hm).2 H.s,H.z.swp (by omega) hm⟩
def Nn (k:Nat) (A:Nat→Nat→Rat):Nat→Rat:=fun i=>if k<i then A i k / A k k else 0
def cDg (k:Nat) (A:Nat→Nat→Rat):Nat→Rat:=fun i=>if i=k then 0 else A i k / A k k
theorem X6.step (H:X6 n k g A b X) (S9:A k k≠0) (hk:k<n):X6 n (k+1) (2*g+1) (Hr (Nn k A) k A) (T6 (Nn k A) k b) X:=by
 have hc:Nn k A k=0:=if_neg (Nat.lt_irrefl _)
 refine⟨Pc hk hc H.f,H.u.step S9 hk,(DU hk hc).2 H.s,H.z.Hr hk hk S9 fun i _ => ?_⟩
 unfold Nn
 by_cases h:k<i
 ·exact .inr (if_pos h)
 ·exact .inl (if_neg h)
theorem DgS.step (H:DgS n k g A b X) (S9:A k k≠0) (hk:k<n):DgS n (k+1) (2*g+1) (Hr (cDg k A) k A) (T6 (cDg k A) k b) X:=by
 have hc:cDg k A k=0:=if_pos rfl
 refine⟨Pc hk hc H.f,H.u.step S9 hk,(DU hk hc).2 H.s,H.z.Hr hk hk S9 fun i _ => ?_⟩
 unfold cDg
 by_cases h:i=k
 ·exact .inl (if_pos h)
 ·exact .inr (if_neg h)
theorem X6.right (H:X6 n k g A b X) (hX:dH h n X) (hn:n≤16) {i:Nat} (hi:i<n):aK (b i)≤g+h+4:=by
 rw[←H.s i hi]
 exact(H.z.row hi).mix hX hn
theorem DgS.right (H:DgS n k g A b X) (hX:dH h n X) (hn:n≤16) {i:Nat} (hi:i<n):aK (b i)≤g+h+4:=by
 rw[←H.s i hi]
 exact(H.z.row hi).mix hX hn
theorem DgS.done (H:DgS n n g A b X) {i:Nat} (hi:i<n):X i=b i / A i i:=(H.f.uniq H.s (H.u.alH b)) i hi
def bk (A:Nat→Nat→Rat) (b X:Nat→Rat) (k j:Nat):Rat:=b k-(Sg (fun m=>A k m*X m) j-Sg (fun m=>A k m*X m) (k+1))
theorem akM:bk A b X k (k+1)=b k:=by unfold bk;grind
theorem apJ {j:Nat}:bk A b X k (j+1)=bk A b X k j-A k j*X j:=by unfold bk;rw[Sg];grind
theorem azT {f:Nat→Rat} {a:Nat}:∀ {j n:Nat},a≤j→j≤n→Sg f n-(Sg f j-Sg f a)=Sg (fun m=>if a≤m∧m<j then 0 else f m) n:=by
 intro j n haj Ew
 induction n with
 |
  zero =>
  have h1:j=0:=by omega
  have h2:a=0:=by omega
  subst h1 h2
  simp only[Sg]
  grind
 |
  succ n ih =>
  by_cases hj:j=n+1
  ·subst hj
   have e:Sg (fun m=>if a≤m∧m<n+1 then 0 else f m) (n+1)=Sg f a:=by
    clear ih Ew
    have key:∀k,Sg (fun m=>if a≤m∧m<n+1 then 0 else f m) (min k a)=Sg f (min k a):=fun k=>gT fun i hi=>if_neg (by omega)
    have h1:=key (n+1)
    have h2:∀d,a+d≤n+1→Sg (fun m=>if a≤m∧m<n+1 then 0 else f m) (a+d)=Sg (fun m=>if a≤m∧m<n+1 then 0 else f m) a:=by
     intro d
     induction d with
     | zero=>intro _;rfl
     |
      succ d ih =>
      intro hd
      rw[←Nat.add_assoc,Sg,ih (by omega),if_pos ⟨by omega,by omega⟩]
      grind
    have h3:=h2 (n+1-a) (by omega)
    rw[show a+(n+1-a)=n+1 by omega] at h3
    rw[h3]
    have h4:=key a
    rwa [Nat.min_self] at h4
   rw[e]
   grind
  ·rw[Sg,Sg,←ih (by omega),if_neg (by omega)]
   grind
theorem X6.part (H:X6 n n g A b X) (hX:dH h n X) (hn:n≤16) {j:Nat} (hk:k<n) (hj:k+1≤j) (Ew:j≤n):aK (bk A b X k j)≤g+h+4:=by
 have e:bk A b X k j=Sg (fun m=>(if k+1≤m∧m<j then 0 else A k m)*X m) n:=by
  unfold bk
  rw[←H.s k hk,azT hj Ew]
  refine gT fun m _ => ?_
  by_cases hm:k+1≤m∧m<j
  ·rw[if_pos hm,if_pos hm];grind
  ·rw[if_neg hm,if_neg hm]
 rw[e]
 exact((H.z.row hk).some fun m=>k+1≤m∧m<j).mix hX hn
theorem X6.back (H:X6 n n g A b X) (hk:k<n):X k=bk A b X k n / A k k:=H.u.back H.s hk
end
def gk (g:Nat):Nat→Nat
 | 0=>g
 | k+1=>2*gk g k+1
theorem avI {g:Nat}:∀ {k n:Nat},k≤n→gk g k≤2^n*(g+1)
 |
  0,n,_=>by
  have:=Nat.one_le_two_pow (n:=n)
  have h:1*(g+1)≤2^n*(g+1):=aK2 _ this
  show g≤_
  omega
 |
  k+1,n,hk=>by
  have key:∀k,gk g k+1=2^k*(g+1):=by
   intro k
   induction k with
   | zero=>simp[gk]
   | succ k ih=>rw[gk,aL2];grind
  have h1:=key (k+1)
  have h2:2^(k+1)*(g+1)≤2^n*(g+1):=aK2 _ (aME (by decide) hk)
  omega
end Go.PM
namespace Go.PM
theorem Tb.swap {f:Rat→VV} {lo hi N M b g:Nat} {F:Nat→Nat→Rat} {H:aA} (h:Tb f lo hi N M b g F H) {k m:Nat} (hk:k<N) (hm:m<N) :
  ∃u v,bH false 1 (.ptr b g k 0) H=some u∧bH false 1 (.ptr b g m 0) H=some v∧∀gF,gF≤lo→∃H1 H2,bL gF 1 (.ptr b g k 0) v H=some H1∧(∀c,bK 1 (.ref b g 0 N c) (VI m) H1=some (.ptr b g m 0))∧bL gF 1 (.ptr b g m 0) u H1=some H2∧QJ lo hi H H1∧QJ lo hi H H2∧Tb f lo hi N M b g (swp k m F) H2:=by
 obtain⟨rs,hM,hx⟩:=h
 have hl:=congrArg aNL hx
 rw[aMi,Cf] at hl
 have hkl:k<rs.length:=by omega
 have hml:m<rs.length:=by omega
 have hrk:rs[k]? = some rs[k]:=aKI hkl
 have Mm:rs[m]? = some rs[m]:=aKI hml
 have Na:∀i (hi:i<rs.length),rs[i].xs=vec M (F i):=fun i hi=>by
  have h1:(rs.map (·.xs))[i]? = some rs[i].xs:=by rw[aN6,aKI hi];rfl
  rw[hx,NM (by omega)] at h1
  exact(Option.some.inj h1).symm
 have auY:((rs.set k rs[m]).set m rs[k]).Perm rs:=List.set_set_perm hkl hml
 refine⟨_,_,hM.cell hrk,hM.cell Mm,fun gF dS => ?_⟩
 have s1:=dQ (f:=tR) (e:=1) (x:=rs[m]) (j:=k) (lo:=gF) hM.out hkl (aKC dS hM.blo) rfl rfl
 have o1:=bQ (es:=(rs.set k rs[m]).map tR) (e:=1) (w:=true) (g:=g) hM.out
 have s2:=dQ (f:=tR) (e:=1) (x:=rs[k]) (j:=m) (lo:=gF) o1 (by rw[aMz];exact hml) (aKC dS hM.blo) rfl rfl
 have o2:=bQ (es:=((rs.set k rs[m]).set m rs[k]).map tR) (e:=1) (w:=true) (g:=g) o1
 have GZ:=hM.blo
 have hb2:=hM.bhi
 refine⟨_,_,s1,fun c => ?_,s2,⟨by rw[aMz],fun b' g' x xJ h=>aZ (by omega) h⟩,⟨by rw[aMz,aMz],fun b' g' x xJ h=>aZ (by omega) (aZ (by omega) h)⟩,(rs.set k rs[m]).set m rs[k],⟨o2,hM.blo,hM.bhi,?_,fun r hr => ?_⟩,?_⟩
 ·have:=bB (o:=0) (n:=N) (c:=c) (i:=m) (k := .i64) o1 hm
  rwa [aL9] at this
 ·exact(auY.map (·.b)).nodup_iff.2 hM.rows.nd
 ·obtain⟨k1,k2,k3,k4,k5⟩:=hM.rows.row r (auY.mem_iff.1 hr)
  exact⟨k1,k2,k3,k4,aZ (Ne.symm k3) (aZ (Ne.symm k3) k5)⟩
 ·have e:((rs.set k rs[m]).set m rs[k]).map (fun r:CQ Rat=>r.xs)=((rs.map (fun r:CQ Rat=>r.xs)).set k rs[m].xs).set m rs[k].xs:=by rw[aN9,aN9]
  rw[e,hx,Na m hml,Na k hkl,SB,SB]
  refine Le fun a c _ _ => ?_
  unfold swp
  by_cases h1:a=m
  ·subst h1
   rw[if_pos rfl]
   by_cases h2:a=k
   ·subst h2;rw[if_pos rfl]
   ·rw[if_neg h2,if_pos rfl]
  ·rw[if_neg h1]
   by_cases h2:a=k
   ·rw[if_pos h2,if_pos h2]
   ·rw[if_neg h2,if_neg h2,if_neg h1]
def zR (bb:Nat→Rat) (i:Nat) (y:Rat) (j:Nat):Rat:=if j=i then y else bb j
def Rw (f:Rat→VV) (rb rg n:Nat) (bb:Nat→Rat) (H:aA):Prop:=aG H rb rg=some ((vec n bb).map f,3,true)
section
variable {f:Rat→VV} {rb rg n i:Nat} {bb:Nat→Rat} {H:aA}
theorem Rw.addr {c:Nat} (h:Rw f rb rg n bb H) (hi:i<n):bK 3 (.ref rb rg 0 n c) (VI i) H=some (.ptr rb rg i 0):=by
 have:=bB (o:=0) (n:=n) (c:=c) (i:=i) (k := .i64) h hi
 rwa [aL9] at this
theorem Rw.get (h:Rw f rb rg n bb H) (hi:i<n) (ag:Bool):bH ag 3 (.ptr rb rg i 0) H=dP ag 3 (f (bb i)) 0:=qC (f:=f) h (wL hi)
theorem Rw.put {lo:Nat} (h:Rw f rb rg n bb H) (hi:i<n) (dS:lo≤rb) (hfs:∀x,(aB (f x)).length=3) (hfa:∀x,(aB (f x)).all bN=true) (y:Rat) :
  ∃H',bL lo 3 (.ptr rb rg i 0) (f y) H=some H'∧H'.length=H.length∧(∀b g x,b≠rb→aG H b g=some x→aG H' b g=some x)∧Rw f rb rg n (zR bb i y) H':=by
 have s:=dQ (lo:=lo) (f:=f) (x:=y) (j:=i) h (by rw[jM];exact hi) dS (hfs y) (hfa y)
 rw[ND] at s
 exact⟨_,s,by rw[aMz],fun b g x hb h=>aZ (Ne.symm hb) h,bQ h⟩
theorem Rw.congr {IK:Nat→Rat} (h:Rw f rb rg n bb H) (he:∀j,j<n→bb j=IK j):Rw f rb rg n IK H:=by
 unfold Rw at *
 rw[←vB he]
 exact h
end
structure Sy (f:Rat→VV) (lo hi n b g rb rg:Nat) (A:Nat→Nat→Rat) (bb:Nat→Rat) (H:aA):Prop where
 t:Tb f lo hi n n b g A H
 r:Rw f rb rg n bb H
 d:rb<lo∨hi≤rb
def C9 (lo hi rb:Nat) (H H':aA):Prop:=H.length≤H'.length∧∀b g x,(b<lo∨hi≤b)→b≠rb→aG H b g=some x→aG H' b g=some x
theorem C9.refl {lo hi rb:Nat} {H:aA}:C9 lo hi rb H H:=⟨aKB _,fun _ _ _ _ _ h=>h⟩
theorem C9.trans {lo hi rb:Nat} {H H' W4:aA} (h:C9 lo hi rb H H') (h':C9 lo hi rb H' W4):C9 lo hi rb H W4:=⟨aKC h.1 h'.1,fun b g x h1 h2 h3=>h'.2 b g x h1 h2 (h.2 b g x h1 h2 h3)⟩
theorem C9.app {lo hi rb:Nat} {H L:aA}:C9 lo hi rb H (H++L):=⟨by simp,fun _ _ _ _ _ h=>dU h⟩
theorem QJ.aCx {lo hi rb:Nat} {H H':aA} (h:QJ lo hi H H'):C9 lo hi rb H H':=⟨aN8 h.1.symm,fun b g x h1 _ h3=>h.2 b g x h1 h3⟩
section
variable {f:Rat→VV} {lo hi n b g rb rg i j:Nat} {A:Nat→Nat→Rat} {bb:Nat→Rat} {H H':aA}
theorem Sy.app {L:aA} (h:Sy f lo hi n b g rb rg A bb H):Sy f lo hi n b g rb rg A bb (H++L):=⟨h.t.pre (aMv _ _),dU h.r,h.d⟩
theorem Sy.congr {A':Nat→Nat→Rat} {IK:Nat→Rat} (h:Sy f lo hi n b g rb rg A bb H) (h1:∀a c,a<n→c<n→A a c=A' a c) (h2:∀a,a<n→bb a=IK a):Sy f lo hi n b g rb rg A' IK H:=⟨h.t.congr h1,h.r.congr h2,h.d⟩
theorem Sy.spot (h:Sy f lo hi n b g rb rg A bb H) (qL:i<n) (hj:j<n) (hfs:∀x,(aB (f x)).length=3) (hfa:∀x,(aB (f x)).all bN=true) :
  ∃p q,bH false 1 (.ptr b g i 0) H=some p∧bK 3 p (VI j) H=some q∧(∀ag,bH ag 3 q H=dP ag 3 (f (A i j)) 0) ∧
  ∀gF y,gF≤lo→∃H',bL gF 3 q (f y) H=some H'∧C9 lo hi rb H H'∧Sy f lo hi n b g rb rg (OQ A i j y) bb H':=by
 obtain⟨rb1,rg1,rc1,c1,c2,c3,c4⟩:=h.t.spot qL hj hfs hfa
 refine⟨_,_,c1,c2,c3,fun gF y dS => ?_⟩
 obtain⟨H',d1,d2,d3,_⟩:=c4 gF y dS
 exact⟨H',d1,d2.aCx,d3,d2.2 _ _ _ h.d h.r,h.d⟩
theorem Sy.put {gF:Nat} (h:Sy f lo hi n b g rb rg A bb H) (qL:i<n) (dS:gF≤rb) (hfs:∀x,(aB (f x)).length=3) (hfa:∀x,(aB (f x)).all bN=true) (y:Rat) :
  ∃H',bL gF 3 (.ptr rb rg i 0) (f y) H=some H'∧C9 lo hi rb H H'∧Sy f lo hi n b g rb rg A (zR bb i y) H':=by
 obtain⟨H',h1,h2,h3,h4⟩:=h.r.put qL dS hfs hfa y
 have hd:=h.d
 exact⟨H',h1,⟨aN8 h2.symm,fun b g x _ hb hx=>h3 b g x hb hx⟩,h.t.dB fun b' g' x k1 k2 hx=>h3 b' g' x (by omega) hx,h4,h.d⟩
end
end Go.PM
namespace Go.PM
def N7 (p:Nat×List Qi):List (List Rat):=QH p.1 p.1 (iV p.2)
structure QOk (p:Nat×List Qi):Prop where
 n:p.1≤12
 l:p.2.length≤400
 t:∀t∈p.2,aK t.2.2≤1331∧0≤t.2.2
 s:∃i j q,(i,j,q)∈p.2∧i≠j∧0<q∧i<p.1∧j<p.1
theorem QOk.aHc {p:Nat×List Qi} (h:QOk p):IL (N7 p)≠0:=by
 obtain⟨i,j,q,h1,h2,h3,h4,h5⟩:=h.s
 exact YC (fun t ht=>(h.t t ht).2) h1 h2 h3 h4 h5
theorem QOk.rows {p:Nat×List Qi} (h:QOk p):∀r∈N7 p,r.length=p.1∧∀q∈r,aK q≤600000:=fun r hr=>by
 obtain⟨h1,h2⟩:=Yc (Q:=1331) (fun t ht=>(h.t t ht).1) r hr
 have h3:p.2.length*(1331+1)≤400*(1331+1):=aK2 _ h.l
 exact⟨h1,fun q hq=>by have:=h2 q hq;omega⟩
theorem Ye {p:Nat×List Qi}:(N7 p).length=p.1:=Cf ..
end Go.PM