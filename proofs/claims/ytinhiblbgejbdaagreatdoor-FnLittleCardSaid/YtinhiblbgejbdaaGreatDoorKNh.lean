/- Texts of a claim, in one: part 8. -/
import Derived.KernelRfl
import Derived.Lib.ItoaNum
import Derived.Lib.Join
import Derived.Test.YtinhiblbgejbdaaGreatDoorKNg
set_option linter.unusedSimpArgs false
set_option linter.unusedVariables false
namespace Go.PM
def EY (g:aJ→Int):List aJ→List Int→List Int
 | c::cs,s::st=>(s+g c)::EY g cs st
 | _,_=>[]
theorem DO {g:aJ→Int}:∀ {cs:List aJ} {st:List Int},st.length=cs.length→(EY g cs st).length=cs.length
 | [],[],_=>rfl
 |
  c::cs,s::st,h=>by
  have h':st.length=cs.length:=by simpa using h
  rw[EY,List.length_cons,DO h',List.length_cons]
theorem GQ {g:aJ→Int}:∀ {cs:List aJ} {st:List Int} {i:Nat} {c:aJ} {s:Int},cs[i]? = some c→st[i]? = some s→(EY g cs st)[i]? = some (s+g c)
 | [],_,_,_,_,h,_=>by simp at h
 | _::_,[],_,_,_,_,h=>by simp at h
 |
  c::cs,s::st,0,_,_,h1,h2=>by
  injection h1 with h1
  injection h2 with h2
  subst h1;subst h2
  rfl
 |
  c::cs,s::st,i+1,_,_,h1,h2=>by
  rw[List.getElem?_cons_succ] at h1 h2
  rw[EY,List.getElem?_cons_succ]
  exact GQ h1 h2
theorem RE {g:aJ→Int}:∀ {cs:List aJ},EY g cs []=[]
 | []=>rfl
 | _::_=>rfl
set_option maxHeartbeats 1000000 in
theorem DK (g:aJ→Int) (fc:Nat) (cs:List aJ) (bN:List Int) (hf:bN≠[]→∀c∈cs,TC fc [cV c] (VI (g c)) ∧ -100000≤g c∧g c≤100000) (hl:bN.length=cs.length∨bN=[]) (hv:∀s∈bN,0≤s∧s≤100000) (hn:bN.length≤1000000) :
  FC 47 [fR cs,lE bN,.nJ fc []] fun n r L=>r = .ref n bN.length 0 bN.length bN.length∧L=[.row bN.length ((EY g cs bN).map nV) 1 true]∧(EY g cs bN).length=bN.length:=by
 refine FC.walk ⟨true,false⟩ Lp (Nat.le_of_ble_eq_true rfl) fun n => ?_
 have D9:bN.length≤cs.length:=by rcases hl with h | h<;>simp[h]
 have TO:(EY g cs bN).length=bN.length:=by
  rcases hl with h | h
  ·rw[DO h,h]
  ·subst h
   rw[RE]
 have e0:=fun H=>mW (H:=H) (lr:=false) (z:=[.int .i64 0]) rfl
 simp only[H4,DL,e0,VX,Nat.reduceEqDiff,Nat.reduceAdd,eH,dV,gT,iG,oV,List.append_assoc,Nat.le_add_right,gB,gS,List.length_replicate]
 refine bJ (fun(i:Nat) ρ H=>i≤bN.length∧H=List.replicate n cZ.dead++[.row i (((EY g cs bN).take i).map nV) 1 true]∧ρ 0=fR cs∧ρ 2 = .nJ fc []∧ρ 7 = .ref n i 0 i i∧ρ 11=lE bN∧ρ 12=VI bN.length∧ρ 13=VI i) (fun i=>bN.length-i) 0 ⟨Nat.zero_le _,rfl,rfl,rfl,rfl,rfl,rfl,rfl⟩ ?_
 rintro i ρ H ⟨hi,rfl,h0,h2,h7,sM,tD,zC⟩
 by_cases cX:(i:Int)<(bN.length:Int)
 ·obtain⟨s,hs⟩:∃s,bN[i]? = some s:=⟨_,List.getElem?_eq_getElem (by omega)⟩
  obtain⟨c,hc⟩:∃c,cs[i]? = some c:=⟨_,List.getElem?_eq_getElem (by omega)⟩
  have hb:=hv s (List.mem_of_getElem? hs)
  have Yh:=hf (fun he=>by rw[he] at hs;simp at hs) c (List.mem_of_getElem? hc)
  have e1:=fun H=>aL (f:=nV) (t := .op) (H:=H) (size:=1) (k := .i64) hs rfl
  have e2:=fun H=>aL (f:=cV) (t := .op) (H:=H) (size:=3) (k := .i64) hc rfl
  have wi:IntKind.i64.wrap ((i:Int)+1)=((i+1:Nat):Int):=wrapN (i+1) (by omega) (by omega)
  have ws:IntKind.i64.wrap (s+g c)=s+g c:=wrap64 (by omega) (by omega)
  have vZ:0≤s:=hb.1
  have eF:=Yh.1
  have eL:∀(v:Int) H,oU false [.int .i64 0] 1 [(0,VI v)] H=some (.tree [VI v] (.cl 1),H):=fun v H=>lH rfl rfl rfl
  have eS:∀(v:Int) H,cM 1 (.tree [VI v] (.cl 1)) H=some [VI v]:=fun v H=>hC rfl rfl
  have hX:(EY g cs bN).take i++[s+g c]=(EY g cs bN).take (i+1):=by
   rw[List.take_add_one,GQ hc hs]
   rfl
  have eP:=lP (f:=nV) (xs:=(EY g cs bN).take i) (x:=s+g c) (lo:=n) (b:=n) (g:=i) (n:=i) (e:=1) (bytes:=8) (H:=List.replicate n cZ.dead++[.row i (((EY g cs bN).take i).map nV) 1 true]) (by rw[eH,bK]) (by simp;omega) (Nat.le_refl _) (by decide) (by decide) (by omega)
  rw[gT,hX] at eP
  have ag:bU true 3 (cV c) 0=some (cV c):=rfl
  simp only[vV,h0,h2,h7,sM,tD,zC,cX,e1,e2,ag,eF,ws,wi,vZ,ge_iff_le,eL,eS,eP,List.append_nil,VX,Nat.reduceEqDiff,Nat.reduceAdd]
  exact⟨i+1,by omega,by omega,rfl,by (repeat' apply And.intro)<;>first | rfl | trivial⟩
 ·have zK:i=bN.length:=by omega
  subst zK
  simp only[vV,h7,tD,zC,cX,VX,Nat.reduceEqDiff,Nat.reduceAdd]
  refine⟨_,rfl,by simp[yE],?_,?_⟩
  ·simp only[kW,List.all_cons,List.all_nil,Bool.and_true]
   exact xB (f:=nV) (fun _=>rfl) _
  ·rw[List.take_of_length_le (by omega)]
   exact⟨rfl,TO⟩
theorem Dw (c:aJ):TC 48 [cV c] (VI c.w):=by
 refine TC.walk ⟨true,false⟩ Eh rfl (Nat.le_of_ble_eq_true rfl) rfl rfl ?_
 simp only[zA,uH,mY,cV,VX,Nat.reduceEqDiff,Nat.reduceAdd]
 exact aI rfl
theorem EB (c:aJ) (h:0≤c.t∧c.t≤10000):TC 90 [cV c] (VI (0-c.t)):=by
 refine TC.walk ⟨true,false⟩ EI rfl (Nat.le_of_ble_eq_true rfl) rfl rfl ?_
 have w:IntKind.i64.wrap (0-c.t)=0-c.t:=wrap64 (by omega) (by omega)
 simp only[A9,wE,mY,cV,w,VX,Nat.reduceEqDiff,Nat.reduceAdd]
 exact aI rfl
noncomputable def Zx (g:aJ→Int) (aA aE:Int) (cs:List aJ):List Int:=if AK aA aE cs then EY g cs (gR aA aE cs) else []
theorem aaT {g:aJ→Int} {aA aE:Int} {cs:List aJ}:EY g cs (Em aA aE cs)=Zx g aA aE cs:=by
 unfold Em Zx
 split
 ·rfl
 ·exact RE
theorem Kl {g:aJ→Int} {aA aE:Int} {cs:List aJ} {n:Nat} {L:aC} (hL:kW n L=true) (TO:(EY g cs (Em aA aE cs)).length=(Em aA aE cs).length) :
  ∃L',(List.replicate n cZ.dead++L)++[.row (Em aA aE cs).length ((EY g cs (Em aA aE cs)).map nV) 1 true]=List.replicate n cZ.dead++L'∧yE n (.eX [.ref (List.replicate n cZ.dead++L).length (Em aA aE cs).length 0 (Em aA aE cs).length (Em aA aE cs).length,.sc (.bool (decide (AK aA aE cs)))])=true∧kW n L'=true ∧
   LR (Zx g aA aE cs) (decide (AK aA aE cs)) n (.eX [.ref (List.replicate n cZ.dead++L).length (Em aA aE cs).length 0 (Em aA aE cs).length (Em aA aE cs).length,.sc (.bool (decide (AK aA aE cs)))]) L':=by
 rw[aaT] at *
 refine⟨L++[.row (Em aA aE cs).length ((Zx g aA aE cs).map nV) 1 true],by rw[List.append_assoc],by simp[yE,wS,kQ],?_,_,rfl,.inr ⟨L.length,(Em aA aE cs).length,(Em aA aE cs).length,?_,?_,?_⟩⟩
 ·unfold kW at hL ⊢
  rw[List.all_append,hL]
  simp only[List.all_cons,List.all_nil,Bool.and_true,Bool.true_and]
  exact xB (f:=nV) (fun _=>rfl) _
 ·rw[TO]
  simp
 ·rw[TO]
  exact Nat.le_refl _
 ·rw[List.getElem?_append_right (Nat.le_refl _),Nat.sub_self]
  rfl
theorem LR.fz {bN:List Int} {ok:Bool} {n:Nat} {v:VV} {L:aC} (h:(v = .tree [] .nil∧bN=[])∨∃i g c,v = .ref (n+i) g 0 bN.length c∧bN.length≤c∧L[i]? = some (.row g (bN.map nV) 1 true)):PM.fz depth (List.replicate n cZ.dead++L) v=some (lE bN):=by
 rcases h with⟨rfl,rfl⟩ | ⟨i,g,c,rfl,h2,h3⟩
 ·exact IE
 ·exact GD (fun _=>rfl) (by rw[dV];exact bF.2 h3) h2
theorem W4 {aA aE:Int} {cs:List aJ} (fL:∀s∈Em aA aE cs,0≤s):((Em aA aE cs).length=cs.length∨Em aA aE cs=[])∧(∀s∈Em aA aE cs,0≤s∧s≤100000)∧(Em aA aE cs≠[]→aN cs)∧(Em aA aE cs).length≤1000000:=by
 unfold Em at *
 split
 ·rename_i nW
  rw[if_pos nW] at fL
  have:=nW.2.2.2
  exact⟨.inl nD,fun s hs=>⟨fL s hs,(BF s hs).2⟩,fun _=>nW.2.2,by rw[nD];omega⟩
 ·exact⟨.inr rfl,fun s hs=>(by cases hs),fun h=>absurd rfl h,Nat.zero_le _⟩
theorem Gv (aA aE:Int) (cs:List aJ) (hn:cs.length≤1000000000):FC 16 [VI aA,VI aE,fR cs] (LR (Zx (·.w) aA aE cs) (decide (AK aA aE cs))):=by
 refine FC.walk ⟨true,false⟩ Gi (Nat.le_of_ble_eq_true rfl) fun n => ?_
 simp only[Ca,zR,VX,Nat.reduceEqDiff,Nat.reduceAdd]
 refine FC.J7 (zJ aA aE cs hn) rfl (Uz (aI rfl) (aI rfl) (aI (aT _))) ?_
 rw[List.length_replicate]
 rintro r L ⟨⟨v,rfl,hv⟩,fL⟩ ho hL
 obtain⟨k1,k2,k3,k4⟩:=W4 fL
 simp only[List.getElem?_cons_zero,List.getElem?_cons_succ,VX,Nat.reduceEqDiff,Nat.reduceAdd]
 refine FC.J7 (DK (·.w) 48 cs (Em aA aE cs) (fun cI c hc=>⟨Dw c,by have:=(k3 cI).mem hc;omega,by have:=(k3 cI).mem hc;omega⟩) k1 k2 k4) rfl (Uz (aI (aT _)) (LR.fz (ok:=true) hv) (aI rfl)) ?_
 rintro r' L' ⟨rfl,rfl,TO⟩ _ _
 simp only[VX,Nat.reduceEqDiff,Nat.reduceAdd]
 exact Kl hL TO
theorem IU (aA aE:Int) (cs:List aJ) (hn:cs.length≤1000000000):FC 52 [VI aA,VI aE,fR cs] (LR (Zx (fun c=>0-c.t) aA aE cs) (decide (AK aA aE cs))):=by
 refine FC.walk ⟨true,false⟩ HU (Nat.le_of_ble_eq_true rfl) fun n => ?_
 simp only[D3,Be,VX,Nat.reduceEqDiff,Nat.reduceAdd]
 refine FC.J7 (zJ aA aE cs hn) rfl (Uz (aI rfl) (aI rfl) (aI (aT _))) ?_
 rw[List.length_replicate]
 rintro r L ⟨⟨v,rfl,hv⟩,fL⟩ ho hL
 obtain⟨k1,k2,k3,k4⟩:=W4 fL
 simp only[List.getElem?_cons_zero,List.getElem?_cons_succ,VX,Nat.reduceEqDiff,Nat.reduceAdd]
 refine FC.J7 (DK (fun c=>0-c.t) 90 cs (Em aA aE cs) (fun cI c hc=>⟨EB c ((k3 cI).mem hc).1,by have:=(k3 cI).mem hc;omega,by have:=(k3 cI).mem hc;omega⟩) k1 k2 k4) rfl (Uz (aI (aT _)) (LR.fz (ok:=true) hv) (aI rfl)) ?_
 rintro r' L' ⟨rfl,rfl,TO⟩ _ _
 simp only[VX,Nat.reduceEqDiff,Nat.reduceAdd]
 exact Kl hL TO
end Go.PM
namespace Go.PM
section
variable {aE room:Int} {cs:List aJ}
theorem X9 {aA t:Int}:∀(n:Nat) (st:List Int),st.length=cs.length→(∀i,i<cs.length→0≤dL st i→lQ cs i≤dL st i)→∀i,i<cs.length→0≤dL (fill aA aE cs t n st) i→lQ cs i≤dL (fill aA aE cs t n st) i:=by
 intro n
 induction n with
 | zero=>intro st _ h;exact h
 |
  succ n ih =>
  intro st hl h
  rw[fill]
  split
  ·split
   ·exact h
   ·rename_i k hk
    obtain⟨h2,h3,h4⟩:=kN.1 (oP hk)
    refine ih _ (by simp[hl]) fun i hi => ?_
    rw[lS (by omega)]
    split
    ·rename_i he
     subst he
     intro _
     exact h4
    ·exact h i hi
  ·exact h
theorem Ye {aA:Int}:∀(n:Nat) (t:Int) (st:List Int),0≤t→st.length=cs.length→(∀i,i<cs.length→0≤dL st i→lQ cs i≤dL st i)→∀i,i<cs.length→0≤dL (runT aA aE cs t n st) i→lQ cs i≤dL (runT aA aE cs t n st) i:=by
 intro n
 induction n with
 | zero=>intro t st _ _ h;exact h
 |
  succ n ih =>
  intro t st h0 hl h
  rw[runT]
  exact ih _ _ (by omega) (pT h0 cs.length st hl).1 (X9 _ _ hl h)
theorem TU {aA:Int} {i:Nat} (hi:i<cs.length) (h:0≤dL (gR aA aE cs) i):lQ cs i≤dL (gR aA aE cs) i :=
 Ye 100000 0 _ (Int.le_refl _) (by simp) (fun j hj h0=>by rw[uU hj] at h0;omega) i hi h
end
end Go.PM
namespace Go.PM
section
variable {aA aE:Int} {cs:List aJ} {st:List Int} {t:Int}
theorem TI (h0:0≤t):∀(n:Nat) (st:List Int),st.length=cs.length→tE st≤n→full aA aE cs (fill aA aE cs t n st) t:=by
 intro n
 induction n with
 |
  zero =>
  intro st hl hu
  right
  cases hk:OE aA cs (fill aA aE cs t 0 st) t with
  | none=>rfl
  |
   some k =>
   obtain⟨h2,h3,h4⟩:=kN.1 (oP hk)
   have h3:dL st k<0:=h3
   have:=qL (t:=t) (by omega) h3 h0
   omega
 |
  succ n ih =>
  intro st hl hu
  rw[fill]
  split
  ·rename_i hb
   split
   ·rename_i hk
    exact .inr hk
   ·rename_i k hk
    obtain⟨h2,h3,h4⟩:=kN.1 (oP hk)
    have:=qL (t:=t) (by omega:k<st.length) h3 h0
    exact ih _ (by simp[hl]) (by omega)
  ·rename_i hb
   exact .inl (by omega)
theorem Q1 (h0:0≤t):∀(n:Nat) (st:List Int),st.length=cs.length→(bz cs st t:Int)≤aE→(bz cs (fill aA aE cs t n st) t:Int)≤aE:=by
 intro n
 induction n with
 | zero=>intro st _ h;exact h
 |
  succ n ih =>
  intro st hl h
  rw[fill]
  split
  ·rename_i hb
   split
   ·exact h
   ·rename_i k hk
    obtain⟨h2,h3,h4⟩:=kN.1 (oP hk)
    refine ih _ (by simp[hl]) ?_
    rw[VO h2 hl h3 h0]
    split<;>omega
  ·exact h
theorem K2 (h0:0≤t):∀(n:Nat) (st:List Int),st.length=cs.length→(∀i,i<cs.length→dL st i≤t)→∀i,i<cs.length→dL (fill aA aE cs t n st) i≤t:=by
 intro n
 induction n with
 | zero=>intro st _ h;exact h
 |
  succ n ih =>
  intro st hl h
  rw[fill]
  split
  ·split
   ·exact h
   ·rename_i k hk
    obtain⟨h2,h3,h4⟩:=kN.1 (oP hk)
    refine ih _ (by simp[hl]) fun i hi => ?_
    rw[lS (by omega)]
    split
    ·exact Int.le_refl _
    ·exact h i hi
  ·exact h
theorem YO (h:∀i,i<cs.length→dL st i≤t):bz cs st (t+1)≤bz cs st t:=by
 unfold bz
 refine List.countP_mono_left fun i hi hp => ?_
 rw[List.mem_range] at hi
 have:=h i hi
 simp only[CC,Bool.and_eq_true,decide_eq_true_eq] at hp ⊢
 omega
theorem Kh (hs:0≤aE):∀(n:Nat),(runT aA aE cs 0 n (List.replicate cs.length (-1))).length=cs.length∧(∀i,i<cs.length→dL (runT aA aE cs 0 n (List.replicate cs.length (-1))) i≤(n:Int)-1)∧(bz cs (runT aA aE cs 0 n (List.replicate cs.length (-1))) n:Int)≤aE:=by
 intro n
 induction n with
 |
  zero =>
  refine⟨by simp[runT],fun i hi => ?_,?_⟩
  ·rw[runT,uU hi];decide
  ·have:bz cs (runT aA aE cs 0 0 (List.replicate cs.length (-1))) 0=0:=by
    unfold bz
    rw[List.countP_eq_zero]
    intro i hi
    rw[List.mem_range] at hi
    simp[CC,runT,uU hi]
   rw[show (((0:Nat):Int))=0 from rfl,this]
   exact hs
 |
  succ n ih =>
  obtain⟨h1,h2,h3⟩:=ih
  have e:runT aA aE cs 0 (n+1) (List.replicate cs.length (-1))=fill aA aE cs n cs.length (runT aA aE cs 0 n (List.replicate cs.length (-1))):=by
   rw[qY,Int.zero_add,runT,runT]
  have h0:(0:Int)≤(n:Int):=by omega
  have hle:=K2 (aA:=aA) (aE:=aE) h0 cs.length _ h1 (fun i hi=>by have:=h2 i hi;omega)
  rw[e]
  refine⟨(pT h0 cs.length _ h1).1,fun i hi=>by have:=hle i hi;omega,?_⟩
  have hb:=Q1 (aA:=aA) (aE:=aE) h0 cs.length _ h1 h3
  have hn:=YO hle
  rw[show (((n+1:Nat)):Int)=(n:Int)+1 from by omega]
  omega
theorem K7 (hs:0≤aE) {t:Nat} (ht:t<100000):(bz cs (gR aA aE cs) t:Int)≤aE∧((∃i,i<cs.length∧lQ cs i≤t∧(t:Int)<dL (gR aA aE cs) i)→aE≤(bz cs (gR aA aE cs) t:Int)):=by
 obtain⟨h1,h2,h3⟩:=Kh (aA:=aA) (cs:=cs) hs t
 have h0:(0:Int)≤(t:Int):=by omega
 have hle:=K2 (aA:=aA) (aE:=aE) h0 cs.length _ h1 (fun i hi=>by have:=h2 i hi;omega)
 have hb:=Q1 (aA:=aA) (aE:=aE) h0 cs.length _ h1 h3
 have hd:=TI (aA:=aA) (aE:=aE) h0 cs.length _ h1 (by have:=uG (st:=runT aA aE cs 0 t (List.replicate cs.length (-1)));omega)
 have hl:=(pT (aA:=aA) (aE:=aE) h0 cs.length _ h1).1
 have e:gR aA aE cs=runT aA aE cs ((t:Int)+1) (100000-(t+1)) (fill aA aE cs t cs.length (runT aA aE cs 0 t (List.replicate cs.length (-1)))):=by
  unfold gR
  have e9:(100000:Nat)=t+((100000-(t+1))+1):=by omega
  conv=>lhs;rw[e9,qY,Int.zero_add,runT]
 have hk:=(Bk (aA:=aA) (aE:=aE) (cs:=cs) (100000-(t+1)) ((t:Int)+1) _ (by omega) hl).2
 rw[←e] at hk
 generalize fill aA aE cs t cs.length (runT aA aE cs 0 t (List.replicate cs.length (-1)))=sB at *
 have ebz:bz cs (gR aA aE cs) t=bz cs sB t:=by
  unfold bz
  refine List.countP_congr fun i hi => ?_
  rw[List.mem_range] at hi
  have g1:=hk i hi
  have g2:=hle i hi
  simp only[CC,Bool.and_eq_true,decide_eq_true_eq]
  by_cases hq:0≤dL sB i
  ·rw[g1.1 hq]
  ·have:=g1.2 (by omega)
   omega
 rw[ebz]
 refine⟨hb,?_⟩
 rintro⟨i,hi,ha,hw⟩
 rcases hd with hd | hd
 ·exact hd
 ·exfalso
  have g1:=hk i hi
  have g2:=hle i hi
  have BX:dL sB i<0:=by
   by_cases hq:0≤dL sB i
   ·rw[g1.1 hq] at hw
    omega
   ·omega
  have DU:i∈wt cs sB t:=kN.2 ⟨hi,BX,ha⟩
  rw[lL.1 hd] at DU
  cases DU
end
end Go.PM
namespace Go.PM
theorem Fx {α:Type} {f g:α→Nat}:∀ {l:List α},(l.map fun i=>f i+g i).sum=(l.map f).sum+(l.map g).sum
 | []=>rfl
 |
  x::l=>by
  have:=Fx (f:=f) (g:=g) (l:=l)
  simp only[List.map_cons,List.sum_cons]
  omega
theorem GL {p:Nat→Bool}:∀ {l:List Nat},(l.map fun i=>if p i=true then 1 else 0).sum=l.countP p
 | []=>rfl
 |
  x::l=>by
  have:=GL (p:=p) (l:=l)
  rw[List.map_cons,List.sum_cons,this,List.countP_cons]
  omega
theorem Hs (f:Nat→Nat→Bool) (n:Nat):∀N,((List.range N).map fun t=>(List.range n).countP (f t)).sum=((List.range n).map fun i=>(List.range N).countP fun t=>f t i).sum:=by
 intro N
 induction N with
 |
  zero =>
  rw[show ((List.range 0).map fun t=>(List.range n).countP (f t)).sum=0 from rfl]
  have:∀l:List Nat,(l.map fun i=>(List.range 0).countP fun t=>f t i).sum=0:=by
   intro l
   induction l with
   | nil=>rfl
   | cons x l ih=>rw[List.map_cons,List.sum_cons,ih];rfl
  rw[this]
 |
  succ N ih =>
  rw[List.range_succ,List.map_append,List.sum_append,ih]
  have e:(fun i=>(List.range N++[N]).countP fun t=>f t i)=fun i=>((List.range N).countP fun t=>f t i)+if f N i=true then 1 else 0:=by
   funext i
   rw[List.countP_append,List.countP_singleton]
  rw[e,Fx,GL]
  simp
theorem qG (a b:Nat):∀N,(List.range N).countP (fun t=>decide (a≤t)&&decide (t<b))=min N b-min N a-(min N a-min N b):=by
 intro N
 induction N with
 | zero=>simp
 |
  succ N ih =>
  rw[List.range_succ,List.countP_append,List.countP_singleton,ih]
  by_cases h1:a≤N<;>by_cases h2:N<b<;>simp only[h1,h2,decide_true,decide_false,Bool.and_self,Bool.and_false,Bool.false_and,if_true,if_false,Bool.false_eq_true]<;>omega
end Go.PM
namespace Go.PM
section
variable {aA aE:Int} {cs:List aJ} {st:List Int}
theorem Hj {f g:Nat→Nat}:∀ {l:List Nat},(∀i∈l,f i≤g i)→(l.map f).sum≤(l.map g).sum
 | [],_=>Nat.le_refl _
 |
  x::l,h=>by
  rw[List.map_cons,List.map_cons,List.sum_cons,List.sum_cons]
  exact Nat.add_le_add (h x List.mem_cons_self) (Hj fun i hi=>h i (List.mem_cons_of_mem _ hi))
theorem DV {i:Nat} {s w:Nat} (hs:dL st i=s) (hw:rQ cs i=w) (N:Nat):(List.range N).countP (fun t:Nat=>CC cs st t i)=(List.range N).countP fun t=>decide (s≤t)&&decide (t<s+w):=by
 refine List.countP_congr fun t _ => ?_
 simp only[CC,hs,hw,Bool.and_eq_true,decide_eq_true_eq]
 omega
theorem Ty {i:Nat} (hs:0≤dL st i) (hw:0≤rQ cs i) (N:Nat):(List.range N).countP (fun t:Nat=>CC cs st t i)≤(rQ cs i).toNat:=by
 obtain⟨s,Pa⟩:∃s:Nat,dL st i=s:=⟨(dL st i).toNat,by omega⟩
 obtain⟨w,Zv⟩:∃w:Nat,rQ cs i=w:=⟨(rQ cs i).toNat,by omega⟩
 rw[DV Pa Zv,qG,Zv,Int.toNat_natCast]
 omega
def Lx (cs:List aJ):Nat:=((List.range cs.length).map fun i=>(rQ cs i).toNat).sum
theorem Tp (hp:∀i,i<cs.length→0≤dL st i) (hw:∀i,i<cs.length→0≤rQ cs i) (N:Nat):((List.range N).map fun t:Nat=>bz cs st t).sum≤Lx cs:=by
 have:=Hs (fun t i=>CC cs st (t:Int) i) cs.length N
 have e:((List.range N).map fun t:Nat=>bz cs st t).sum=((List.range N).map fun t:Nat=>(List.range cs.length).countP fun i=>CC cs st (t:Int) i).sum:=rfl
 rw[e,this]
 exact Hj fun i hi=>Ty (hp i (List.mem_range.1 hi)) (hw i (List.mem_range.1 hi)) N
theorem MS (hc:aN cs) (hr:0≤aA∧aA≤3) (hs:1≤aE) {i:Nat} (hi:i<cs.length):dL (gR aA aE cs) i≤lQ cs i+(Lx cs:Int):=by
 have fL:=fun j hj=>Bn (aA:=aA) (aE:=aE) hc hr hs j hj
 have hw:=fun j hj=>(hc.G0 (i:=j) hj).2
 have ha:=(hc.G0 hi).1
 have Sh:=fL i hi
 obtain⟨s,Pa⟩:∃s:Nat,dL (gR aA aE cs) i=s:=⟨(dL (gR aA aE cs) i).toNat,by omega⟩
 obtain⟨a,Wc⟩:∃a:Nat,lQ cs i=a:=⟨(lQ cs i).toNat,by omega⟩
 have I0:s≤100000:=by
  have hlen:i<(gR aA aE cs).length:=by rw[nD];exact hi
  have hm:=BF (aA:=aA) (aE:=aE) (cs:=cs) _ (List.getElem_mem hlen)
  rw[←pQ (List.getElem?_eq_getElem hlen),Pa] at hm
  omega
 have h1:=Tp (cs:=cs) (st:=gR aA aE cs) fL (fun j hj=>by have:=hw j hj;omega) s
 have h2:(List.range s).countP (fun t=>decide (a≤t)&&decide (t<s))≤((List.range s).map fun t:Nat=>bz cs (gR aA aE cs) t).sum:=by
  rw[←GL]
  refine Hj fun t ht => ?_
  rw[List.mem_range] at ht
  split
  ·rename_i hq
   simp only[Bool.and_eq_true,decide_eq_true_eq] at hq
   have:=(K7 (aA:=aA) (aE:=aE) (cs:=cs) (by omega) (t:=t) (by omega)).2 ⟨i,hi,by omega,by omega⟩
   omega
  ·exact Nat.zero_le _
 rw[qG] at h2
 rw[Pa,Wc]
 omega
end
end Go.PM
namespace Go.PM
section
variable {cs:List aJ} {st:List Int} {t:Int}
theorem ND:∀(ws:List Nat) (k:Nat),∃j,ws.foldl (kS 2 cs) (some k)=some j∧rQ cs j≤rQ cs k∧∀m∈ws,rQ cs j≤rQ cs m:=by
 intro ws
 induction ws with
 | nil=>intro k;exact⟨k,rfl,Int.le_refl _,by simp⟩
 |
  cons x ws ih =>
  intro k
  rw[List.foldl_cons]
  have hp:kS 2 cs (some k) x=if rQ cs x<rQ cs k then some x else some k:=by
   unfold kS uA
   simp
  rw[hp]
  split
  ·rename_i h
   obtain⟨j,h1,h2,h3⟩:=ih x
   refine⟨j,h1,by omega,fun m hm => ?_⟩
   rcases List.mem_cons.1 hm with rfl | hm
   ·exact h2
   ·exact h3 m hm
  ·rename_i h
   obtain⟨j,h1,h2,h3⟩:=ih k
   refine⟨j,h1,h2,fun m hm => ?_⟩
   rcases List.mem_cons.1 hm with rfl | hm
   ·omega
   ·exact h3 m hm
theorem PD {k:Nat} (h:OE 2 cs st t=some k):∀m∈wt cs st t,rQ cs k≤rQ cs m:=by
 unfold OE at h
 cases hw:wt cs st t with
 | nil=>rw[hw] at h;cases h
 |
  cons x ws =>
  rw[hw,List.foldl_cons,show kS 2 cs none x=some x from rfl] at h
  obtain⟨j,h1,h2,h3⟩:=ND (cs:=cs) ws x
  rw[h1] at h
  cases h
  intro m hm
  rcases List.mem_cons.1 hm with rfl | hm
  ·exact h2
  ·exact h3 m hm
theorem Nu {aE:Int} (h0:0≤t) {i j:Nat} (hi:i<cs.length) (hai:lQ cs i≤t):∀(n:Nat) (st:List Int),st.length=cs.length→dL st j<0→0≤dL (fill 2 aE cs t n st) j→dL (fill 2 aE cs t n st) i<0→rQ cs j≤rQ cs i:=by
 intro n
 induction n with
 | zero=>intro st _ h1 h2;rw[fill] at h2;omega
 |
  succ n ih =>
  intro st hl hj Io En
  rw[fill] at Io En
  split at Io
  ·rename_i hb
   rw[if_pos hb] at En
   cases hk:OE 2 cs st t with
   | none=>rw[hk] at Io;simp only at Io;omega
   |
    some k =>
    rw[hk] at Io En
    simp only at Io En
    obtain⟨h2,h3,h4⟩:=kN.1 (oP hk)
    have hun:dL st i<0:=by
     have yT:=(pT (aA:=2) (aE:=aE) h0 n (st.set k t) (by simp[hl])).2 i hi
     rcases Int.lt_or_le (dL st i) 0 with h | h
     ·exact h
     ·exfalso
      have e:=lS (st:=st) (t:=t) (i:=i) (by omega:k<st.length)
      by_cases Zz:i=k
      ·rw[if_pos Zz] at e
       have:=yT.1 (by omega)
       omega
      ·rw[if_neg Zz] at e
       have:=yT.1 (by omega)
       omega
    by_cases hjk:j=k
    ·subst hjk
     exact PD hk i (kN.2 ⟨hi,hun,hai⟩)
    ·refine ih _ (by simp[hl]) ?_ Io En
     rw[lS (by omega),if_neg hjk]
     exact hj
  ·omega
theorem Jz {aE:Int} (hc:aN cs) (hs:1≤aE) {i j:Nat} (hi:i<cs.length) (hj:j<cs.length) (aR:dL (gR 2 aE cs) j<dL (gR 2 aE cs) i) (ha:lQ cs i≤dL (gR 2 aE cs) j):rQ cs j≤rQ cs i:=by
 have hpj:=Bn (aA:=2) (aE:=aE) hc ⟨by decide,by decide⟩ hs j hj
 obtain⟨t,ht⟩:∃t:Nat,dL (gR 2 aE cs) j=t:=⟨(dL (gR 2 aE cs) j).toNat,by omega⟩
 have htl:t≤100000:=by
  have hlen:j<(gR 2 aE cs).length:=by rw[nD];exact hj
  have hm:=BF (aA:=2) (aE:=aE) (cs:=cs) _ (List.getElem_mem hlen)
  rw[←pQ (List.getElem?_eq_getElem hlen),ht] at hm
  omega
 have hsi:dL (gR 2 aE cs) i≤100000:=by
  have hlen:i<(gR 2 aE cs).length:=by rw[nD];exact hi
  have hm:=BF (aA:=2) (aE:=aE) (cs:=cs) _ (List.getElem_mem hlen)
  rw[←pQ (List.getElem?_eq_getElem hlen)] at hm
  omega
 obtain⟨h1,h2,h3⟩:=Kh (aA:=2) (aE:=aE) (cs:=cs) (by omega) t
 have h0:(0:Int)≤(t:Int):=by omega
 have hl:=(pT (aA:=2) (aE:=aE) h0 cs.length _ h1).1
 have hle:=K2 (aA:=2) (aE:=aE) h0 cs.length _ h1 (fun i hi=>by have:=h2 i hi;omega)
 have e:gR 2 aE cs=runT 2 aE cs ((t:Int)+1) (100000-(t+1)) (fill 2 aE cs t cs.length (runT 2 aE cs 0 t (List.replicate cs.length (-1)))):=by
  unfold gR
  have e9:(100000:Nat)=t+((100000-(t+1))+1):=by omega
  conv=>lhs;rw[e9,qY,Int.zero_add,runT]
 have e':gR 2 aE cs=runT 2 aE cs (t:Int) (100000-t) (runT 2 aE cs 0 t (List.replicate cs.length (-1))):=by
  unfold gR
  have e9:(100000:Nat)=t+(100000-t):=by omega
  conv=>lhs;rw[e9,qY,Int.zero_add]
 have hk:=(Bk (aA:=2) (aE:=aE) (cs:=cs) (100000-(t+1)) ((t:Int)+1) _ (by omega) hl).2
 have So:=(Bk (aA:=2) (aE:=aE) (cs:=cs) (100000-t) (t:Int) _ h0 h1).2
 rw[←e] at hk
 rw[←e'] at So
 refine Nu (aE:=aE) h0 (i:=i) (j:=j) hi (by omega) cs.length _ h1 ?_ ?_ ?_
 ·have g1:=So j hj
  have g2:=h2 j hj
  rcases Int.lt_or_le (dL (runT 2 aE cs 0 t (List.replicate cs.length (-1))) j) 0 with h | h
  ·exact h
  ·have:=g1.1 h
   omega
 ·have g1:=hk j hj
  rcases Int.lt_or_le (dL (fill 2 aE cs t cs.length (runT 2 aE cs 0 t (List.replicate cs.length (-1)))) j) 0 with h | h
  ·have:=g1.2 h
   omega
  ·exact h
 ·have g1:=hk i hi
  have g2:=hle i hi
  rcases Int.lt_or_le (dL (fill 2 aE cs t cs.length (runT 2 aE cs 0 t (List.replicate cs.length (-1)))) i) 0 with h | h
  ·exact h
  ·have:=g1.1 h
   omega
end
end Go.PM
namespace Go.PM
section
variable {cs:List aJ}
end
end Go.PM
namespace Go.PM
end Go.PM
namespace Go.PM
def Uj (v w:VV):Prop:=∀b g n c g' n' c',v = .ref b g 0 n c→w ≠ .ref b g' 0 n' c'
theorem Uj.symm {v w:VV} (h:Uj v w):Uj w v:=fun b g n c g' n' c' h1 h2=>h b g' n' c' g n c h2 h1
end Go.PM
namespace Go.PM
def mE:aH:=(.seq (LS [LM 49 12,LO 50 (.bin .lss (LT 49) (LI 160))] (.cond (LT 50) .skip (.exit 0))) (.seq (.block 1 (LS [LM 54 5,LM 55 7,LM 56 12,LO 57 (.call 18 [(LT 54),(LT 55),(LT 56)]),LM 53 57,LO 58 (LX 53 0),LO 59 (LX 53 1),LM 13 58,LM 14 59] (.seq (LS [LM 60 14,LO 61 (.un .not (LT 60))] (.cond (LT 61) (LS [LO 4 (.mv LF)] .ret) .skip)) (.fG [LM 62 11,LM 63 13,LO 64 (.bin .add (LT 62) (LT 63)),LM 11 64])))) (.fG [LM 51 12,LO 52 (.bin .add (LT 51) (LI 1)),LM 12 52])))
def lX:aH:=(LS [LO 72 (.bin .lss (LT 71) (LT 70))] (.seq (.cond (LT 72) .skip (.exit 2)) (.seq (.block 3 (LS [LM 73 71,LM 16 73] (.fG [LM 74 15,LM 75 5,LM 76 16,LO 77 (.iaddr 3 (LT 75) (LT 76)),LO 78 (LA 1 77),LO 79 (LL 78),LM 80 5,LM 81 16,LO 82 (.iaddr 3 (LT 80) (LT 81)),LO 83 (LA 2 82),LO 84 (LL 83),LO 85 (.build [(.int .i64 0),(.int .i64 0),(.int .i64 0)] [(0,1),(1,1),(2,1)] [(0,(LI 3)),(1,(LT 79)),(2,(LT 84))]),LQ 86 (.lit [(.int .i64 0),(.int .i64 0),(.int .i64 0)] 1 [(0,(LT 85))]),LO 87 (.app 3 24 (LT 74) (LT 86)),LM 15 87]))) (.fG [LO 88 (.bin .add (LT 71) (LI 1)),LM 71 88]))))
def rF:aH:=(LS [LO 4 (.mv LF)] (.seq (LS [LM 21 0,LM 22 1,LO 23 (.call 6 [(LT 21),(LT 22)])] (.cond (LT 23) (LS [LO 4 (.mv LG)] .ret) .skip)) (LS [LM 24 0,LO 25 (.call 7 [(LT 24)]),LM 5 25] (LS [LM 26 1,LO 27 (.call 8 [(LT 26),(LI 0),(LI 4)]),LM 6 27] (LS [LM 29 6,LM 30 1,LO 31 (.call 8 [(LT 30),(LI 1),(LI 3)]),LO 32 (.bin .add (LI 1) (LT 31)),LM 33 5,LO 34 (.call 16 [(LT 29),(LT 32),(LT 33)]),LM 28 34,LO 35 (LX 28 0),LO 36 (LX 28 1),LM 7 35,LM 8 36] (LS [LM 38 5,LM 39 7,LO 40 (.call 17 [(LT 38),(LT 39)]),LM 37 40,LO 41 (LX 37 0),LO 42 (LX 37 1),LM 9 41,LM 10 42] (.seq (LS [LM 43 8,LO 44 (.un .not (LT 43)),LM 45 44,LZ 45 46 (.mv (LT 10)),LZ 45 47 (.un .not (LT 46)),LO 48 (.pick (LT 45) LG (LT 47))] (.cond (LT 48) (LS [LO 4 (.mv LF)] .ret) .skip)) (LS [LO 11 (.mv (LI 0))] (.seq (LS [LO 12 (.mv (LI 0))] (.block 0 (.loop mE))) (.seq (LS [LM 65 11,LM 66 9,LO 67 (.bin .neq (LT 65) (LT 66))] (.cond (LT 67) (LS [LO 4 (.mv LF)] .ret) .skip)) (LS [LO 68 (.lit [(.int .i64 0),(.int .i64 0),(.int .i64 0)] 0 []),LM 15 68] (.seq (LS [LM 69 5,LO 70 (.len (LT 69)),LO 71 (.mv (LI 0))] (.block 2 (.loop lX))) (.seq (LS [LM 89 15,LO 90 (.len (LT 89)),LO 91 (.bin .eql (LT 90) (LI 0))] (.cond (LT 91) (LS [LO 4 (.mv LG)] .ret) .skip)) (LS [LM 93 15,LO 94 (.call 19 [(LI 2),(LI 1),(LT 93)]),LM 92 94,LO 95 (LX 92 0),LO 96 (LX 92 1),LM 17 95,LM 18 96] (LS [LM 98 6,LM 99 15,LO 100 (.call 19 [(LT 98),(LI 1),(LT 99)]),LM 97 100,LO 101 (LX 97 0),LO 102 (LX 97 1),LM 19 101,LM 20 102] (LS [LM 103 18,LM 104 103,LY 104 105 (.mv (LT 20)),LO 106 (.pick (LT 104) (LT 105) LF),LM 107 106,LY 107 108 (.mv (LT 17)),LY 107 109 (.mv (LT 19)),LY 107 110 (.call 15 [(LT 108),(LT 109)]),LO 111 (.pick (LT 107) (LT 110) LF),LM 4 111] .ret))))))))))))))))
def vR:aU:=⟨112,[(.tmp 4)],rF⟩
theorem Gm:iY 4=some vR:=by kernel_rfl
end Go.PM
namespace Go.PM
def Ii (code:List Nat) (i n:Nat):Nat:=if i<code.length then (code[i]?).getD 0 % n else (i*37+11) % n
theorem Q6 {code:List Nat} {i n:Nat} (hn:0<n):Ii code i n<n:=by
 unfold Ii
 split<;>exact Nat.mod_lt _ hn
theorem DM (code:List Nat) (i n:Nat) (hc:FJ code) (hi:i≤1000) (hn:2≤n∧n≤200):TC 8 [BQ code,VI i,VI n] (VI (Ii code i n)):=by
 refine TC.walk ⟨true,false⟩ LW rfl (Nat.le_of_ble_eq_true rfl) (by simp only[aO,DC];rfl) rfl ?_
 have h1:¬(n:Int)≤1:=by omega
 by_cases cX:(i:Int)<(code.length:Int)
 ·obtain⟨x,hx⟩:∃x,code[i]? = some x:=⟨_,List.getElem?_eq_getElem (by omega)⟩
  have hxb:=hc.1 x (List.mem_of_getElem? hx)
  have e1:=aL (f:=u8V) (t := .op) (H:=[]) (size:=1) (k := .i64) hx rfl
  have rdu:bU false 1 (u8V x) 0=some (VK .u8 x):=rfl
  have c1:IntKind.i64.wrap (x:Int)=(x:Int):=wrap64 (by omega) (by omega)
  have q:=KU x n (by omega)
  have hv:Ii code i n=x % n:=by unfold Ii;rw[if_pos (by omega),hx];rfl
  simp only[CN,yK,h1,cX,e1,rdu,c1,q,VX,Nat.reduceEqDiff,Nat.reduceAdd]
  rw[hv]
  exact aI rfl
 ·have w1:IntKind.i64.wrap ((i:Int)*37)=((i*37:Nat):Int):=wrapN _ (by omega) (by omega)
  have w2:IntKind.i64.wrap (((i*37:Nat):Int)+11)=((i*37+11:Nat):Int):=wrapN _ (by omega) (by omega)
  have q:=KU (i*37+11) n (by omega)
  have hv:Ii code i n=(i*37+11) % n:=by unfold Ii;rw[if_neg (by omega)]
  simp only[CN,yK,h1,cX,w1,w2,q,VX,Nat.reduceEqDiff,Nat.reduceAdd]
  rw[hv]
  exact aI rfl
theorem LV.len {lo hi:Nat} {bN:List Int} {H:aC} {v:VV} (h:LV lo hi bN H v):lY v H=some (VI bN.length):=by
 rcases h with⟨rfl,rfl⟩ | ⟨b,g,c,h1,h2,rfl,h4,h5⟩
 ·rfl
 ·exact dI h5
theorem LV.get {lo hi:Nat} {bN:List Int} {H:aC} {v:VV} (h:LV lo hi bN H v) {i:Nat} {x:Int} (hx:bN[i]? = some x):∃p,aZ 1 v (VI i) H=some p∧eZ false 1 p H=some (VI x):=by
 rcases h with⟨rfl,rfl⟩ | ⟨b,g,c,h1,h2,rfl,h4,h5⟩
 ·simp at hx
 ·refine⟨_,bD h5 (List.getElem?_eq_some_iff.1 hx).1,?_⟩
  rw[Nat.zero_add,nZ h5 hx]
  rfl
theorem Ug {H:aC} {b g n:Nat} {cs:List aJ} (h:aM H b g=some (cs.map cV,3,true)) {i:Nat} {c:aJ} (hc:cs[i]? = some c) (hn:i<n) :
  aZ 3 (.ref b g 0 n n) (VI i) H=some (.ptr b g i 0)∧tL 0 (.ptr b g i 0) H=some (.ptr b g i 0)∧tL 1 (.ptr b g i 0) H=some (.ptr b g i 1)∧eZ false 1 (.ptr b g i 0) H=some (VI c.t)∧eZ false 1 (.ptr b g i 1) H=some (VI c.w):=by
 refine⟨?_,HF h,HF h,?_,?_⟩
 ·have:=bD (o:=0) (n:=n) (c:=n) (i:=i) (k := .i64) h hn
  rw[Nat.zero_add] at this
  exact this
 ·rw[nZ h hc];rfl
 ·rw[nZ h hc];rfl
end Go.PM
namespace Go.PM
def iK:aH:=(LS [LO 2 (.box (LT 0)),LO 3 (.box (LT 1)),LO 4 (.mv LF)] (.seq (LS [LO 6 (LA 0 2),LO 7 (LL 6),LO 8 (LA 0 3),LO 9 (LL 8),LO 10 (.eqb true (LT 7) (LT 9))] (.cond (LT 10) (LS [LO 11 (LA 0 2),LO 12 (LL 11),LM 4 12] .ret) .skip)) (LS [LO 13 (LA 1 2),LO 14 (LL 13),LO 15 (LA 2 3),LO 16 (LL 15),LQ 17 (.call 94 [(LT 14),(LT 16)]),LO 18 (LA 1 3),LO 19 (LL 18),LO 20 (LA 2 2),LO 21 (LL 20),LQ 22 (.call 94 [(LT 19),(LT 21)]),LQ 23 (.call 93 [(LT 17),(LT 22)]),LM 5 23] (LS [LO 24 (LA 0 2),LO 25 (LL 24),LO 26 (.un .not (LT 25)),LM 27 26,LY 27 28 (.mv (LT 5)),LY 27 29 (.bin .lss (LT 28) (LI 0)),LO 30 (.pick (LT 27) (LT 29) LF),LM 31 30,LZ 31 32 (LA 0 2),LZ 31 33 (LL 32),LZ 31 34 (.mv (LT 33)),LY 34 35 (.mv (LT 5)),LY 34 36 (.bin .gtr (LT 35) (LI 0)),LZ 31 37 (.pick (LT 34) (LT 36) LF),LO 38 (.pick (LT 31) LG (LT 37)),LM 4 38] .ret))))
def jU:aU:=⟨39,[(.tmp 4)],iK⟩
theorem Hl:iY 56=some jU:=by kernel_rfl
def lK:aH:=(.seq (LS [LM 19 5,LO 20 (.bin .geq (LT 19) (LI 0))] (.cond (LT 20) .skip (.exit 0))) (.seq (.block 1 (LS [LM 23 0,LM 24 5,LO 25 (.iaddr 1 (LT 23) (LT 24)),LO 26 (LL 25),LM 27 1,LM 28 5,LO 29 (.iaddr 1 (LT 27) (LT 28)),LO 30 (LL 29),LO 31 (.bin .neq (LT 26) (LT 30))] (.cond (LT 31) (.seq (LS [LM 32 0,LM 33 5,LO 34 (.iaddr 1 (LT 32) (LT 33)),LO 35 (LL 34),LM 36 1,LM 37 5,LO 38 (.iaddr 1 (LT 36) (LT 37)),LO 39 (LL 38),LO 40 (.bin .lss (LT 35) (LT 39))] (.cond (LT 40) (LS [LO 4 (.mv (LI (-1)))] .ret) .skip)) (LS [LO 4 (.mv (LI 1))] .ret)) .skip))) (.fG [LM 21 5,LO 22 (.bin .sub (LT 21) (LI 1)),LM 5 22])))
def qH:aH:=(LS [LO 4 (.mv (LI 0))] (.seq (LS [LM 6 0,LO 7 (.len (LT 6)),LM 8 1,LO 9 (.len (LT 8)),LO 10 (.bin .neq (LT 7) (LT 9))] (.cond (LT 10) (.seq (LS [LM 11 0,LO 12 (.len (LT 11)),LM 13 1,LO 14 (.len (LT 13)),LO 15 (.bin .lss (LT 12) (LT 14))] (.cond (LT 15) (LS [LO 4 (.mv (LI (-1)))] .ret) .skip)) (LS [LO 4 (.mv (LI 1))] .ret)) .skip)) (.seq (LS [LM 16 0,LO 17 (.len (LT 16)),LO 18 (.bin .sub (LT 17) (LI 1)),LM 5 18] (.block 0 (.loop lK))) (LS [LO 4 (.mv (LI 0))] .ret))))
def vF:aU:=⟨41,[(.tmp 4)],qH⟩
theorem Jg:iY 93=some vF:=by kernel_rfl
def oF:aH:=(LS [LO 24 (.bin .lss (LT 23) (LT 22))] (.seq (.cond (LT 24) .skip (.exit 2)) (.seq (.block 3 (LS [LM 25 23,LM 8 25] (LS [LM 26 5,LM 27 6,LM 28 8,LO 29 (.bin .add (LT 27) (LT 28)),LO 30 (.iaddr 1 (LT 26) (LT 29)),LO 31 (LL 30),LM 32 0,LM 33 6,LO 34 (.iaddr 1 (LT 32) (LT 33)),LO 35 (LL 34),LM 36 1,LM 37 8,LO 38 (.iaddr 1 (LT 36) (LT 37)),LO 39 (LL 38),LO 40 (.bin .mul (LT 35) (LT 39)),LO 41 (.bin .add (LT 31) (LT 40)),LM 42 7,LO 43 (.bin .add (LT 41) (LT 42)),LM 9 43] (LS [LM 44 5,LM 45 6,LM 46 8,LO 47 (.bin .add (LT 45) (LT 46)),LM 48 9,LO 49 (.bin .rem (LT 48) (LI 1000000000)),LO 50 (.iaddr 1 (LT 44) (LT 47)),LN (.store 1 (LT 50) (LT 49))] (.fG [LM 51 9,LO 52 (.bin .quo (LT 51) (LI 1000000000)),LM 7 52]))))) (.fG [LO 53 (.bin .add (LT 23) (LI 1)),LM 23 53]))))
def oE:aH:=(LS [LO 19 (.bin .lss (LT 18) (LT 17))] (.seq (.cond (LT 19) .skip (.exit 0)) (.seq (.block 1 (LS [LM 20 18,LM 6 20] (LS [LO 7 (.mv (LI 0))] (.seq (LS [LM 21 1,LO 22 (.len (LT 21)),LO 23 (.mv (LI 0))] (.block 2 (.loop oF))) (.fG [LM 54 5,LM 55 6,LM 56 1,LO 57 (.len (LT 56)),LO 58 (.bin .add (LT 55) (LT 57)),LO 59 (.iaddr 1 (LT 54) (LT 58)),LO 60 (LL 59),LM 61 7,LO 62 (.bin .add (LT 60) (LT 61)),LO 63 (.iaddr 1 (LT 54) (LT 58)),LN (.store 1 (LT 63) (LT 62))]))))) (.fG [LO 64 (.bin .add (LT 18) (LI 1)),LM 18 64]))))
def xH:aH:=(LS [LO 4 (.mv (.const (.slice none 0 0)))] (LS [LM 10 0,LO 11 (.len (LT 10)),LM 12 1,LO 13 (.len (LT 12)),LO 14 (.bin .add (LT 11) (LT 13)),LO 15 (.make [(.int .i64 0)] 8 (LT 14) (LT 14)),LM 5 15] (.seq (LS [LM 16 0,LO 17 (.len (LT 16)),LO 18 (.mv (LI 0))] (.block 0 (.loop oE))) (LS [LM 65 5,LO 66 (.call 110 [(LT 65)]),LM 4 66] .ret))))
def AH:aU:=⟨67,[(.tmp 4)],xH⟩
theorem EM:iY 94=some AH:=by kernel_rfl
def sW:aH:=(.seq (LS [LM 5 0,LO 6 (.bin .gtr (LT 5) (LI 0))] (.cond (LT 6) .skip (.exit 0))) (.block 1 (LS [LM 7 3,LM 8 0,LO 9 (.bin .rem (LT 8) (LI 1000000000)),LO 10 (.lit [(.int .i64 0)] 1 [(0,(LT 9))]),LO 11 (.app 1 8 (LT 7) (LT 10)),LM 3 11] (.fG [LM 12 0,LO 13 (.bin .quo (LT 12) (LI 1000000000)),LM 0 13]))))
def B6:aH:=(LS [LO 2 (.mv (.const (.slice none 0 0)))] (LS [LO 4 (.lit [(.int .i64 0)] 0 []),LM 3 4] (.seq (.block 0 (.loop sW)) (LS [LM 14 3,LM 2 14] .ret))))
def FK:aU:=⟨15,[(.tmp 2)],B6⟩
theorem I2:iY 98=some FK:=by kernel_rfl
def aS:aH:=(LS [LO 2 (.new [(.bool false),(.slice none 0 0),(.slice none 0 0)]),LO 3 (.mv LF)] (LS [LM 8 0,LO 9 (.slen (LT 8)),LO 10 (.bin .gtr (LT 9) (LI 0)),LM 11 10,LY 11 12 (.mv (LT 0)),LY 11 13 (.sidx (LT 12) (LI 0)),LY 11 14 (.bin .eql (LT 13) (.const (.int .u8 45))),LO 15 (.pick (LT 11) (LT 14) LF),LM 4 15] (.seq (LS [LM 16 4] (.cond (LT 16) (.fG [LM 17 0,LO 18 (.ssub (LT 17) (some (LI 1)) none),LM 0 18]) .skip)) (LS [LM 19 0,LO 20 (.call 127 [(LT 19),(.const (.int .u8 47))]),LM 5 20] (.seq (LS [LM 21 5,LO 22 (.len (LT 21)),LO 23 (.bin .gtr (LT 22) (LI 2)),LM 24 23,LZ 24 25 (.mv (LT 5)),LZ 24 26 (.iaddr 1 (LT 25) (LI 0)),LZ 24 27 (LL 26),LZ 24 28 (.call 128 [(LT 27)]),LZ 24 29 (.un .not (LT 28)),LO 30 (.pick (LT 24) LG (LT 29))] (.cond (LT 30) (LS [LO 31 (.build [(.bool false),(.slice none 0 0),(.slice none 0 0)] [(0,1),(1,1),(2,1)] []),LN (.store 3 (LT 2) (LT 31)),LO 3 (.mv LF)] .ret) .skip)) (LS [LM 32 5,LO 33 (.iaddr 1 (LT 32) (LI 0)),LO 34 (LL 33),LO 35 (.call 129 [(LT 34)]),LM 6 35] (.seq (LS [LM 36 4,LM 37 36,LY 37 38 (.mv (LT 6)),LY 37 39 (.len (LT 38)),LY 37 40 (.bin .eql (LT 39) (LI 0)),LO 41 (.pick (LT 37) (LT 40) LF)] (.cond (LT 41) (LS [LO 42 (.build [(.bool false),(.slice none 0 0),(.slice none 0 0)] [(0,1),(1,1),(2,1)] []),LN (.store 3 (LT 2) (LT 42)),LO 3 (.mv LF)] .ret) .skip)) (.seq (LS [LM 43 5,LO 44 (.len (LT 43)),LO 45 (.bin .eql (LT 44) (LI 1))] (.cond (LT 45) (LS [LM 46 4,LM 47 6,LO 48 (.lit [(.int .i64 0)] 1 [(0,(LI 1))]),LO 49 (.build [(.bool false),(.slice none 0 0),(.slice none 0 0)] [(0,1),(1,1),(2,1)] [(0,(LT 46)),(1,(LT 47)),(2,(LT 48))]),LN (.store 3 (LT 2) (LT 49)),LO 3 (.mv LG)] .ret) .skip)) (.seq (LS [LM 50 5,LO 51 (.iaddr 1 (LT 50) (LI 1)),LO 52 (LL 51),LO 53 (.call 128 [(LT 52)]),LO 54 (.un .not (LT 53))] (.cond (LT 54) (LS [LO 55 (.build [(.bool false),(.slice none 0 0),(.slice none 0 0)] [(0,1),(1,1),(2,1)] []),LN (.store 3 (LT 2) (LT 55)),LO 3 (.mv LF)] .ret) .skip)) (LS [LM 56 5,LO 57 (.iaddr 1 (LT 56) (LI 1)),LO 58 (LL 57),LO 59 (.call 129 [(LT 58)]),LM 7 59] (.seq (LS [LM 60 7,LO 61 (.lit [(.int .i64 0)] 1 [(0,(LI 1))]),LO 62 (.call 93 [(LT 60),(LT 61)]),LO 63 (.bin .leq (LT 62) (LI 0)),LM 64 63,LZ 64 65 (.mv (LT 6)),LZ 64 66 (.mv (LT 7)),LZ 64 67 (.call 111 [(LT 65),(LT 66)]),LZ 64 68 (.lit [(.int .i64 0)] 1 [(0,(LI 1))]),LZ 64 69 (.call 93 [(LT 67),(LT 68)]),LZ 64 70 (.bin .neq (LT 69) (LI 0)),LO 71 (.pick (LT 64) LG (LT 70))] (.cond (LT 71) (LS [LO 72 (.build [(.bool false),(.slice none 0 0),(.slice none 0 0)] [(0,1),(1,1),(2,1)] []),LN (.store 3 (LT 2) (LT 72)),LO 3 (.mv LF)] .ret) .skip)) (LS [LM 73 4,LM 74 6,LM 75 7,LO 76 (.build [(.bool false),(.slice none 0 0),(.slice none 0 0)] [(0,1),(1,1),(2,1)] [(0,(LT 73)),(1,(LT 74)),(2,(LT 75))]),LN (.store 3 (LT 2) (LT 76)),LO 3 (.mv LG)] .ret))))))))))))
def bH:aU:=⟨77,[(.cell 2 true 3),(.tmp 3)],aS⟩
theorem Gf:iY 109=some bH:=by kernel_rfl
def sR:aH:=(.seq (LS [LM 7 1,LO 8 (.len (LT 7)),LO 9 (.bin .gtr (LT 8) (LI 0))] (.cond (LT 9) .skip (.exit 0))) (.block 1 (LS [LM 11 0,LM 12 1,LO 13 (.call 112 [(LT 11),(LT 12)]),LM 10 13,LO 14 (LX 10 0),LO 15 (LX 10 1),LM 5 14,LM 6 15] (LS [LM 16 1,LM 0 16] (.fG [LM 17 6,LM 1 17])))))
def B2:aH:=(LS [LO 4 (.mv (.const (.slice none 0 0)))] (.seq (.block 0 (.loop sR)) (LS [LM 18 0,LM 4 18] .ret)))
def FI:aU:=⟨19,[(.tmp 4)],B2⟩
theorem I3:iY 111=some FI:=by kernel_rfl
def fD:aH:=(.seq (LS [LM 132 19,LO 133 (.bin .geq (LT 132) (LI 1000000000)),LM 134 133,LZ 134 135 (.mv (LT 19)),LZ 134 136 (.mv (LT 14)),LZ 134 137 (.mv (LT 15)),LZ 134 138 (.bin .sub (LT 137) (LI 2)),LZ 134 139 (.iaddr 1 (LT 136) (LT 138)),LZ 134 140 (LL 139),LZ 134 141 (.bin .mul (LT 135) (LT 140)),LZ 134 142 (.mv (LT 20)),LZ 134 143 (.bin .mul (LT 142) (LI 1000000000)),LZ 134 144 (.mv (LT 13)),LZ 134 145 (.mv (LT 17)),LZ 134 146 (.mv (LT 15)),LZ 134 147 (.bin .add (LT 145) (LT 146)),LZ 134 148 (.bin .sub (LT 147) (LI 2)),LZ 134 149 (.iaddr 1 (LT 144) (LT 148)),LZ 134 150 (LL 149),LZ 134 151 (.bin .add (LT 143) (LT 150)),LZ 134 152 (.bin .gtr (LT 141) (LT 151)),LO 153 (.pick (LT 134) LG (LT 152))] (.cond (LT 153) .skip (.exit 2))) (.block 3 (LS [LM 154 19,LO 155 (.bin .sub (LT 154) (LI 1)),LM 19 155] (LS [LM 156 20,LM 157 14,LM 158 15,LO 159 (.bin .sub (LT 158) (LI 1)),LO 160 (.iaddr 1 (LT 157) (LT 159)),LO 161 (LL 160),LO 162 (.bin .add (LT 156) (LT 161)),LM 20 162] (LS [LM 163 20,LO 164 (.bin .geq (LT 163) (LI 1000000000))] (.cond (LT 164) (.exit 2) .skip))))))
def gE:aH:=(.seq (LS [LM 99 17,LO 100 (.bin .geq (LT 99) (LI 0))] (.cond (LT 100) .skip (.exit 0))) (.seq (.block 1 (LS [LM 103 13,LM 104 17,LM 105 15,LO 106 (.bin .add (LT 104) (LT 105)),LO 107 (.iaddr 1 (LT 103) (LT 106)),LO 108 (LL 107),LO 109 (.bin .mul (LT 108) (LI 1000000000)),LM 110 13,LM 111 17,LM 112 15,LO 113 (.bin .add (LT 111) (LT 112)),LO 114 (.bin .sub (LT 113) (LI 1)),LO 115 (.iaddr 1 (LT 110) (LT 114)),LO 116 (LL 115),LO 117 (.bin .add (LT 109) (LT 116)),LM 18 117] (LS [LM 118 18,LM 119 14,LM 120 15,LO 121 (.bin .sub (LT 120) (LI 1)),LO 122 (.iaddr 1 (LT 119) (LT 121)),LO 123 (LL 122),LO 124 (.bin .quo (LT 118) (LT 123)),LM 125 18,LM 126 14,LM 127 15,LO 128 (.bin .sub (LT 127) (LI 1)),LO 129 (.iaddr 1 (LT 126) (LT 128)),LO 130 (LL 129),LO 131 (.bin .rem (LT 125) (LT 130)),LM 19 124,LM 20 131] (.seq (.block 2 (.loop fD)) (.seq (LS [LM 165 13,LM 166 14,LM 167 17,LM 168 19,LO 169 (.call 133 [(LT 165),(LT 166),(LT 167),(LT 168)])] (.cond (LT 169) (LS [LM 170 19,LO 171 (.bin .sub (LT 170) (LI 1)),LM 19 171] (.fG [LM 172 13,LM 173 14,LM 174 17,LO 175 (.call 134 [(LT 172),(LT 173),(LT 174)])])) .skip)) (.fG [LM 176 16,LM 177 17,LM 178 19,LO 179 (.iaddr 1 (LT 176) (LT 177)),LN (.store 1 (LT 179) (LT 178))])))))) (.fG [LM 101 17,LO 102 (.bin .sub (LT 101) (LI 1)),LM 17 102])))
def cQ:aH:=(LS [LO 4 (.mv (.const (.slice none 0 0))),LO 5 (.mv (.const (.slice none 0 0)))] (LS [LM 24 0,LO 25 (.call 130 [(LT 24)]),LM 23 25,LO 26 (LX 23 0),LO 27 (LX 23 1),LM 6 26,LM 7 27] (LS [LM 29 1,LO 30 (.call 130 [(LT 29)]),LM 28 30,LO 31 (LX 28 0),LO 32 (LX 28 1),LM 8 31,LM 9 32] (.seq (LS [LM 33 7,LM 34 33,LY 34 35 (.mv (LT 9)),LO 36 (.pick (LT 34) (LT 35) LF)] (.cond (LT 36) (LS [LM 37 6,LM 38 8,LO 39 (.bin .quo (LT 37) (LT 38)),LQ 40 (.call 98 [(LT 39)]),LM 41 6,LM 42 8,LO 43 (.bin .rem (LT 41) (LT 42)),LQ 44 (.call 98 [(LT 43)]),LM 4 40,LM 5 44] .ret) .skip)) (.seq (LS [LM 45 0,LM 46 1,LO 47 (.call 93 [(LT 45),(LT 46)]),LO 48 (.bin .lss (LT 47) (LI 0))] (.cond (LT 48) (LS [LO 49 (.lit [(.int .i64 0)] 0 []),LO 50 (.lit [(.int .i64 0)] 0 []),LM 51 0,LO 52 (.app 1 8 (LT 50) (LT 51)),LM 4 49,LM 5 52] .ret) .skip)) (.seq (LS [LM 53 1,LO 54 (.len (LT 53)),LO 55 (.bin .eql (LT 54) (LI 1))] (.cond (LT 55) (LS [LM 57 0,LM 58 1,LO 59 (.iaddr 1 (LT 58) (LI 0)),LO 60 (LL 59),LO 61 (.call 131 [(LT 57),(LT 60)]),LM 56 61,LO 62 (LX 56 0),LO 63 (LX 56 1),LM 10 62,LM 11 63] (LS [LM 64 10,LM 65 11,LO 66 (.call 98 [(LT 65)]),LM 4 64,LM 5 66] .ret)) .skip)) (LS [LM 67 1,LM 68 1,LO 69 (.len (LT 68)),LO 70 (.bin .sub (LT 69) (LI 1)),LO 71 (.iaddr 1 (LT 67) (LT 70)),LO 72 (LL 71),LO 73 (.bin .add (LT 72) (LI 1)),LO 74 (.bin .quo (LI 1000000000) (LT 73)),LM 12 74] (LS [LM 75 0,LO 76 (.len (LT 75)),LO 77 (.bin .add (LT 76) (LI 1)),LO 78 (.make [(.int .i64 0)] 8 (LT 77) (LT 77)),LM 13 78] (LS [LM 79 13,LM 80 0,LM 81 12,LO 82 (.call 132 [(LT 80),(LT 81)]),LO 83 (.copy 1 (LT 79) (LT 82))] (LS [LM 84 1,LM 85 12,LO 86 (.call 132 [(LT 84),(LT 85)]),LM 14 86] (LS [LM 87 14,LO 88 (.len (LT 87)),LM 15 88] (LS [LM 89 13,LO 90 (.len (LT 89)),LM 91 15,LO 92 (.bin .sub (LT 90) (LT 91)),LO 93 (.make [(.int .i64 0)] 8 (LT 92) (LT 92)),LM 16 93] (.seq (LS [LM 94 13,LO 95 (.len (LT 94)),LM 96 15,LO 97 (.bin .sub (LT 95) (LT 96)),LO 98 (.bin .sub (LT 97) (LI 1)),LM 17 98] (.block 0 (.loop gE))) (LS [LM 181 13,LO 182 (.call 110 [(LT 181)]),LM 183 12,LO 184 (.call 131 [(LT 182),(LT 183)]),LM 180 184,LO 185 (LX 180 0),LO 186 (LX 180 1),LM 21 185,LM 22 186] (LS [LM 187 16,LO 188 (.call 110 [(LT 187)]),LM 189 21,LM 4 188,LM 5 189] .ret)))))))))))))))
def dT:aU:=⟨190,[(.tmp 4),(.tmp 5)],cQ⟩
theorem Ev:iY 112=some dT:=by kernel_rfl
def nC:aH:=(.seq (LS [LM 3 0,LO 4 (.len (LT 3)),LO 5 (.bin .gtr (LT 4) (LI 0)),LM 6 5,LY 6 7 (.mv (LT 0)),LY 6 8 (.mv (LT 0)),LY 6 9 (.len (LT 8)),LY 6 10 (.bin .sub (LT 9) (LI 1)),LY 6 11 (.iaddr 1 (LT 7) (LT 10)),LY 6 12 (LL 11),LY 6 13 (.bin .eql (LT 12) (LI 0)),LO 14 (.pick (LT 6) (LT 13) LF)] (.cond (LT 14) .skip (.exit 0))) (.block 1 (.fG [LM 15 0,LM 16 0,LO 17 (.len (LT 16)),LO 18 (.bin .sub (LT 17) (LI 1)),LO 19 (.sub 1 (LT 15) none (some (LT 18)) none),LM 0 19])))
def Au:aH:=(LS [LO 2 (.mv (.const (.slice none 0 0)))] (.seq (.block 0 (.loop nC)) (LS [LM 20 0,LM 2 20] .ret)))
def DN:aU:=⟨21,[(.tmp 2)],Au⟩
theorem Ia:iY 110=some DN:=by kernel_rfl
def rC:aH:=(LS [LO 4 (.mv (LI 0))] (.seq (LS [LM 5 1,LM 6 0,LO 7 (.len (LT 6)),LO 8 (.bin .lss (LT 5) (LT 7))] (.cond (LT 8) (LS [LM 9 0,LM 10 1,LO 11 (.iaddr 1 (LT 9) (LT 10)),LO 12 (LL 11),LM 4 12] .ret) .skip)) (LS [LO 4 (.mv (LI 0))] .ret)))
def vU:aU:=⟨13,[(.tmp 4)],rC⟩
theorem Gr:iY 113=some vU:=by kernel_rfl
def lF:aH:=(.seq (LS [LM 9 7,LM 10 0,LO 11 (.slen (LT 10)),LO 12 (.bin .leq (LT 9) (LT 11))] (.cond (LT 12) .skip (.exit 0))) (.seq (.block 1 (LS [LM 15 7,LM 16 0,LO 17 (.slen (LT 16)),LO 18 (.bin .eql (LT 15) (LT 17)),LM 19 18,LZ 19 20 (.mv (LT 0)),LZ 19 21 (.mv (LT 7)),LZ 19 22 (.sidx (LT 20) (LT 21)),LZ 19 23 (.mv (LT 1)),LZ 19 24 (.bin .eql (LT 22) (LT 23)),LO 25 (.pick (LT 19) LG (LT 24))] (.cond (LT 25) (LS [LM 26 5,LM 27 0,LM 28 6,LM 29 7,LO 30 (.ssub (LT 27) (some (LT 28)) (some (LT 29))),LO 31 (.lit [(.string ⟨#[]⟩)] 1 [(0,(LT 30))]),LO 32 (.app 1 16 (LT 26) (LT 31)),LM 5 32] (.fG [LM 33 7,LO 34 (.bin .add (LT 33) (LI 1)),LM 6 34])) .skip))) (.fG [LM 13 7,LO 14 (.bin .add (LT 13) (LI 1)),LM 7 14])))
def Ci:aH:=(LS [LO 4 (.mv (.const (.slice none 0 0)))] (LS [LO 8 (.lit [(.string ⟨#[]⟩)] 0 []),LM 5 8] (LS [LO 6 (.mv (LI 0))] (.seq (LS [LO 7 (.mv (LI 0))] (.block 0 (.loop lF))) (LS [LM 35 5,LM 4 35] .ret)))))
def F0:aU:=⟨36,[(.tmp 4)],Ci⟩
theorem Jc:iY 127=some F0:=by kernel_rfl
def cU:aH:=(.seq (LS [LM 4 3,LM 5 0,LO 6 (.slen (LT 5)),LO 7 (.bin .lss (LT 4) (LT 6))] (.cond (LT 7) .skip (.exit 0))) (.seq (.block 1 (LS [LM 10 0,LM 11 3,LO 12 (.sidx (LT 10) (LT 11)),LO 13 (.bin .lss (LT 12) (.const (.int .u8 48))),LM 14 13,LZ 14 15 (.mv (LT 0)),LZ 14 16 (.mv (LT 3)),LZ 14 17 (.sidx (LT 15) (LT 16)),LZ 14 18 (.bin .gtr (LT 17) (.const (.int .u8 57))),LO 19 (.pick (LT 14) LG (LT 18))] (.cond (LT 19) (LS [LO 2 (.mv LF)] .ret) .skip))) (.fG [LM 8 3,LO 9 (.bin .add (LT 8) (LI 1)),LM 3 9])))
def wA:aH:=(LS [LO 2 (.mv LF)] (.seq (LS [LO 3 (.mv (LI 0))] (.block 0 (.loop cU))) (LS [LM 20 0,LO 21 (.slen (LT 20)),LO 22 (.bin .geq (LT 21) (LI 1)),LM 23 22,LY 23 24 (.mv (LT 0)),LY 23 25 (.slen (LT 24)),LY 23 26 (.bin .leq (LT 25) (LI 200)),LO 27 (.pick (LT 23) (LT 26) LF),LM 28 27,LY 28 29 (.mv (LT 0)),LY 28 30 (.slen (LT 29)),LY 28 31 (.bin .eql (LT 30) (LI 1)),LY 28 32 (.mv (LT 31)),LZ 32 33 (.mv (LT 0)),LZ 32 34 (.sidx (LT 33) (LI 0)),LZ 32 35 (.bin .neq (LT 34) (.const (.int .u8 48))),LY 28 36 (.pick (LT 32) LG (LT 35)),LO 37 (.pick (LT 28) (LT 36) LF),LM 2 37] .ret)))
def Bf:aU:=⟨38,[(.tmp 2)],wA⟩
theorem E1:iY 128=some Bf:=by kernel_rfl
def kA:aH:=(.seq (LS [LM 20 7,LM 21 4,LO 22 (.bin .lss (LT 20) (LT 21))] (.cond (LT 22) .skip (.exit 2))) (.seq (.block 3 (.fG [LM 25 6,LO 26 (.bin .mul (LI 10) (LT 25)),LM 27 0,LM 28 7,LO 29 (.sidx (LT 27) (LT 28)),LO 30 (.bin .sub (LT 29) (.const (.int .u8 48))),LO 31 (.cvt .i64 (LT 30)),LO 32 (.bin .add (LT 26) (LT 31)),LM 6 32])) (.fG [LM 23 7,LO 24 (.bin .add (LT 23) (LI 1)),LM 7 24])))
def jR:aH:=(.seq (LS [LM 11 4,LO 12 (.bin .gtr (LT 11) (LI 0))] (.cond (LT 12) .skip (.exit 0))) (.seq (.block 1 (LS [LO 5 (.mv (LI 0))] (.seq (LS [LM 15 4,LO 16 (.bin .gtr (LT 15) (LI 9))] (.cond (LT 16) (.fG [LM 17 4,LO 18 (.bin .sub (LT 17) (LI 9)),LM 5 18]) .skip)) (LS [LO 6 (.mv (LI 0))] (.seq (LS [LM 19 5,LM 7 19] (.block 2 (.loop kA))) (.fG [LM 33 3,LM 34 6,LO 35 (.lit [(.int .i64 0)] 1 [(0,(LT 34))]),LO 36 (.app 1 8 (LT 33) (LT 35)),LM 3 36])))))) (.fG [LM 13 4,LO 14 (.bin .sub (LT 13) (LI 9)),LM 4 14])))
def uP:aH:=(LS [LO 2 (.mv (.const (.slice none 0 0)))] (LS [LO 8 (.lit [(.int .i64 0)] 0 []),LM 3 8] (.seq (LS [LM 9 0,LO 10 (.slen (LT 9)),LM 4 10] (.block 0 (.loop jR))) (LS [LM 37 3,LO 38 (.call 110 [(LT 37)]),LM 2 38] .ret))))
def yZ:aU:=⟨39,[(.tmp 2)],uP⟩
theorem D5:iY 129=some yZ:=by kernel_rfl
def rJ:aH:=(LS [LO 2 (.mv (LI 0)),LO 3 (.mv LF)] (.seq (LS [LM 4 0,LO 5 (.len (LT 4)),LO 6 (.bin .gtr (LT 5) (LI 2))] (.cond (LT 6) (LS [LO 2 (.mv (LI 0)),LO 3 (.mv LF)] .ret) .skip)) (LS [LM 7 0,LO 8 (.call 113 [(LT 7),(LI 0)]),LM 9 0,LO 10 (.call 113 [(LT 9),(LI 1)]),LO 11 (.bin .mul (LI 1000000000) (LT 10)),LO 12 (.bin .add (LT 8) (LT 11)),LM 2 12,LO 3 (.mv LG)] .ret)))
def vJ:aU:=⟨13,[(.tmp 2),(.tmp 3)],rJ⟩
theorem Gz:iY 130=some vJ:=by kernel_rfl
def mI:aH:=(.seq (LS [LM 16 8,LO 17 (.bin .geq (LT 16) (LI 0))] (.cond (LT 17) .skip (.exit 0))) (.seq (.block 1 (LS [LM 20 7,LO 21 (.bin .mul (LT 20) (LI 1000000000)),LM 22 0,LM 23 8,LO 24 (.iaddr 1 (LT 22) (LT 23)),LO 25 (LL 24),LO 26 (.bin .add (LT 21) (LT 25)),LM 9 26] (LS [LM 27 6,LM 28 8,LM 29 9,LM 30 1,LO 31 (.bin .quo (LT 29) (LT 30)),LO 32 (.iaddr 1 (LT 27) (LT 28)),LN (.store 1 (LT 32) (LT 31))] (.fG [LM 33 9,LM 34 1,LO 35 (.bin .rem (LT 33) (LT 34)),LM 7 35])))) (.fG [LM 18 8,LO 19 (.bin .sub (LT 18) (LI 1)),LM 8 19])))
def tH:aH:=(LS [LO 4 (.mv (.const (.slice none 0 0))),LO 5 (.mv (LI 0))] (LS [LM 10 0,LO 11 (.len (LT 10)),LO 12 (.make [(.int .i64 0)] 8 (LT 11) (LT 11)),LM 6 12] (LS [LO 7 (.mv (LI 0))] (.seq (LS [LM 13 0,LO 14 (.len (LT 13)),LO 15 (.bin .sub (LT 14) (LI 1)),LM 8 15] (.block 0 (.loop mI))) (LS [LM 36 6,LO 37 (.call 110 [(LT 36)]),LM 38 7,LM 4 37,LM 5 38] .ret)))))
def wP:aU:=⟨39,[(.tmp 4),(.tmp 5)],tH⟩
theorem CB:iY 131=some wP:=by kernel_rfl
def jC:aH:=(LS [LO 17 (.bin .lss (LT 16) (LT 15))] (.seq (.cond (LT 17) .skip (.exit 0)) (.seq (.block 1 (LS [LO 18 (.iaddr 1 (LT 14) (LT 16)),LO 19 (LL 18),LM 8 19] (LS [LM 20 8,LM 21 1,LO 22 (.bin .mul (LT 20) (LT 21)),LM 23 6,LO 24 (.bin .add (LT 22) (LT 23)),LM 9 24] (LS [LM 25 5,LM 26 9,LO 27 (.bin .rem (LT 26) (LI 1000000000)),LO 28 (.lit [(.int .i64 0)] 1 [(0,(LT 27))]),LO 29 (.app 1 8 (LT 25) (LT 28)),LM 5 29] (.fG [LM 30 9,LO 31 (.bin .quo (LT 30) (LI 1000000000)),LM 6 31]))))) (.fG [LO 32 (.bin .add (LT 16) (LI 1)),LM 16 32]))))
def tQ:aH:=(LS [LO 4 (.mv (.const (.slice none 0 0)))] (LS [LM 10 0,LO 11 (.len (LT 10)),LO 12 (.bin .add (LT 11) (LI 1)),LO 13 (.make [(.int .i64 0)] 8 (LI 0) (LT 12)),LM 5 13] (LS [LO 6 (.mv (LI 0))] (.seq (LS [LM 14 0,LO 15 (.len (LT 14)),LO 16 (.mv (LI 0))] (.block 0 (.loop jC))) (.seq (LS [LM 33 6,LO 34 (.bin .gtr (LT 33) (LI 0))] (.cond (LT 34) (.fG [LM 35 5,LM 36 6,LO 37 (.lit [(.int .i64 0)] 1 [(0,(LT 36))]),LO 38 (.app 1 8 (LT 35) (LT 37)),LM 5 38]) .skip)) (LS [LM 39 5,LM 4 39] .ret))))))
def xP:aU:=⟨40,[(.tmp 4)],tQ⟩
theorem CV:iY 132=some xP:=by kernel_rfl
def iJ:aH:=(LS [LO 16 (.bin .lss (LT 15) (LT 14))] (.seq (.cond (LT 16) .skip (.exit 0)) (.seq (.block 1 (LS [LM 17 15,LO 18 (.iaddr 1 (LT 13) (LT 15)),LO 19 (LL 18),LM 10 17,LM 11 19] (LS [LM 20 0,LM 21 2,LM 22 10,LO 23 (.bin .add (LT 21) (LT 22)),LO 24 (.iaddr 1 (LT 20) (LT 23)),LO 25 (LL 24),LM 26 11,LM 27 3,LO 28 (.bin .mul (LT 26) (LT 27)),LO 29 (.bin .rem (LT 28) (LI 1000000000)),LO 30 (.bin .sub (LT 25) (LT 29)),LM 31 9,LO 32 (.bin .sub (LT 30) (LT 31)),LM 12 32] (LS [LM 33 11,LM 34 3,LO 35 (.bin .mul (LT 33) (LT 34)),LO 36 (.bin .quo (LT 35) (LI 1000000000)),LM 9 36] (.seq (LS [LM 37 12,LO 38 (.bin .lss (LT 37) (LI 0))] (.cond (LT 38) (LS [LM 39 12,LO 40 (.bin .add (LT 39) (LI 1000000000)),LM 12 40] (LS [LM 41 9,LO 42 (.bin .add (LT 41) (LI 1)),LM 9 42] (LS [LM 43 12,LO 44 (.bin .lss (LT 43) (LI 0))] (.cond (LT 44) (LS [LM 45 12,LO 46 (.bin .add (LT 45) (LI 1000000000)),LM 12 46] (.fG [LM 47 9,LO 48 (.bin .add (LT 47) (LI 1)),LM 9 48])) .skip)))) .skip)) (.fG [LM 49 0,LM 50 2,LM 51 10,LO 52 (.bin .add (LT 50) (LT 51)),LM 53 12,LO 54 (.iaddr 1 (LT 49) (LT 52)),LN (.store 1 (LT 54) (LT 53))])))))) (.fG [LO 55 (.bin .add (LT 15) (LI 1)),LM 15 55]))))
def vC:aH:=(LS [LO 8 (.mv LF)] (LS [LO 9 (.mv (LI 0))] (.seq (LS [LM 13 1,LO 14 (.len (LT 13)),LO 15 (.mv (LI 0))] (.block 0 (.loop iJ))) (LS [LM 56 0,LM 57 2,LM 58 1,LO 59 (.len (LT 58)),LO 60 (.bin .add (LT 57) (LT 59)),LO 61 (.iaddr 1 (LT 56) (LT 60)),LO 62 (LL 61),LM 63 9,LO 64 (.bin .sub (LT 62) (LT 63)),LO 65 (.iaddr 1 (LT 56) (LT 60)),LN (.store 1 (LT 65) (LT 64))] (LS [LM 66 0,LM 67 2,LM 68 1,LO 69 (.len (LT 68)),LO 70 (.bin .add (LT 67) (LT 69)),LO 71 (.iaddr 1 (LT 66) (LT 70)),LO 72 (LL 71),LO 73 (.bin .lss (LT 72) (LI 0)),LM 8 73] .ret)))))
def zF:aU:=⟨74,[(.tmp 8)],vC⟩
theorem Dn:iY 133=some zF:=by kernel_rfl
def nO:aH:=(LS [LO 13 (.bin .lss (LT 12) (LT 11))] (.seq (.cond (LT 13) .skip (.exit 0)) (.seq (.block 1 (LS [LM 14 12,LO 15 (.iaddr 1 (LT 10) (LT 12)),LO 16 (LL 15),LM 7 14,LM 8 16] (LS [LM 17 0,LM 18 2,LM 19 7,LO 20 (.bin .add (LT 18) (LT 19)),LO 21 (.iaddr 1 (LT 17) (LT 20)),LO 22 (LL 21),LM 23 8,LO 24 (.bin .add (LT 22) (LT 23)),LM 25 6,LO 26 (.bin .add (LT 24) (LT 25)),LM 9 26] (LS [LM 27 9,LO 28 (.bin .quo (LT 27) (LI 1000000000)),LM 6 28] (.fG [LM 29 0,LM 30 2,LM 31 7,LO 32 (.bin .add (LT 30) (LT 31)),LM 33 9,LO 34 (.bin .rem (LT 33) (LI 1000000000)),LO 35 (.iaddr 1 (LT 29) (LT 32)),LN (.store 1 (LT 35) (LT 34))]))))) (.fG [LO 36 (.bin .add (LT 12) (LI 1)),LM 12 36]))))
def vH:aH:=(LS [LO 6 (.mv (LI 0))] (.seq (LS [LM 10 1,LO 11 (.len (LT 10)),LO 12 (.mv (LI 0))] (.block 0 (.loop nO))) (.fG [LM 37 0,LM 38 2,LM 39 1,LO 40 (.len (LT 39)),LO 41 (.bin .add (LT 38) (LT 40)),LO 42 (.iaddr 1 (LT 37) (LT 41)),LO 43 (LL 42),LM 44 6,LO 45 (.bin .add (LT 43) (LT 44)),LO 46 (.iaddr 1 (LT 37) (LT 41)),LN (.store 1 (LT 46) (LT 45))])))
def zT:aU:=⟨47,[],vH⟩
theorem Dj:iY 134=some zT:=by kernel_rfl
def eE:aH:=(LS [LO 4 (.mv (LI 0)),LO 5 (.mv LF)] (LS [LM 10 0,LM 11 1,LO 12 (.call 87 [(LT 10),(LT 11)]),LM 9 12,LO 13 (LX 9 0),LO 14 (LX 9 1),LO 15 (LX 9 2),LO 6 (.new [(.bool false),(.slice none 0 0),(.slice none 0 0)]),LO 7 (.new [(.bool false),(.slice none 0 0),(.slice none 0 0)]),LN (.store 3 (LT 6) (LT 13)),LN (.store 3 (LT 7) (LT 14)),LM 8 15] (.seq (LS [LM 16 8,LO 17 (.un .not (LT 16))] (.cond (LT 17) (LS [LO 4 (.mv (LI 0)),LO 5 (.mv LF)] .ret) .skip)) (.seq (.block 0 (LS [LO 19 (LK 6),LO 20 (LK 7),LO 21 (.call 56 [(LT 19),(LT 20)]),LM 18 21] (.cond (LT 18) (LS [LO 4 (.mv (LI (-1))),LO 5 (.mv LG)] .ret) (LS [LO 23 (LK 7),LO 24 (LK 6),LO 25 (.call 56 [(LT 23),(LT 24)]),LM 22 25] (.cond (LT 22) (LS [LO 4 (.mv (LI 1)),LO 5 (.mv LG)] .ret) .skip))))) (LS [LO 4 (.mv (LI 0)),LO 5 (.mv LG)] .ret)))))
def fM:aU:=⟨26,[(.tmp 4),(.tmp 5)],eE⟩
theorem wY:iY 46=some fM:=by kernel_rfl
def mT:aH:=(LS [LO 4 (.new [(.bool false),(.slice none 0 0),(.slice none 0 0)]),LO 5 (.new [(.bool false),(.slice none 0 0),(.slice none 0 0)]),LO 6 (.mv LF)] (LS [LM 12 0,LO 13 (.call 109 [(LT 12)]),LM 11 13,LO 14 (LX 11 0),LO 15 (LX 11 1),LO 7 (.new [(.bool false),(.slice none 0 0),(.slice none 0 0)]),LN (.store 3 (LT 7) (LT 14)),LM 8 15] (LS [LM 17 1,LO 18 (.call 109 [(LT 17)]),LM 16 18,LO 19 (LX 16 0),LO 20 (LX 16 1),LO 9 (.new [(.bool false),(.slice none 0 0),(.slice none 0 0)]),LN (.store 3 (LT 9) (LT 19)),LM 10 20] (LS [LO 21 (LK 7),LO 22 (LK 9),LM 23 8,LM 24 23,LY 24 25 (.mv (LT 10)),LO 26 (.pick (LT 24) (LT 25) LF),⟨none,(.store 3 (LT 4) (LT 21)),none,false,[((LT 9),(LT 4))]⟩,LN (.store 3 (LT 5) (LT 22)),LM 6 26] .ret))))
def qX:aU:=⟨27,[(.cell 4 true 3),(.cell 5 true 3),(.tmp 6)],mT⟩
theorem Ja:iY 87=some qX:=by kernel_rfl
end Go.PM
namespace Go.PM
open Go.Lib
def d10 (n:Nat):UInt8:=UInt8.ofNat (48+n)
def CY:Nat→Nat→List UInt8
 | 0,_=>[]
 | k+1,r=>CY k (r / 10)++[d10 (r % 10)]
theorem gF {n:Nat} (h:n<10):decDigits n=[d10 n]:=by rw[decDigits,dif_pos h];rfl
theorem uY {n:Nat} (h:¬n<10):decDigits n=decDigits (n / 10)++[d10 (n % 10)]:=by rw[decDigits,dif_neg h];rfl
theorem Fh (n:Nat):decDigits n≠[]:=by
 by_cases h:n<10
 ·rw[gF h];simp
 ·rw[uY h];simp
theorem Ym (k r:Nat):(CY k r).length=k:=by
 induction k generalizing r with
 | zero=>rfl
 | succ k ih=>rw[CY,List.length_append,ih];rfl
theorem VJ (k:Nat):CY k 0=List.replicate k 48:=by
 induction k with
 | zero=>rfl
 | succ k ih=>rw[CY,ih,List.replicate_succ'];rfl
theorem Yn {q:Nat} (hq:0<q) (k r:Nat) (hr:r<10^k):decDigits (q*10^k+r)=decDigits q++CY k r:=by
 induction k generalizing r with
 |
  zero =>
  have:r=0:=by simp at hr;exact hr
  subst this
  simp[CY]
 |
  succ k ih =>
  rw[Nat.pow_succ] at hr ⊢
  have hp:0<10^k:=Nat.pow_pos (by decide)
  have h1:q*(10^k*10)=10*(q*10^k):=by grind
  have h2:1*1≤q*10^k:=Nat.mul_le_mul hq hp
  rw[uY (by omega),h1,show (10*(q*10^k)+r) / 10=q*10^k+r / 10 by omega,show (10*(q*10^k)+r) % 10=r % 10 by omega,ih (r / 10) (by omega),CY,List.append_assoc]
theorem Z4 (k r:Nat) (hr:r<10^(k+1)):CY (k+1) r=List.replicate (k+1-(decDigits r).length) 48++decDigits r:=by
 induction k generalizing r with
 |
  zero =>
  have h:r<10:=by simpa using hr
  rw[gF h,CY,CY,Nat.mod_eq_of_lt h]
  rfl
 |
  succ k ih =>
  rw[CY]
  by_cases h:r<10
  ·rw[show r / 10=0 by omega,VJ,gF h,Nat.mod_eq_of_lt h]
   rfl
  ·rw[ih (r / 10) (by rw[Nat.pow_succ] at hr;omega),uY h,List.append_assoc,List.length_append]
   congr 2
   simp only[List.length_cons,List.length_nil]
   omega
theorem CO (n:Nat) (k:Nat) (h:n<10^(k+1)):(decDigits n).length≤k+1:=by
 rw[decDigits_length]
 induction k generalizing n with
 | zero=>rw[nDigits_small (by simpa using h)];exact Nat.le_refl _
 |
  succ k ih =>
  by_cases hn:n<10
  ·rw[nDigits_small hn];omega
  ·rw[nDigits_big hn]
   have:=ih (n / 10) (by rw[Nat.pow_succ] at h;omega)
   omega
theorem Sy {q r:Nat} (hq:0<q) (hr:r<1000000000):decDigits (q*1000000000+r)=decDigits q++CY 9 r:=Yn hq 9 r hr
theorem Py (xs:List (List UInt8)):join xs []=xs.flatten:=by
 induction xs with
 | nil=>rfl
 |
  cons x xs ih =>
  unfold join at ih ⊢
  cases xs with
  | nil=>simp[List.intercalate]
  |
   cons y ys =>
   rw[List.flatten_cons,←ih]
   simp[List.intercalate,List.intersperse]
end Go.PM
namespace Go.PM
abbrev aY (l:List UInt8):VV := .sc (.string ⟨l.toArray⟩)
theorem VT.Ae {f:Nat} {p:List Value→aF→Option Value} {args:List VV} {r:VV} (hp:FT f=some p) (h:∀(V:View) (dQ:List Value),VL V args dQ→∃pv,p dQ V.P=some pv∧∀V',VR V' r pv):VT f args r:=by
 intro F P dQ dG hF hl YY
 obtain⟨pv,h1,h2⟩:=h (bare F P) dQ hl
 have e:nK f dQ dG P=some (pv,P):=by
  show call cfg iY f dQ dG P=some (pv,P)
  rw[SD (E:=cfg) (T:=iY) hp]
  have Pp:p dQ P=some pv:=h1
  rw[Pp]
  rfl
 exact⟨P,pv,e,List.prefix_refl _,h2 _⟩
theorem TC.Ae {f:Nat} {p:List Value→aF→Option Value} {args:List VV} {r:VV} (hp:FT f=some p) (hr:BI.contains f=false) (ha:aO args=true) (U6:iZ r=true) (h:∀(V:View) (dQ:List Value),VL V args dQ→∃pv,p dQ V.P=some pv∧∀V',VR V' r pv):TC f args r :=
 TC.of hr ha (Zk ha U6 (VT.Ae hp h))
theorem VL.one {V:View} {x:Value} {ps:List Value} (h:VL V [.sc x] ps):ps=[x]:=by
 cases h with
 |
  cons _ v _ vs h hs =>
  cases h
  cases hs
  rfl
theorem VL.two {V:View} {x y:Value} {ps:List Value} (h:VL V [.sc x,.sc y] ps):ps=[x,y]:=by
 cases h with
 |
  cons _ v _ vs h hs =>
  cases h
  rw[hs.one]
theorem VL.three {V:View} {x y z:Value} {ps:List Value} (h:VL V [.sc x,.sc y,.sc z] ps):ps=[x,y,z]:=by
 cases h with
 |
  cons _ v _ vs h hs =>
  cases h
  rw[hs.two]
theorem To (x:Nat) (h:x<4294967296):TC 120 [.sc (.int .u32 (x:Int))] (VI (32-(Lib.bitLen x:Int))):=by
 refine TC.Ae (p:=A8) rfl rfl rfl rfl fun V ps hl => ?_
 rw[hl.one]
 unfold A8
 simp only
 rw[if_pos ⟨by omega,by omega⟩,Int.toNat_natCast]
 exact⟨_,rfl,fun _ => .sc _ rfl⟩
theorem acN (n:Nat) (h:n<18446744073709551616):TC 123 [.sc (.int .u64 (n:Int)),VI 10] (aY (Lib.decDigits n)):=by
 refine TC.Ae (p:=qR) rfl rfl rfl rfl fun V ps hl => ?_
 rw[hl.two]
 unfold qR
 simp only
 rw[if_pos ⟨trivial,by omega,by omega⟩,Int.toNat_natCast]
 exact⟨_,rfl,fun _ => .sc _ rfl⟩
theorem Vo (s:List UInt8) (c:Nat) (h:s.length*c≤140737488355328) (hc:c≤9223372036854775807):TC 124 [aY s,VI (c:Int)] (aY (Lib.repeatL s c)):=by
 refine TC.Ae (p:=Dk) rfl rfl rfl rfl fun V ps hl => ?_
 rw[hl.two]
 unfold Dk
 simp only
 rw[if_pos ⟨by omega,by omega,by rw[Int.toNat_natCast];exact h⟩,Int.toNat_natCast]
 exact⟨_,rfl,fun _ => .sc _ rfl⟩
theorem B8 {V:View}:∀ {xs:List (List UInt8)} {ps:List Value},VL V ((xs.map aY).flatMap aB) ps→strCells ps=some (xs.map fun x=>⟨x.toArray⟩)
 |
  [],ps,h=>by
  have h':VL V [] ps:=h
  cases h'
  rfl
 |
  x::xs,ps,h=>by
  rw[List.map_cons,List.flatMap_cons] at h
  have h':VL V (aY x::(xs.map aY).flatMap aB) ps:=h
  cases h' with
  |
   cons _ v _ vs h1 h2 =>
   cases h1
   rw[strCells,B8 h2]
   rfl
theorem abU (xs:List (List UInt8)) (hx:xs.length≤140737488355328) (hlen:xs.flatten.length≤140737488355328):TC 126 [eU aY xs,aY []] (aY xs.flatten):=by
 refine TC.Ae (p:=Md) rfl rfl (by simp only[aO,mD (f:=aY) (fun _=>rfl) (fun _=>rfl),Bool.and_true];rfl) rfl fun V ps hl => ?_
 cases hl with
 |
  cons _ v _ vs h hs =>
  rw[hs.one]
  have abG:(xs.map fun x=>(⟨x.toArray⟩:ByteArray)).map (·.data.toList)=xs:=by
   rw[List.map_map]
   exact List.map_id' xs
  have jn:Lib.join ((xs.map fun x=>(⟨x.toArray⟩:ByteArray)).map (·.data.toList)) ([]:List UInt8)=xs.flatten:=by rw[abG,Py]
  have h':VR V (.tree (xs.map aY) .op) v:=h
  clear h
  generalize IX:xs.map aY=es at h'
  cases h' with
  |
   mN k hk =>
   have:xs=[]:=List.map_eq_nil_iff.1 IX
   subst this
   exact⟨_,rfl,fun _ => .sc _ rfl⟩
  |
   tree _ k b o c r e p hF hb ho hc he hk hl =>
   subst IX
   by_cases h0:xs=[]
   ·subst h0
    exact⟨_,rfl,fun _ => .sc _ rfl⟩
   ·obtain⟨y,ys,rfl⟩:=List.exists_cons_of_ne_nil h0
    have e1:e=1:=(he (aY y) (by simp)).symm
    subst e1
    rw[Nat.mul_one] at ho hl
    have hr:V.P.read b o ((y::ys).map aY).length=some ((r.drop o).take ((y::ys).map aY).length):=by
     unfold aF.read
     rw[hb]
     simp only
     rw[if_pos ho]
    have hn:¬((y::ys).map aY).length=0:=by simp
    refine⟨.string ⟨(y::ys).flatten.toArray⟩,?_,fun _ => .sc _ rfl⟩
    unfold Md
    simp only[hn,if_false,hr,Option.bind_some,B8 hl]
    rw[if_pos ⟨by simp,hc,by simpa using hx,by rw[jn];exact hlen⟩,jn]
end Go.PM
namespace Go.PM
section
variable {b:Nat}
theorem Lr {α:Type} {pre fV post:List α} {o j:Nat} (ho:pre.length=o) (hj:j<fV.length):(pre++fV++post)[o+j]? = fV[j]? := by
 subst ho
 rw[List.append_assoc,List.getElem?_append_right (by omega),Nat.add_sub_cancel_left,List.getElem?_append_left hj]
theorem Q8 {α:Type} {pre fV post:List α} {o j:Nat} {v:α} (ho:pre.length=o) (hj:j<fV.length):(pre++fV++post).set (o+j) v=pre++fV.set j v++post:=by
 subst ho
 rw[List.append_assoc,List.set_append_right _ _ (by omega),Nat.add_sub_cancel_left,List.set_append_left _ _ hj,List.append_assoc]
theorem I8 {xs:List Nat} {i d:Nat} (h:i<xs.length):(xs.set i d).drop (i+1)=xs.drop (i+1):=by
 rw[List.set_eq_take_append_cons_drop,if_pos h,List.drop_append]
 simp[Nat.min_eq_left (by omega:i≤xs.length)]
theorem Vd {U V W P V2 U3 g:Nat} (hV:V<(V2+1)*P) (hU:U3*P≤U) (hWP:W*P≤V) (hg:g≤W) (h:g*V2≤U3):g*V≤U+V:=by
 have h1:g*V≤g*((V2+1)*P):=Nat.mul_le_mul_left _ (by omega)
 have h2:g*((V2+1)*P)=g*V2*P+g*P:=by grind
 have h3:g*V2*P≤U3*P:=Nat.mul_le_mul_right _ h
 have h4:g*P≤W*P:=Nat.mul_le_mul_right _ hg
 omega
theorem Vb {U V P V2 U3 g q:Nat} (hP:0<P) (hV:V2*P≤V) (hU:U<(U3+1)*P) (hq:q*V≤U) (h:U3<g*V2):q<g:=by
 have h1:q*(V2*P)≤q*V:=Nat.mul_le_mul_left _ hV
 have h2:q*V2*P<(U3+1)*P:=by
  have:q*V2*P=q*(V2*P):=by grind
  omega
 have h3:q*V2<U3+1:=Nat.lt_of_mul_lt_mul_right h2
 have h4:q*V2<g*V2:=by omega
 exact Nat.lt_of_mul_lt_mul_right h4
theorem uQ {xs:List Nat} {n t:Nat} (hx:∀d∈xs,d<b) (hn:xs.length=n+1) (ht:xs[n]? = some t):t*b^n≤val b xs∧val b xs<(t+1)*b^n:=by
 have h1:=bG (b:=b) ht
 rw[List.take_of_length_le (by omega)] at h1
 have h2:=nR (b:=b) (xs:=xs.take n) fun d hd=>hx d (List.mem_of_mem_take hd)
 rw[List.length_take,Nat.min_eq_left (by omega)] at h2
 rw[Nat.add_mul,Nat.mul_comm t]
 omega
theorem A3 {xs:List Nat} {n t u:Nat} (hx:∀d∈xs,d<b) (hn:xs.length=n+2) (ht:xs[n+1]? = some t) (hu:xs[n]? = some u):(t*b+u)*b^n≤val b xs∧val b xs<(t*b+u+1)*b^n:=by
 have h1:=bG (b:=b) ht
 rw[List.take_of_length_le (by omega),bG hu] at h1
 have h2:=nR (b:=b) (xs:=xs.take n) fun d hd=>hx d (List.mem_of_mem_take hd)
 rw[List.length_take,Nat.min_eq_left (by omega)] at h2
 have e:(t*b+u)*b^n=b^n*u+b^(n+1)*t:=by rw[Nat.pow_succ];grind
 rw[Nat.add_mul (t*b+u),e]
 omega
theorem Oq {xs:List Nat} {n t u v:Nat} (hx:∀d∈xs,d<b) (hn:xs.length=n+3) (ht:xs[n+2]? = some t) (hu:xs[n+1]? = some u) (hv:xs[n]? = some v):((t*b+u)*b+v)*b^n≤val b xs∧val b xs<((t*b+u)*b+v+1)*b^n:=by
 have h1:=bG (b:=b) ht
 rw[List.take_of_length_le (by omega),bG hu,bG hv] at h1
 have h2:=nR (b:=b) (xs:=xs.take n) fun d hd=>hx d (List.mem_of_mem_take hd)
 rw[List.length_take,Nat.min_eq_left (by omega)] at h2
 have e:((t*b+u)*b+v)*b^n=b^n*v+b^(n+1)*u+b^(n+2)*t:=by rw[Nat.pow_succ,Nat.pow_succ];grind
 rw[Nat.add_mul ((t*b+u)*b+v),e]
 omega
structure rS (b:Nat) (us vs:List Nat) (n u2 u1 u0 v1 v0:Nat):Prop where
 hb:2≤b
 Kn:∀d∈us,d<b
 J9:∀d∈vs,d<b
 Px:us.length=n+3
 Hr:vs.length=n+2
 e2:us[n+2]? = some u2
 e1:us[n+1]? = some u1
 e0:us[n]? = some u0
 f1:vs[n+1]? = some v1
 f0:vs[n]? = some v0
 pos:1≤v1
 less:val b us<b*val b vs
section
variable {us vs:List Nat} {n u2 u1 u0 v1 v0:Nat} (G:rS b us vs n u2 u1 u0 v1 v0)
include G
theorem rS.EG:0<val b vs:=by
 have h:=(A3 G.J9 G.Hr G.f1 G.f0).1
 have h1:0<(v1*b+v0)*b^n:=Nat.mul_pos (by have:=Nat.mul_pos G.pos (show 0<b by have:=G.hb;omega);omega) (Nat.pow_pos (by have:=G.hb;omega))
 omega
theorem rS.Zg:u2<b:=G.Kn _ (List.mem_of_getElem? G.e2)
theorem rS.U4:u1<b:=G.Kn _ (List.mem_of_getElem? G.e1)
theorem rS.ZC:u0<b:=G.Kn _ (List.mem_of_getElem? G.e0)
theorem rS.Qz:v1<b:=G.J9 _ (List.mem_of_getElem? G.f1)
theorem rS.V6:v0<b:=G.J9 _ (List.mem_of_getElem? G.f0)
theorem rS.Yg:val b us / val b vs<b:=(Nat.div_lt_iff_lt_mul G.EG).2 G.less
theorem rS.top:u2≤v1:=by
 have h1:=(uQ (n:=n+2) G.Kn G.Px G.e2).1
 have h2:=(uQ (n:=n+1) G.J9 G.Hr G.f1).2
 have h3:b*val b vs<b*((v1+1)*b^(n+1)):=Nat.mul_lt_mul_of_pos_left h2 (by have:=G.hb;omega)
 have h4:b*((v1+1)*b^(n+1))=(v1+1)*b^(n+2):=by rw[Nat.pow_succ b (n+1)];grind
 have h5:=G.less
 have h6:u2*b^(n+2)<(v1+1)*b^(n+2):=by omega
 have:=Nat.lt_of_mul_lt_mul_right h6
 omega
theorem rS.too {g left:Nat} (hh:u2*b+u1=g*v1+left) (h:left*b+u0<g*v0):val b us / val b vs<g:=by
 have hu:=(Oq G.Kn G.Px G.e2 G.e1 G.e0).2
 have hv:=(A3 G.J9 G.Hr G.f1 G.f0).1
 refine Vb (P:=b^n) (V2:=v1*b+v0) (U3:=(u2*b+u1)*b+u0) (Nat.pow_pos (by have:=G.hb;omega)) hv hu (Nat.div_mul_le_self _ _) ?_
 rw[hh]
 have:(g*v1+left)*b+u0=g*v1*b+(left*b+u0):=by grind
 have:g*(v1*b+v0)=g*v1*b+g*v0:=by grind
 omega
theorem rS.Tk {g left:Nat} (hh:u2*b+u1=g*v1+left) (hg:g≤b) (h:g*v0≤left*b+u0):g≤val b us / val b vs+1:=by
 have hu:=(Oq G.Kn G.Px G.e2 G.e1 G.e0).1
 have hv:=A3 G.J9 G.Hr G.f1 G.f0
 have h1:b*b^n≤val b vs:=by
  have:b*b^n≤(v1*b+v0)*b^n:=Nat.mul_le_mul_right _ (by have:=Nat.mul_le_mul_right b G.pos;omega)
  omega
 have h2:=Vd (U:=val b us) (V:=val b vs) (W:=b) (P:=b^n) (V2:=v1*b+v0) (U3:=(u2*b+u1)*b+u0) (g:=g) hv.2 hu h1 hg (by
  rw[hh]
  have:(g*v1+left)*b+u0=g*v1*b+(left*b+u0):=by grind
  have:g*(v1*b+v0)=g*v1*b+g*v0:=by grind
  omega)
 have h3:g≤(val b us+val b vs) / val b vs:=(Nat.le_div_iff_mul_le G.EG).2 h2
 rwa [Nat.add_div_right _ G.EG] at h3
theorem rS.broken {g left:Nat} (hh:u2*b+u1=g*v1+left) (h:b≤left):g<b∧g*v0≤left*b+u0:=by
 have h1:=G.top
 have h2:=G.U4
 have h3:u2*b≤v1*b:=Nat.mul_le_mul_right _ h1
 have h4:g*v1<b*v1:=by rw[Nat.mul_comm b];omega
 have hg:g<b:=Nat.lt_of_mul_lt_mul_right h4
 refine⟨hg,?_⟩
 have h5:=G.V6
 have h6:g*v0≤b*b:=Nat.mul_le_mul (by omega) (by omega)
 have h7:b*b≤left*b:=Nat.mul_le_mul_right _ h
 omega
end
theorem R7 {P A N T c l x y r W l' c' c1 lo t:Nat} (h:A+P*(c+l)=N+T) (h1:c1=c+t*y) (h2:c1=lo+W*c') (hd:r+lo+l=x+W*l'):(A+P*x)+P*W*(c'+l')=(N+P*r)+(T+P*(t*y)):=by
 subst h1
 have e:r+(c+t*y)+l=x+W*l'+W*c':=by omega
 have e2:P*(r+(c+t*y)+l)=P*(x+W*l'+W*c'):=by rw[e]
 grind
theorem U1 {S S' V t P cl:Nat} (h:S+P*cl=S'+t*V) (hS':S'<P) (hV:V≤P) (ht:t*V≤S+V):cl=0∨cl=1:=by
 rcases Nat.lt_or_ge cl 2 with h1 | h1
 ·omega
 ·have:P*2≤P*cl:=Nat.mul_le_mul_left _ h1
  omega
theorem WN {S S1 S2 V t P c:Nat} (h1:S+P=S1+t*V) (h2:S1+V=S2+P*c) (hS2:S2<P) (hV:V≤P) (ht:t*V≤S+V) (hS:S<P) (aR:S<t*V):S2+t*V=S+V:=by
 have hc:c=1:=by
  rcases Nat.lt_or_ge c 1 with h | h
  ·have:c=0:=by omega
   subst this
   omega
  ·rcases Nat.lt_or_ge c 2 with h3 | h3
   ·omega
   ·have:P*2≤P*c:=Nat.mul_le_mul_left _ h3
    omega
 subst hc
 omega
end
end Go.PM
namespace Go.PM
abbrev uV (d:Nat):VV := .sc (.int .u32 (d:Int))
abbrev Lt (ds:List Nat):VV:=eU uV ds
def cT (n:Nat):VV:=Lt (aG 4294967296 n)
theorem OV:∀d:Nat,(aB (uV d)).length=1:=fun _=>rfl
theorem Th (ds:List Nat):aX (Lt ds)=true:=mD OV fun _=>rfl
theorem UN (ds:List Nat):iZ (Lt ds)=true:=IA OV (fun _=>rfl) fun _=>rfl
theorem dB (n:Nat):aX (cT n)=true:=Th _
theorem xD (n:Nat):iZ (cT n)=true:=UN _
theorem EE:cT 0 = .tree [] .op:=by rw[cT,bO];rfl
theorem Rc (a b:Nat) (ha:a<18446744073709551616) (hb:0<b):cY .quo (.int .u64 (a:Int)) (.int .u64 (b:Int))=some (.int .u64 ((a / b:Nat):Int)):=by
 have h1:¬((b:Int)=0):=by omega
 have h2:(a:Int).tdiv (b:Int)=((a / b:Nat):Int):=by rw[Int.tdiv_eq_ediv_of_nonneg (by omega)];simp
 have h3:a / b≤a:=Nat.div_le_self _ _
 simp only[cY,if_true,h1,if_false,h2]
 rw[fF _ (by omega)]
theorem K0 (a b:Nat) (hb:0<b):cY .rem (.int .u64 (a:Int)) (.int .u64 (b:Int))=some (.int .u64 ((a % b:Nat):Int)):=by
 have h1:¬((b:Int)=0):=by omega
 have h2:(a:Int).tmod (b:Int)=((a % b:Nat):Int):=by rw[Int.tmod_eq_emod_of_nonneg (by omega)];simp
 simp only[cY,if_true,h1,if_false,h2]
theorem acD (n s:Nat) (hn:n<4294967296) (hs:s≤31):cY .shl (.int .u64 (n:Int)) (.int .i64 (s:Int))=some (.int .u64 ((n*2^s:Nat):Int)):=by
 have h1:¬((s:Int)<0):=by omega
 have h2:Nat.min (Int.toNat (s:Int)) IntKind.u64.bits=s:=by
  rw[Int.toNat_natCast]
  exact Nat.min_eq_left (by show s≤64;omega)
 have h3:2^s≤2^31:=Nat.pow_le_pow_right (by decide) hs
 have h4:n*2^s≤n*2^31:=Nat.mul_le_mul_left _ h3
 simp only[cY,h1,if_false,h2]
 congr 2
 have e:(n:Int)*2^s=((n*2^s:Nat):Int):=by simp
 rw[e]
 exact fF _ (by omega)
theorem UM (n s:Nat) (hs:s≤31):cY .shr (.int .u64 (n:Int)) (.int .i64 (s:Int))=some (.int .u64 ((n / 2^s:Nat):Int)):=by
 have h1:¬((s:Int)<0):=by omega
 have h2:Nat.min (Int.toNat (s:Int)) IntKind.u64.bits=s:=by
  rw[Int.toNat_natCast]
  exact Nat.min_eq_left (by show s≤64;omega)
 simp only[cY,h1,if_false,h2]
 congr 2
 rw[Int.fdiv_eq_ediv_of_nonneg _ (by exact Int.le_of_lt (Int.pow_pos (by decide)))]
 simp
theorem abN (a m s:Nat) (ha:a<2^s) (hm:m*2^s+a<4294967296):cY .or (.int .u32 (a:Int)) (.int .u32 ((m*2^s:Nat):Int))=some (.int .u32 ((a+m*2^s:Nat):Int)):=by
 have e:a ||| (m*2^s)=a+m*2^s:=by
  have:=Nat.shiftLeft_add_eq_or_of_lt ha m
  rw[Nat.shiftLeft_eq] at this
  rw[Nat.or_comm,←this,Nat.add_comm]
 have e1:(BitVec.ofInt IntKind.u32.bits (a:Int) ||| BitVec.ofInt IntKind.u32.bits ((m*2^s:Nat):Int)).toNat=a+m*2^s:=by
  show (BitVec.ofInt 32 (a:Int) ||| BitVec.ofInt 32 ((m*2^s:Nat):Int)).toNat=a+m*2^s
  rw[BitVec.toNat_or,BitVec.ofInt_natCast,BitVec.ofInt_natCast,BitVec.toNat_ofNat,BitVec.toNat_ofNat,Nat.mod_eq_of_lt (by omega),Nat.mod_eq_of_lt (by omega),e]
 simp only[cY,if_true,e1]
 rw[wrap32,Nat.mod_eq_of_lt (by omega)]
section
variable {rows:List Nat} {b g c n e:Nat} {w:Bool} {H:aC}
theorem KO {m d:Nat} (hr:aM H b g=some (rows.map uV,1,w)) (hn:n≤rows.length) (hc:n≤c) (he:rows.take n=aG 4294967296 m):fz (d+2) H (.ref b g 0 n c)=some (cT m):=by
 have:aX (.ref b g 0 n c)=false:=rfl
 unfold fz
 simp only[this,hr,Bool.false_eq_true,if_false]
 have Ax:aO ((rows.map uV).take n)=true:=by rw[←List.map_take];exact gO fun _=>rfl
 rw[if_pos ⟨by simpa using hn,hc⟩,List.drop_zero,mapM_pure Ax,←List.map_take,he]
 rfl
theorem dC {d:Nat} {u u' v v':VV} (h1:fz (d+1) H u=some u') (h2:fz (d+1) H v=some v'):fz (d+2) H (.eX [u,v])=some (.eX [u',v']):=by
 have e:fz (d+2) H (.eX [u,v])=if aX (.eX [u,v])=true then some (.eX [u,v]) else ([u,v].mapM (fz (d+1) H)).map .eX:=rfl
 rw[e]
 by_cases hp:aX (.eX [u,v])=true
 ·rw[if_pos hp]
  simp only[aX,aO,Bool.and_eq_true,and_true] at hp
  rw[aQ hp.1] at h1
  rw[aQ hp.2] at h2
  cases h1
  cases h2
  rfl
 ·rw[if_neg hp,List.mapM_cons,h1,List.mapM_cons,h2]
  rfl
theorem iA {j d:Nat} (hr:aM H b g=some (rows.map uV,1,w)) (hj:rows[j]? = some d):eZ false 1 (.ptr b g j 0) H=some (uV d):=nZ hr hj
theorem L3 {xs:List Nat} {m d:Nat} (hm:xs.length=m+1) (hd:xs[m]? = some d) (h:d≠0):xs.getLast? ≠ some 0:=by
 rw[List.getLast?_eq_getElem?,hm,Nat.add_sub_cancel,hd]
 simpa using h
end
theorem U7 {rows:List Nat} {b g n c:Nat} {w:Bool} {H:aC} {lo:Nat} (hr:aM H b g=some (rows.map uV,1,w)) (hn:n≤rows.length) (hc:n≤c) (Aq:n≤70368744177664) (hd:∀d∈rows.take n,d<4294967296) :
  kH 105 [.ref b g 0 n c] lo H fun r H'=>H'=H∧∃k,k≤n∧r = .ref b g 0 k c∧rows.take k=aG 4294967296 (val 4294967296 (rows.take n)):=by
 refine kH.walk ⟨true,false⟩ vA (Nat.le_of_ble_eq_true rfl) ?_
 simp only[rG,pE,VX,Nat.reduceEqDiff,Nat.reduceAdd]
 refine bJ (fun(k:Nat) ρ H'=>k≤n∧H'=H∧val 4294967296 (rows.take k)=val 4294967296 (rows.take n)∧ρ 0 = .ref b g 0 k c) (fun k=>k) n ⟨Nat.le_refl _,rfl,rfl,rfl⟩ ?_
 rintro k ρ H' ⟨hk,rfl,hv,h0⟩
 have e0:lY (.ref b g 0 k c) H'=some (VI k):=dI hr
 have done:(rows.take k).getLast? ≠ some 0→rows.take k=aG 4294967296 (val 4294967296 (rows.take n)):=fun cI=>by
  rw[←hv,HQ (by decide) (fun d h=>hd d ?_) cI]
  exact(List.take_sublist_take_left hk).mem h
 rcases Nat.eq_zero_or_pos k with hz | hp
 ·subst hz
  simp only[dX,h0,e0,Int.reduceLT,Int.natCast_zero,VX,Nat.reduceEqDiff,Nat.reduceAdd]
  exact⟨0,hk,rfl,done (by simp)⟩
 ·obtain⟨m,rfl⟩:∃m,k=m+1:=⟨k-1,by omega⟩
  obtain⟨d,hdd⟩:∃d,rows[m]? = some d:=⟨_,List.getElem?_eq_getElem (by omega)⟩
  have Ax:(0:Int)<((m+1:Nat):Int):=by omega
  have w1:IntKind.i64.wrap (((m+1:Nat):Int)-1)=(m:Int):=by rw[wrap64 (by omega) (by omega)];omega
  have e1:aZ 1 (.ref b g 0 (m+1) c) (VI m) H'=some (.ptr b g m 0):=by rw[bD hr (by omega),Nat.zero_add]
  have e2:=iA hr hdd
  by_cases Ar:(d:Int)=0
  ·have Zq:d=0:=by omega
   subst Zq
   have e3:AA 1 (.ref b g 0 (m+1) c) none (some (VI m)) none H'=some (.ref b g 0 m c):=uM hr (by omega)
   simp only[dX,h0,e0,Ax,w1,e1,e2,e3,Ar,VX,Nat.reduceEqDiff,Nat.reduceAdd]
   refine⟨m,by omega,by omega,?_,rfl⟩
   rw[←hv,bG hdd,Nat.mul_zero,Nat.add_zero]
  ·simp only[dX,h0,e0,Ax,w1,e1,e2,Ar,VX,Nat.reduceEqDiff,Nat.reduceAdd]
   refine⟨m+1,hk,rfl,done (L3 (m:=m) (d:=d) (by rw[List.length_take];omega) ?_ (by omega))⟩
   rw[List.getElem?_take_of_lt (by omega)]
   exact hdd
theorem SJ (ds:List Nat) (t:TK) {lo:Nat} {H:aC} (h:∀d∈ds,d<4294967296) (hlen:ds.length≤70368744177664) :
  kH 105 [.tree (ds.map uV) t] lo H fun r H'=>H'=H∧∃t',(t'=t∨t' = .op)∧r = .tree ((aG 4294967296 (val 4294967296 ds)).map uV) t':=by
 refine kH.walk ⟨true,false⟩ vA (Nat.le_of_ble_eq_true rfl) ?_
 simp only[rG,pE,VX,Nat.reduceEqDiff,Nat.reduceAdd]
 refine bJ (fun(s:List Nat×TK) ρ H'=>(∀d∈s.1,d<4294967296)∧val 4294967296 s.1=val 4294967296 ds∧s.1.length≤ds.length∧H'=H∧(s.2=t∨s.2 = .op)∧ρ 0 = .tree (s.1.map uV) s.2) (fun s=>s.1.length) (ds,t) ⟨h,rfl,Nat.le_refl _,rfl,.inl rfl,rfl⟩ ?_
 rintro⟨xs,t'⟩ ρ H' ⟨hx,hv,hl,rfl,ht,h0⟩
 simp only at hx hv hl ht h0
 have done:xs.getLast? ≠ some 0→xs=aG 4294967296 (val 4294967296 ds):=fun cI=>by rw[←hv,HQ (by decide) hx cI]
 rcases Nat.eq_zero_or_pos xs.length with hz | hp
 ·have hxn:xs=[]:=List.length_eq_zero_iff.1 hz
  subst hxn
  simp only[dX,h0,Int.reduceLT,Int.natCast_zero,VX,Nat.reduceEqDiff,Nat.reduceAdd]
  exact⟨t',ht,by rw[←done (by simp)];rfl⟩
 ·obtain⟨m,hm⟩:∃m,xs.length=m+1:=⟨xs.length-1,by omega⟩
  obtain⟨d,hd⟩:∃d,xs[m]? = some d:=⟨_,List.getElem?_eq_getElem (by omega)⟩
  have Ax:(0:Int)<((m+1:Nat):Int):=by omega
  have w1:IntKind.i64.wrap (((m+1:Nat):Int)-1)=(m:Int):=by rw[wrap64 (by omega) (by omega)];omega
  have e1:=aL (f:=uV) (t:=t') (H:=H') (size:=1) (k := .i64) hd rfl
  by_cases Ar:(d:Int)=0
  ·have Zq:d=0:=by omega
   subst Zq
   have e2:=F6 (f:=uV) (size:=1) (t:=t') (H:=H') (k2 := .i64) (xs:=xs) (h:=m) OV (by omega) (by omega)
   have Sh:xs=xs.take m++[0]:=by
    have:=List.take_append_drop m xs
    have h3:=(List.getElem?_eq_some_iff.1 hd)
    rw[List.drop_eq_getElem_cons h3.1,h3.2,List.drop_of_length_le (by omega)] at this
    exact this.symm
   simp only[dX,h0,hm,Ax,w1,e1,e2,Ar,VX,Nat.reduceEqDiff,Nat.reduceAdd]
   refine⟨(xs.take m,.op),by simp only[List.length_take];omega,fun d hd=>hx d (List.mem_of_mem_take hd),?_,by simp only[List.length_take];omega,.inr rfl,rfl⟩
   rw[←hv]
   conv=>rhs;rw[Sh]
   rw[qN]
   simp
  ·simp only[dX,h0,hm,Ax,w1,e1,Ar,VX,Nat.reduceEqDiff,Nat.reduceAdd]
   exact⟨t',ht,by rw[←done (L3 hm hd (by omega))]⟩
theorem xM {rows:List Nat} {b g n c:Nat} {w:Bool} {H:aC} {K:VV→aC→Prop} {m lo:Nat} (hr:aM H b g=some (rows.map uV,1,w)) (hn:n≤rows.length) (hc:n≤c) (Aq:n≤70368744177664) (hd:∀d∈rows.take n,d<4294967296) (hm:val 4294967296 (rows.take n)=m)
  (hk:∀k,k≤n→rows.take k=aG 4294967296 m→K (.ref b g 0 k c) H):cS 105 [.ref b g 0 n c] lo H K:=by
 refine cW rfl ((U7 hr hn hc Aq hd).mono ?_)
 rintro r H' ⟨rfl,k,h1,rfl,h2⟩
 rw[hm] at h2
 exact hk k h1 h2
theorem Hg {ds:List Nat} {t:TK} {lo:Nat} {H:aC} {K:VV→aC→Prop} {m:Nat} (h:∀d∈ds,d<4294967296) (hlen:ds.length≤70368744177664) (hm:val 4294967296 ds=m) (hk:∀t',(t'=t∨t' = .op)→K (.tree ((aG 4294967296 m).map uV) t') H):cS 105 [.tree (ds.map uV) t] lo H K:=by
 refine cW rfl ((SJ ds t h hlen).mono ?_)
 rintro r H' ⟨rfl,t',h1,rfl⟩
 rw[hm]
 exact hk t' h1
theorem XJ {H:aC} {m:Nat} {t:TK} (ht:t = .cl 1∨t = .op):fz depth H (.tree ((aG 4294967296 m).map uV) t)=some (cT m):=by
 rcases ht with rfl | rfl
 ·exact WQ (gO fun _=>rfl)
 ·exact aI (dB m)
end Go.PM
namespace Go.PM
theorem rY (n:Nat) (h:n<18446744073709551616):TC 77 [VK .u64 n] (cT n):=by
 refine TC.walk ⟨true,false⟩ KL rfl (Nat.le_of_ble_eq_true rfl) rfl (xD _) ?_
 have e1:=TY (H:=[]) (z:=[.int .u32 0]) (u:=uV (n % 4294967296)) (v:=uV (n / 4294967296 % 4294967296)) rfl rfl rfl rfl rfl
 have hm:∀d∈[n % 4294967296,n / 4294967296 % 4294967296],d<4294967296:=by
  intro d hd
  simp only[List.mem_cons,List.not_mem_nil,or_false] at hd
  rcases hd with rfl | rfl<;>exact Nat.mod_lt _ (by decide)
 have hv:val 4294967296 [n % 4294967296,n / 4294967296 % 4294967296]=n:=by
  simp only[val]
  have:=Nat.mod_add_div n 4294967296
  rw[Nat.mod_eq_of_lt (show n / 4294967296<4294967296 by omega)]
  omega
 simp only[Is,Ej,wrap32,oN,e1,VX,Nat.reduceEqDiff,Nat.reduceAdd]
 refine Hg (ds:=[n % 4294967296,n / 4294967296 % 4294967296]) (t := .cl 1) hm (by show 2≤70368744177664;decide) hv fun t' ht => ?_
 simp only[VX,Nat.reduceEqDiff,Nat.reduceAdd]
 exact XJ ht
theorem wD (n:Nat) (hn:(aG 4294967296 n).length≤17592186044416):TC 118 [cT n] (if (aG 4294967296 n).length≤2 then .eX [VK .u64 n,VB true] else .eX [VK .u64 0,VB false]):=by
 refine TC.walk ⟨true,false⟩ Cz rfl (Nat.le_of_ble_eq_true rfl) (by simp[aO,dB]) (by split<;>rfl) ?_
 have hv:=cF (b:=4294967296) (by decide) n
 have hl:=gV (b:=4294967296) (by decide) n
 unfold cT Lt
 generalize aG 4294967296 n=ds at *
 have w1:IntKind.i64.wrap ((ds.length:Int)-1)=(ds.length:Int)-1:=wrap64 (by omega) (by omega)
 simp only[xI,sX,w1,VX,Nat.reduceEqDiff,Nat.reduceAdd]
 by_cases h2:ds.length≤2
 ·rw[if_pos h2]
  have c2:(ds.length:Int)≤2:=by omega
  refine bJ (fun(j:Nat) ρ H=>j≤ds.length∧H=[]∧ρ 0=eU uV ds∧ρ 4=VK .u64 (val 4294967296 (ds.drop j):Nat)∧ρ 5=VI ((j:Int)-1)) (fun j=>j) ds.length ⟨Nat.le_refl _,rfl,rfl,by rw[List.drop_length];rfl,rfl⟩ ?_
  rintro j ρ H ⟨hj,rfl,g0,g4,g5⟩
  by_cases hz:(0:Int)≤(j:Int)-1
  ·obtain⟨i,rfl⟩:∃i,j=i+1:=⟨j-1,by omega⟩
   obtain⟨x,hx⟩:∃x,ds[i]? = some x:=⟨_,List.getElem?_eq_getElem (by omega)⟩
   have GH:((i+1:Nat):Int)-1=(i:Int):=by omega
   rw[GH] at g5 hz
   have e1:=aL (f:=uV) (t := .op) (H:=[]) (size:=1) (k := .i64) hx rfl
   have lx:=hl x (List.mem_of_getElem? hx)
   have ld:=nR (b:=4294967296) (xs:=ds.drop (i+1)) fun d hd=>hl d (List.mem_of_mem_drop hd)
   have hle:(ds.drop (i+1)).length≤1:=by rw[List.length_drop];omega
   have hpw:4294967296^(ds.drop (i+1)).length≤4294967296^1:=Nat.pow_le_pow_right (by decide) hle
   rw[Nat.pow_one] at hpw
   have w2:IntKind.i64.wrap ((i:Int)-1)=(i:Int)-1:=wrap64 (by omega) (by omega)
   have w3:IntKind.u64.wrap (x:Int)=(x:Int):=fF _ (by omega)
   have w4:IntKind.u64.wrap (((val 4294967296 (ds.drop (i+1))*4294967296:Nat):Int)+(x:Int))=((val 4294967296 (ds.drop i):Nat):Int):=by
    rw[oS hx,←Int.natCast_add,fF _ (by omega)]
    congr 1
    omega
   have w5:=BA (val 4294967296 (ds.drop (i+1))) .u64 (by omega)
   simp only[jB,g0,g4,g5,hz,c2,e1,w2,w3,w4,w5,VX,Nat.reduceEqDiff,Nat.reduceAdd]
   exact⟨i,by omega,by omega,by (repeat' apply And.intro)<;>first | rfl | trivial⟩
  ·have Qh:j=0:=by omega
   subst Qh
   rw[List.drop_zero,hv] at g4
   simp only[jB,g0,g4,g5,hz,c2,VX,Nat.reduceEqDiff,Nat.reduceAdd]
   exact aI rfl
 ·rw[if_neg h2]
  have c2:¬(ds.length:Int)≤2:=by omega
  have c3:(0:Int)≤(ds.length:Int)-1:=by omega
  refine bJ (fun(j:Nat) ρ H=>H=[]∧ρ 0=eU uV ds∧ρ 4=VK .u64 0∧ρ 5=VI ((ds.length:Int)-1)) (fun j=>j) 0 ⟨rfl,rfl,rfl,rfl⟩ ?_
  rintro j ρ H ⟨rfl,g0,g4,g5⟩
  simp only[jB,g0,g4,g5,c2,c3,VX,Nat.reduceEqDiff,Nat.reduceAdd]
  exact aI rfl
theorem HJ (a b:Nat) (ha:(aG 4294967296 a).length≤17592186044416) (hb:(aG 4294967296 b).length≤17592186044416):TC 80 [cT a,cT b] (VI (lJ a b)):=by
 refine TC.walk ⟨true,false⟩ Fb rfl (Nat.le_of_ble_eq_true rfl) (by simp[aO,dB]) rfl ?_
 have fin:∀ {x:Int},x=lJ a b→fz depth [] (VI x)=some (VI (lJ a b)):=fun h=>by rw[h];exact aI rfl
 unfold cT Lt
 by_cases hl:(((aG 4294967296 a).length:Nat):Int)=(((aG 4294967296 b).length:Nat):Int)
 ·have AR:(aG 4294967296 a).length=(aG 4294967296 b).length:=by omega
  have w1:IntKind.i64.wrap ((((aG 4294967296 b).length:Nat):Int)-1)=(((aG 4294967296 b).length:Nat):Int)-1:=wrap64 (by omega) (by omega)
  simp only[oM,lR,hl,w1,VX,Nat.reduceEqDiff,Nat.reduceAdd]
  refine bJ (fun(j:Nat) ρ H=>j≤(aG 4294967296 b).length∧H=[]∧(aG 4294967296 a).drop j=(aG 4294967296 b).drop j∧ρ 0=eU uV (aG 4294967296 a)∧ρ 1=eU uV (aG 4294967296 b)∧ρ 5=VI ((j:Int)-1)) (fun j=>j) (aG 4294967296 b).length ⟨Nat.le_refl _,rfl,by rw[List.drop_length,←AR,List.drop_length],rfl,rfl,rfl⟩ ?_
  rintro j ρ H ⟨hj,rfl,hd,h0,h1,h5⟩
  by_cases hz:(0:Int)≤(j:Int)-1
  ·obtain⟨i,rfl⟩:∃i,j=i+1:=⟨j-1,by omega⟩
   obtain⟨x,hx⟩:∃x,(aG 4294967296 a)[i]? = some x:=⟨_,List.getElem?_eq_getElem (by omega)⟩
   obtain⟨y,hy⟩:∃y,(aG 4294967296 b)[i]? = some y:=⟨_,List.getElem?_eq_getElem (by omega)⟩
   have GH:((i+1:Nat):Int)-1=(i:Int):=by omega
   have e1:=aL (f:=uV) (t := .op) (H:=[]) (size:=1) (k := .i64) hx rfl
   have e2:=aL (f:=uV) (t := .op) (H:=[]) (size:=1) (k := .i64) hy rfl
   rw[GH] at h5 hz
   have w2:IntKind.i64.wrap ((i:Int)-1)=(i:Int)-1:=wrap64 (by omega) (by omega)
   by_cases C4:(x:Int)=(y:Int)
   ·simp only[iW,h0,h1,h5,hz,e1,e2,C4,w2,VX,Nat.reduceEqDiff,Nat.reduceAdd]
    have abH:x=y:=by omega
    subst abH
    refine⟨i,by omega,by omega,?_⟩
    obtain⟨g1,g2⟩:=List.getElem?_eq_some_iff.1 hx
    obtain⟨g3,g4⟩:=List.getElem?_eq_some_iff.1 hy
    rw[List.drop_eq_getElem_cons g1,List.drop_eq_getElem_cons g3,g2,g4,hd]
    exact⟨rfl,rfl⟩
   ·by_cases aR:(x:Int)<(y:Int)
    ·simp only[iW,h0,h1,h5,hz,e1,e2,C4,aR,VX,Nat.reduceEqDiff,Nat.reduceAdd]
     refine fin ?_
     have:=Bi (gV (by decide) a) AR hx hy hd (by omega)
     rw[cF (by decide),cF (by decide)] at this
     simp[lJ,this]
    ·simp only[iW,h0,h1,h5,hz,e1,e2,C4,aR,VX,Nat.reduceEqDiff,Nat.reduceAdd]
     refine fin ?_
     have:=Bi (gV (by decide) b) AR.symm hy hx hd.symm (by omega)
     rw[cF (by decide),cF (by decide)] at this
     rw[lJ,if_neg (by omega),if_neg (by omega)]
  ·have Qh:j=0:=by omega
   subst Qh
   simp only[iW,h0,h1,h5,hz,VX,Nat.reduceEqDiff,Nat.reduceAdd]
   refine fin ?_
   have:=Oj (b:=4294967296) (by decide) (by simpa using hd)
   subst this
   simp[lJ]
 ·by_cases aR:(((aG 4294967296 a).length:Nat):Int)<(((aG 4294967296 b).length:Nat):Int)
  ·simp only[oM,lR,hl,aR,VX,Nat.reduceEqDiff,Nat.reduceAdd]
   refine fin ?_
   have:=Bj (b:=4294967296) (by decide) (m:=a) (n:=b) (by omega)
   simp[lJ,this]
  ·simp only[oM,lR,hl,aR,VX,Nat.reduceEqDiff,Nat.reduceAdd]
   refine fin ?_
   have:=Bj (b:=4294967296) (by decide) (m:=b) (n:=a) (by omega)
   rw[lJ,if_neg (by omega),if_neg (by omega)]
end Go.PM
namespace Go.PM
section
variable {b:Nat}
theorem J6 (hb:2≤b) (n i:Nat):(aG b n).getD i 0=n / b^i % b:=by
 induction i generalizing n with
 |
  zero =>
  by_cases h:n=0
  ·subst h;simp[bO]
  ·rw[iI hb h,List.getD_cons_zero,Nat.pow_zero,Nat.div_one]
 |
  succ i ih =>
  by_cases h:n=0
  ·subst h;simp[bO]
  ·rw[iI hb h,List.getD_cons_succ,ih,Nat.div_div_eq_div_mul,Nat.pow_succ,Nat.mul_comm b]
theorem RD (hb:2≤b) {n i:Nat}:i<(aG b n).length↔n / b^i≠0:=by
 induction i generalizing n with
 |
  zero =>
  rw[Nat.pow_zero,Nat.div_one,List.length_pos_iff]
  exact not_congr (lD hb)
 |
  succ i ih =>
  by_cases h:n=0
  ·subst h;simp[bO]
  ·rw[iI hb h,List.length_cons,Nat.add_lt_add_iff_right,ih,Nat.div_div_eq_div_mul,Nat.pow_succ,Nat.mul_comm b]
theorem WV (hb:2≤b) {n i:Nat} (h:i<(aG b n).length):(aG b n)[i]? = some (n / b^i % b):=by
 rw[←J6 hb,List.getD_eq_getElem?_getD,List.getElem?_eq_getElem h]
 rfl
theorem LC (n i:Nat):n / b^(i+1)=n / b^i / b:=by rw[Nat.div_div_eq_div_mul,Nat.pow_succ]
theorem Ta (hb:2≤b) {n d q:Nat} (hn:n≠0) (h:n=d+b*q) (hd:d<b):aG b n=d::aG b q:=by
 rw[iI hb hn,h,Nat.add_mul_mod_self_left,Nat.mod_eq_of_lt hd,Nat.add_mul_div_left _ _ (by omega),Nat.div_eq_of_lt hd,Nat.zero_add]
theorem TA (hb:2≤b) {x d c:Nat} (h:x*d+c≠0):aG b (x*d+c)=(x % b*d+c) % b::aG b (x / b*d+(x % b*d+c) / b):=by
 refine Ta hb h ?_ (Nat.mod_lt _ (by omega))
 have h1:=Nat.mod_add_div x b
 have h3:=Nat.mod_add_div (x % b*d+c) b
 have e:b*(x / b*d+(x % b*d+c) / b)=b*(x / b)*d+b*((x % b*d+c) / b):=by grind
 have e2:x*d=x % b*d+b*(x / b)*d:=by
  conv=>lhs;rw[←h1,Nat.add_mul]
 omega
theorem Lu (hb:2≤b) (m n:Nat):(aG b (m*n)).length≤(aG b m).length+(aG b n).length:=by
 refine kZ hb ?_
 rw[Nat.pow_add]
 exact Nat.mul_lt_mul'' (gW hb m) (gW hb n)
theorem AS (hb:2≤b) {c:Nat} (h:c≠0) (hc:c<b):aG b c=[c]:=by
 rw[iI hb h,Nat.mod_eq_of_lt hc,Nat.div_eq_of_lt hc,bO]
end
end Go.PM
namespace Go.PM
abbrev tV (d:Nat):VV:=VI (d:Int)
abbrev fY (ds:List Nat):VV:=eU tV ds
def bY (n:Nat):VV:=fY (aG 1000000000 n)
theorem CE:∀d:Nat,(aB (tV d)).length=1:=fun _=>rfl
theorem tP (ds:List Nat):aX (fY ds)=true:=mD CE fun _=>rfl
theorem TH (ds:List Nat):iZ (fY ds)=true:=IA CE (fun _=>rfl) fun _=>rfl
theorem cJ (n:Nat):aX (bY n)=true:=tP _
theorem oQ (n:Nat):iZ (bY n)=true:=TH _
theorem EC:bY 0 = .tree [] .op:=by rw[bY,bO];rfl
theorem WK:bY 1=fY [1]:=by rw[bY,iI (by decide) (by decide),bO]
theorem fX (n:Nat) {H:aC}:lY (bY n) H=some (VI (aG 1000000000 n).length):=dS
section
variable {α:Type} {f:α→VV} {xs:List α} {x:α} {H:aC}
theorem GI {g e:Nat} {es:List VV} {w:Bool}:aM [.row g es e w] 0 g=some (es,e,w):=bK
theorem amD {e bytes:Nat} (he:1≤e) (hb:1≤bytes) (Aa:(xs.length+1)*bytes≤140737488355328):dW 0 e bytes (.ref 0 xs.length 0 xs.length xs.length) [f x] [.row xs.length (xs.map f) e true]=some (.ref 0 (xs.length+1) 0 (xs.length+1) (xs.length+1),[.row (xs.length+1) ((xs++[x]).map f) e true]):=by
 rw[lP (f:=f) (x:=x) bK rfl (Nat.le_refl _) he hb Aa]
 rfl
theorem W7 {n g e:Nat} {w:Bool} (hp:∀x,aX (f x)=true) (hn:n=xs.length):fz depth [.row g (xs.map f) e w] (.ref 0 g 0 n n)=some (eU f xs):=IT bK (by simpa using hn) (Nat.le_refl _) (gO hp)
end
theorem UF {lr:Bool}:oU lr [.int .i64 0] 0 [] []=some (.ref 0 0 0 0 0,[.row 0 (([]:List Nat).map tV) 1 true]):=mW (H:=[]) rfl
theorem DF {d:Int} {H:aC}:oU false [.int .i64 0] 1 [(0,VI d)] H=some (.tree [VI d] (.cl 1),H):=lH rfl rfl rfl
theorem Iv {d:Int} {H:aC} {t:TK}:cM 1 (.tree [VI d] t) H=some [VI d]:=hC rfl rfl
theorem anT {ds:List Nat} {d:Nat} (h:ds.length<17592186044416):dW 0 1 8 (.ref 0 ds.length 0 ds.length ds.length) [VI (d:Int)] [.row ds.length (ds.map tV) 1 true]=some (.ref 0 (ds.length+1) 0 (ds.length+1) (ds.length+1),[.row (ds.length+1) ((ds++[d]).map tV) 1 true]):=amD (f:=tV) (by decide) (by decide) (by omega)
theorem MR (n:Nat):cY .rem (.int .i64 (n:Int)) (.int .i64 1000000000)=some (.int .i64 ((n % 1000000000:Nat):Int)):=by
 have h2:(n:Int).tmod 1000000000=((n % 1000000000:Nat):Int):=by rw[Int.tmod_eq_emod_of_nonneg (by omega)];simp
 simp only[cY,if_true,h2]
 rfl
theorem Oc (n:Nat) (h:n≤9223372036854775807):cY .quo (.int .i64 (n:Int)) (.int .i64 1000000000)=some (.int .i64 ((n / 1000000000:Nat):Int)):=by
 have h2:(n:Int).tdiv 1000000000=((n / 1000000000:Nat):Int):=by rw[Int.tdiv_eq_ediv_of_nonneg (by omega)];simp
 simp only[cY,if_true,h2]
 rw[wrap64 (by omega) (by omega)]
 rfl
theorem oI (ds:List Nat) (h:∀d∈ds,d<1000000000) (hlen:ds.length≤70368744177664):TC 110 [fY ds] (bY (val 1000000000 ds)):=by
 refine TC.walk ⟨true,false⟩ Ia rfl (Nat.le_of_ble_eq_true rfl) (by simp[aO,tP]) (oQ _) ?_
 simp only[DN,Au,VX,Nat.reduceEqDiff,Nat.reduceAdd]
 refine bJ (fun(xs:List Nat) ρ H'=>(∀d∈xs,d<1000000000)∧val 1000000000 xs=val 1000000000 ds∧xs.length≤ds.length∧H'=[]∧ρ 0=fY xs) (fun s=>s.length) ds ⟨h,rfl,Nat.le_refl _,rfl,rfl⟩ ?_
 rintro xs ρ H' ⟨hx,hv,hl,rfl,h0⟩
 have done:xs.getLast? ≠ some 0→fz depth [] (fY xs)=some (bY (val 1000000000 ds)):=fun cI=>by rw[bY,←hv,HQ (by decide) hx cI];exact aI (tP _)
 rcases Nat.eq_zero_or_pos xs.length with hz | hp
 ·have hxn:xs=[]:=List.length_eq_zero_iff.1 hz
  subst hxn
  simp only[nC,h0,Int.reduceLT,Int.natCast_zero,dS,List.length_nil,VX,Nat.reduceEqDiff,Nat.reduceAdd]
  exact done (by simp)
 ·obtain⟨m,hm⟩:∃m,xs.length=m+1:=⟨xs.length-1,by omega⟩
  obtain⟨d,hd⟩:∃d,xs[m]? = some d:=⟨_,List.getElem?_eq_getElem (by omega)⟩
  have Ax:(0:Int)<((m+1:Nat):Int):=by omega
  have w1:IntKind.i64.wrap (((m+1:Nat):Int)-1)=(m:Int):=by rw[wrap64 (by omega) (by omega)];omega
  have e1:=aL (f:=tV) (t := .op) (H:=[]) (size:=1) (k := .i64) hd rfl
  by_cases Ar:(d:Int)=0
  ·have Zq:d=0:=by omega
   subst Zq
   have e2:=F6 (f:=tV) (size:=1) (t := .op) (H:=[]) (k2 := .i64) (xs:=xs) (h:=m) CE (by omega) (by omega)
   have Sh:xs=xs.take m++[0]:=by
    have:=List.take_append_drop m xs
    have h3:=(List.getElem?_eq_some_iff.1 hd)
    rw[List.drop_eq_getElem_cons h3.1,h3.2,List.drop_of_length_le (by omega)] at this
    exact this.symm
   simp only[nC,h0,hm,Ax,w1,e1,e2,Ar,dS,VX,Nat.reduceEqDiff,Nat.reduceAdd]
   refine⟨xs.take m,by simp only[List.length_take];omega,fun d hd=>hx d (List.mem_of_mem_take hd),?_,by simp only[List.length_take];omega,by first | rfl | exact⟨rfl,rfl⟩⟩
   rw[←hv]
   conv=>rhs;rw[Sh]
   rw[qN]
   simp
  ·simp only[nC,h0,hm,Ax,w1,e1,Ar,dS,VX,Nat.reduceEqDiff,Nat.reduceAdd]
   exact done (L3 hm hd (by omega))
theorem Jt {outs:List Nat} {n g m:Nat} {lo:Nat} {w:Bool} {K:VV→aC→Prop} (hd:∀d∈outs,d<1000000000) (hn:n=outs.length) (hlen:outs.length≤70368744177664) (hm:val 1000000000 outs=m) (hk:K (bY m) (cA [.row g (outs.map tV) 1 w] [0])) :
  cS 110 [.ref 0 g 0 n n] lo [.row g (outs.map tV) 1 w] K:=by
 subst hm
 rw[TC.Yo (f:=tV) (oI outs hd hlen) bK hn (Nat.le_refl _) CE (fun _=>rfl) rfl rfl]
 exact hk
theorem Xd {H:aC} (n:Nat):fz depth H (bY n)=some (bY n):=aI (cJ n)
theorem vS (n:Int) (h1:n≤9223372036854775807):TC 98 [VI n] (bY n.toNat):=by
 refine TC.walk ⟨true,false⟩ I2 rfl (Nat.le_of_ble_eq_true rfl) rfl (oQ _) ?_
 simp only[FK,B6,UF,VX,Nat.reduceEqDiff,Nat.reduceAdd]
 refine bJ (fun(s:Int×List Nat) ρ H=>s.1≤9223372036854775807∧H=[.row s.2.length (s.2.map tV) 1 true]∧s.2.length≤63∧s.1.toNat*2^s.2.length≤9223372036854775807∧aG 1000000000 n.toNat=s.2++aG 1000000000 s.1.toNat∧ρ 0=VI s.1∧ρ 3 = .ref 0 s.2.length 0 s.2.length s.2.length) (fun s=>s.1.toNat) (n,[]) ⟨h1,rfl,by simp,by simp only[List.length_nil,Nat.pow_zero,Nat.mul_one];omega,rfl,rfl,rfl⟩ ?_
 rintro⟨m,ds⟩ ρ H ⟨hm,rfl,hl,aR,hd,g0,g3⟩
 simp only at hm hl aR hd g0 g3
 by_cases hp:(0:Int)<m
 ·obtain⟨k,rfl⟩:∃k:Nat,m=(k:Int):=⟨m.toNat,by omega⟩
  rw[Int.toNat_natCast] at aR hd
  have hk0:k≠0:=by omega
  have Fs:ds.length<63:=by
   rcases Nat.lt_or_ge ds.length 63 with h | h
   ·exact h
   ·have e:2^ds.length=9223372036854775808:=by rw[show ds.length=63 by omega]
    rw[e] at aR
    omega
  have r1:=MR k
  have q1:=Oc k (by omega)
  have a1:=anT (ds:=ds) (d:=k % 1000000000) (by omega)
  simp only[sW,g0,g3,hp,r1,q1,DF,Iv,a1,VX,Nat.reduceEqDiff,Nat.reduceAdd]
  refine⟨(((k / 1000000000:Nat):Int),ds++[k % 1000000000]),?_,by simp only;omega,by simp,by simp;omega,?_,?_,rfl,by simp⟩
  ·simp only[Int.toNat_natCast];exact Nat.div_lt_self (by omega) (by decide)
  ·simp only[Int.toNat_natCast,List.length_append,List.length_singleton,Nat.pow_succ]
   have h1:k / 1000000000*2≤k:=by omega
   have:=Nat.mul_le_mul_right (2^ds.length) h1
   rw[Nat.mul_assoc,Nat.mul_comm 2] at this
   omega
  ·simp only[Int.toNat_natCast]
   rw[hd,iI (by decide) hk0,List.append_assoc]
   rfl
 ·have hz:m.toNat=0:=by omega
  rw[hz,bO,List.append_nil] at hd
  simp only[sW,g0,g3,hp,VX,Nat.reduceEqDiff,Nat.reduceAdd]
  rw[bY,hd]
  exact W7 (fun _=>rfl) rfl
theorem vK (a b:Nat) (ha:(aG 1000000000 a).length≤17592186044416) (hb:(aG 1000000000 b).length≤17592186044416):TC 93 [bY a,bY b] (VI (lJ a b)):=by
 refine TC.walk ⟨true,false⟩ Jg rfl (Nat.le_of_ble_eq_true rfl) (by simp[aO,cJ]) rfl ?_
 have fin:∀ {x:Int},x=lJ a b→fz depth [] (VI x)=some (VI (lJ a b)):=fun h=>by rw[h];exact aI rfl
 unfold bY fY
 by_cases hl:(((aG 1000000000 a).length:Nat):Int)=(((aG 1000000000 b).length:Nat):Int)
 ·have AR:(aG 1000000000 a).length=(aG 1000000000 b).length:=by omega
  have w1:IntKind.i64.wrap ((((aG 1000000000 b).length:Nat):Int)-1)=(((aG 1000000000 b).length:Nat):Int)-1:=wrap64 (by omega) (by omega)
  simp only[vF,qH,hl,w1,VX,Nat.reduceEqDiff,Nat.reduceAdd]
  refine bJ (fun(j:Nat) ρ H=>j≤(aG 1000000000 b).length∧H=[]∧(aG 1000000000 a).drop j=(aG 1000000000 b).drop j∧ρ 0=eU tV (aG 1000000000 a)∧ρ 1=eU tV (aG 1000000000 b)∧ρ 5=VI ((j:Int)-1)) (fun j=>j) (aG 1000000000 b).length ⟨Nat.le_refl _,rfl,by rw[List.drop_length,←AR,List.drop_length],rfl,rfl,rfl⟩ ?_
  rintro j ρ H ⟨hj,rfl,hd,h0,h1,h5⟩
  by_cases hz:(0:Int)≤(j:Int)-1
  ·obtain⟨i,rfl⟩:∃i,j=i+1:=⟨j-1,by omega⟩
   obtain⟨x,hx⟩:∃x,(aG 1000000000 a)[i]? = some x:=⟨_,List.getElem?_eq_getElem (by omega)⟩
   obtain⟨y,hy⟩:∃y,(aG 1000000000 b)[i]? = some y:=⟨_,List.getElem?_eq_getElem (by omega)⟩
   have GH:((i+1:Nat):Int)-1=(i:Int):=by omega
   have e1:=aL (f:=tV) (t := .op) (H:=[]) (size:=1) (k := .i64) hx rfl
   have e2:=aL (f:=tV) (t := .op) (H:=[]) (size:=1) (k := .i64) hy rfl
   rw[GH] at h5 hz
   have w2:IntKind.i64.wrap ((i:Int)-1)=(i:Int)-1:=wrap64 (by omega) (by omega)
   by_cases C4:(x:Int)=(y:Int)
   ·simp only[lK,h0,h1,h5,hz,e1,e2,C4,w2,VX,Nat.reduceEqDiff,Nat.reduceAdd]
    have abH:x=y:=by omega
    subst abH
    refine⟨i,by omega,by omega,?_⟩
    obtain⟨g1,g2⟩:=List.getElem?_eq_some_iff.1 hx
    obtain⟨g3,g4⟩:=List.getElem?_eq_some_iff.1 hy
    rw[List.drop_eq_getElem_cons g1,List.drop_eq_getElem_cons g3,g2,g4,hd]
    exact⟨rfl,rfl⟩
   ·by_cases aR:(x:Int)<(y:Int)
    ·simp only[lK,h0,h1,h5,hz,e1,e2,C4,aR,VX,Nat.reduceEqDiff,Nat.reduceAdd]
     refine fin ?_
     have:=Bi (gV (by decide) a) AR hx hy hd (by omega)
     rw[cF (by decide),cF (by decide)] at this
     simp[lJ,this]
    ·simp only[lK,h0,h1,h5,hz,e1,e2,C4,aR,VX,Nat.reduceEqDiff,Nat.reduceAdd]
     refine fin ?_
     have:=Bi (gV (by decide) b) AR.symm hy hx hd.symm (by omega)
     rw[cF (by decide),cF (by decide)] at this
     rw[lJ,if_neg (by omega),if_neg (by omega)]
  ·have Qh:j=0:=by omega
   subst Qh
   simp only[lK,h0,h1,h5,hz,VX,Nat.reduceEqDiff,Nat.reduceAdd]
   refine fin ?_
   have:=Oj (b:=1000000000) (by decide) (by simpa using hd)
   subst this
   simp[lJ]
 ·by_cases aR:(((aG 1000000000 a).length:Nat):Int)<(((aG 1000000000 b).length:Nat):Int)
  ·simp only[vF,qH,hl,aR,VX,Nat.reduceEqDiff,Nat.reduceAdd]
   refine fin ?_
   have:=Bj (b:=1000000000) (by decide) (m:=a) (n:=b) (by omega)
   simp[lJ,this]
  ·simp only[vF,qH,hl,aR,VX,Nat.reduceEqDiff,Nat.reduceAdd]
   refine fin ?_
   have:=Bj (b:=1000000000) (by decide) (m:=b) (n:=a) (by omega)
   rw[lJ,if_neg (by omega),if_neg (by omega)]
theorem Gj (ds:List Nat) (i:Nat):TC 113 [fY ds,VI (i:Int)] (tV (ds.getD i 0)):=by
 refine TC.walk ⟨true,false⟩ Gr rfl (Nat.le_of_ble_eq_true rfl) (by simp[aO,tP];rfl) rfl ?_
 by_cases h:(i:Int)<(ds.length:Int)
 ·obtain⟨d,hd⟩:∃d,ds[i]? = some d:=⟨_,List.getElem?_eq_getElem (by omega)⟩
  have e1:=aL (f:=tV) (t := .op) (H:=[]) (size:=1) (k := .i64) hd rfl
  simp only[vU,rC,dS,h,e1,VX,Nat.reduceEqDiff,Nat.reduceAdd]
  rw[List.getD_eq_getElem?_getD,hd]
  exact aI rfl
 ·simp only[vU,rC,dS,h,VX,Nat.reduceEqDiff,Nat.reduceAdd]
  rw[List.getD_eq_getElem?_getD,List.getElem?_eq_none (by omega)]
  exact aI rfl
theorem Nb (n i:Nat):TC 113 [bY n,VI (i:Int)] (tV (n / 1000000000^i % 1000000000)):=by
 have:=Gj (aG 1000000000 n) i
 rwa [J6 (by decide)] at this
end Go.PM
namespace Go.PM
theorem GJ {es:List VV} {g e:Nat} {w:Bool}:aM [.row g es e w] 0 g=some (es,e,w):=bK
end Go.PM
namespace Go.PM
theorem WD {x:Int} {r:Nat} (h:x+4294967296=r) (hx:x<0) (hr:0≤x+4294967296):IntKind.u32.wrap x=(r:Int):=by rw[IntKind.wrap_u32];omega
theorem acO (n:Nat) (hn:n≤70368744177664):zY [.int .u32 0] 4 (VI (n:Int)) (VI (n:Int)) []=some (.ref 0 0 0 n n,[.row 0 ((List.replicate n 0).map uV) 1 true]):=wZ (f:=uV) (x:=0) rfl (by omega) (by omega)
theorem abM {outs:List Nat} {i d:Nat} (hi:i<outs.length):dE 0 1 (.ptr 0 0 i 0) (uV d) [.row 0 (outs.map uV) 1 true]=some [.row 0 ((outs.set i d).map uV) 1 true]:=by
 rw[iE (f:=uV) (e:=1) GJ hi (Nat.le_refl _) rfl rfl]
 rfl
theorem Ur {P Q A B Y x c r q o y W:Nat} (Nx:A+P*Q*c=B+P*(x*Y)) (h1:r+W*q=c+(x*y+o)):A+P*Q*r+P*Q*W*q=B+P*Q*o+P*(x*(Y+Q*y)):=by
 have h2:P*Q*(r+W*q)=P*Q*(c+(x*y+o)):=by rw[h1]
 grind
end Go.PM