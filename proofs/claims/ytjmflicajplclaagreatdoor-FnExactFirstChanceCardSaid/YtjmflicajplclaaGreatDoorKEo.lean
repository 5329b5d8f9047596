/- Texts of a claim, in one: part 15. -/
import Derived.KernelRfl
import Derived.Lib.LaidTab
import Derived.LaidLaws
import Derived.LaidMore
import Derived.MakeChecks
import Derived.Handed
import Derived.Test.YtjmflicajplclaaGreatDoorKEn
open And renaming intro → aMU
open Bool renaming not_false → aOK,not_true → aOJ
open Int renaming natCast_mul → aNx
open List renaming cons_append → aME,getD_eq_getElem?_getD → aLb,getElem?_eq_getElem → aLl,length_append → aLp,length_cons → aLo,length_map → aMV,length_nil → aMR,length_replicate → aM3,length_set → aNt,mem_of_getElem? → aL8,nil_append → aMw,prefix_append → aM9,prefix_refl → aOO
open Nat renaming add_zero → aNq,le_of_ble_eq_true → aM2,le_refl → aLe,le_trans → aLf,lt_irrefl → aOM,lt_or_ge → aLh,lt_succ_of_lt → aOP,lt_succ_self → aON,mul_le_mul → aNw,mul_le_mul_right → aLF,not_lt_zero → aMv,pow_le_pow_right → aNh,succ_mul → aL3,zero_add → aMM,zero_le → aLI,zero_lt_one → aOo,zero_mul → aMh
open Rat renaming zero_mul → aOL
set_option linter.unusedSimpArgs false
set_option linter.unusedVariables false
namespace Go.PM
open Go.Lib
def fF (x y:G1) (t:Nat) (R:Nat→Rat) (a c:Nat):Rat:=if a<t then pU x y a c else if a=t then R c else 0
section
variable {x y:G1} {t:Nat} {R:Nat→Rat}
theorem apD {a c:Nat}:(0:Rat)=fF x y 0 (fun _=>0) a c:=by
 unfold fF
 rw[if_neg (aMv _)]
 split<;>rfl
theorem axO {c:Nat}:fF x y t R t c=R c:=by unfold fF;rw[if_neg (aOM _),if_pos rfl]
theorem Wy {R':Nat→Rat} {N a c:Nat} (h:∀c,c<N→R c=R' c) (hc:c<N):fF x y t R a c=fF x y t R' a c:=by
 unfold fF
 rw[h c hc]
theorem awT {R':Nat→Rat} {N c0 a c:Nat} {v:Rat} (h:∀c,c<N→(if c=c0 then v else R c)=R' c) (hc:c<N):OH (fF x y t R) t c0 v a c=fF x y t R' a c:=by
 unfold OH fF
 by_cases h1:a=t
 ·subst h1
  simp only[aOM,if_false,if_true,←h c hc,true_and]
 ·rw[if_neg (fun h=>h1 h.1),if_neg h1,if_neg h1]
theorem atD {N c0 a c:Nat} {v:Rat} (h:∀c,c<N→(if c=c0 then v else R c)=pU x y t c) (hc:c<N):OH (fF x y t R) t c0 v a c=fF x y (t+1) (fun _=>0) a c:=by
 unfold OH fF
 by_cases h1:a=t
 ·subst h1
  rw[if_pos (aON _),←h c hc,if_neg (aOM _),if_pos rfl]
  by_cases h2:c=c0
  ·rw[if_pos ⟨rfl,h2⟩,if_pos h2]
  ·rw[if_neg (fun h=>h2 h.2),if_neg h2]
 ·rw[if_neg (fun h=>h1 h.1),if_neg h1]
  by_cases h2:a<t
  ·rw[if_pos h2,if_pos (by omega)]
  ·rw[if_neg h2,if_neg (by omega)]
   split<;>rfl
end
theorem Tw {x y:G1} (hx:yM x) {i j k c:Nat}:aL (r1 x y i j k c)≤1000:=by
 unfold r1
 have h1:=hx.vP (P:=fun q=>aL q≤665) (fun q h=>h.2) i (c / y.1.length)
 have h2:=KA 0 (gE x.2.1 i (c / y.1.length))
 have h3:=nC
 split<;>omega
theorem aaV {x y:G1} (hx:yM x) (hy:yM y) {i j k c:Nat}:aL (r2 x y i j k c)≤3000:=by
 unfold r2
 have h0:=Tw hx (y:=y) (i:=i) (j:=j) (k:=x.1.length) (c:=c)
 have h1:=hy.vP (P:=fun q=>aL q≤665) (fun q h=>h.2) j (c % y.1.length)
 have h2:=KA (r1 x y i j x.1.length c) (gE y.2.1 j (c % y.1.length))
 split<;>omega
theorem JW {x:G1} (hx:yM x) {i:Nat}:aL (Sg (gE x.2.1 i) x.1.length+eE x.2.2 i)≤6000:=by
 have h1:=alY (f:=gE x.2.1 i) (B:=665) (n:=x.1.length) (fun j _=>hx.vP (P:=fun q=>aL q≤665) (fun q h=>h.2) i j) x.1.length (aLe _)
 have h2:=hx.Am (P:=fun q=>aL q≤665) (fun q h=>h.2) i
 have h3:=yS (Sg (gE x.2.1 i) x.1.length) (eE x.2.2 i)
 have h4:=hx.n
 have h5:x.1.length*(665+1)≤6*(665+1):=aLF _ h4.2
 omega
theorem abA {x:G1} (hx:yM x) {i j:Nat} (hi:i<x.1.length) (hj:j<x.1.length):∃row,x.2.1[i]? = some row∧row[j]? = some (gE x.2.1 i j):=by
 obtain⟨row,h1,h2⟩:=TE (g:=x.2.1) (i:=i) (by rw[hx.g];exact hi)
 have h3:=hx.gr row (aL8 h1)
 refine⟨row,h1,?_⟩
 rw[h2,aLb,aLl (by rw[h3.1];exact hj)]
 rfl
theorem anL {x:G1} (hx:yM x) {i:Nat} (hi:i<x.1.length):x.2.2[i]? = some (eE x.2.2 i):=by
 unfold eE
 rw[aLb,aLl (by rw[hx.e];exact hi)]
 rfl
theorem ZO {u:List Rat} {i:Nat} (hi:i<u.length):u[i]? = some (u.getD i 0):=by
 rw[aLb,aLl hi]
 rfl
structure LU (x y:G1) (hi tb tg t:Nat) (R:Nat→Rat) (u:Nat) (H:aA):Prop where
 fx:aJ H 0 0=some ([Hy x],3,true)
 fy:aJ H 1 0=some ([Hy y],3,true)
 ft:Tb aG 2 hi (pN x y) (pN x y) tb tg (fF x y t R) H
 fr:aJ H hi u=some ((vec u (pB x y)).map aG,3,true)
 fh:2≤hi
section
variable {x y:G1} {hi tb tg t u:Nat} {R:Nat→Rat} {H:aA}
theorem LU.congr {t':Nat} {R':Nat→Rat} (h:LU x y hi tb tg t R u H) (he:∀a c,a<pN x y→c<pN x y→fF x y t R a c=fF x y t' R' a c):LU x y hi tb tg t' R' u H:=⟨h.fx,h.fy,h.ft.congr he,h.fr,h.fh⟩
theorem LU.cell (h:LU x y hi tb tg t R u H) {c0:Nat} (ht:t<pN x y) (hc:c0<pN x y):∃p q,bG false 1 (.ptr tb tg t 0) H=some p∧bI 3 p (VI c0) H=some q∧bG true 3 q H=some (aG (R c0)) ∧
  ∀v,∃H',bM 0 3 q (aG v) H=some H'∧(∀R',(∀c,c<pN x y→(if c=c0 then v else R c)=R' c)→LU x y hi tb tg t R' u H')∧((∀c,c<pN x y→(if c=c0 then v else R c)=pU x y t c)→LU x y hi tb tg (t+1) (fun _=>0) u H'):=by
 obtain⟨rb1,rg1,rc1,c1,c2,c3,c4⟩:=h.ft.spot ht hc fD lK
 have c3:=(c3 true).trans (bK _)
 rw[axO] at c3
 refine⟨_,_,c1,c2,c3,fun v => ?_⟩
 obtain⟨H',c5,c6,hT',_⟩:=c4 0 v (aLI _)
 have hh:=h.fh
 exact⟨H',c5,fun R' hR=>⟨c6.2 _ _ _ (.inl (by decide)) h.fx,c6.2 _ _ _ (.inl (by decide)) h.fy,hT'.congr fun a c _ W8=>awT hR W8,c6.2 _ _ _ (.inr (aLe _)) h.fr,h.fh⟩,
  fun hR=>⟨c6.2 _ _ _ (.inl (by decide)) h.fx,c6.2 _ _ _ (.inl (by decide)) h.fy,hT'.congr fun a c _ W8=>atD hR W8,c6.2 _ _ _ (.inr (aLe _)) h.fr,h.fh⟩⟩
theorem LU.snoc (h:LU x y hi tb tg t R u H) (hu:u≤1000):dK 0 3 56 (.ref hi u 0 u u) [aG (pB x y u)] H=some (.ref hi (u+1) 0 (u+1) (u+1),H.set hi (.row (u+1) ((vec u (pB x y)++[pB x y u]).map aG) 3 true))∧LU x y hi tb tg t R (u+1) (H.set hi (.row (u+1) ((vec u (pB x y)++[pB x y u]).map aG) 3 true)):=by
 have hh:=h.fh
 refine⟨NQ h.fr (by rw[oV]) (aLI _) (by decide) (by decide) (by omega),aW (by omega) h.fx,aW (by omega) h.fy,h.ft.cW (jX.set (.inr (aLe _))),?_,hh⟩
 rw[PK]
 exact cP h.fr
theorem LU.lx (h:LU x y hi tb tg t R u H):bG true 3 (.ptr 0 0 0 0) H=some (Hy x):=by rw[bJ,h.fx];exact ahN
theorem LU.ly (h:LU x y hi tb tg t R u H):bG true 3 (.ptr 1 0 0 0) H=some (Hy y):=by rw[bJ,h.fy];exact ahN
theorem LU.gx (h:LU x y hi tb tg t R u H):lR 1 (.ptr 0 0 0 0) H=some (.ptr 0 0 0 1)∧bG false 1 (.ptr 0 0 0 1) H=some (aC (aC aG) x.2.1):=⟨by rw[rU h.fx],by rw[bJ,h.fx];rfl⟩
theorem LU.gy (h:LU x y hi tb tg t R u H):lR 1 (.ptr 1 0 0 0) H=some (.ptr 1 0 0 1)∧bG false 1 (.ptr 1 0 0 1) H=some (aC (aC aG) y.2.1):=⟨by rw[rU h.fy],by rw[bJ,h.fy];rfl⟩
theorem LU.ex (h:LU x y hi tb tg t R u H):lR 2 (.ptr 0 0 0 0) H=some (.ptr 0 0 0 2)∧bG false 1 (.ptr 0 0 0 2) H=some (aC aG x.2.2):=⟨by rw[rU h.fx],by rw[bJ,h.fx];rfl⟩
theorem LU.addr {c:Nat} (h:LU x y hi tb tg t R u H) {i:Nat} (qK:i<pN x y):bI 1 (.ref tb tg 0 (pN x y) c) (VI i) H=some (.ptr tb tg i 0):=h.ft.addr qK
end
set_option maxHeartbeats 32000000 in
set_option maxRecDepth 30000 in
theorem IP (a b:rV) (ha:LR a) (hb:LR b):TC 56 [tX a,tX b] (fcV a b):=by
 refine TC.walk ⟨true,false⟩ HZ rfl (aM2 rfl) (CE (jN _) (jN _)) (Zw _ _) ?_
 have e1:=Ic a b ha hb
 have IW:∀v,(aB v).length=3→(aB v).all bP=true→bM 0 3 (.ptr 0 0 0 0) v [dI,dI]=some [.row 0 [v] 3 true,dI]:=fun v h1 h2=>by
  rw[bS (e:=3) (g:=0) (j:=0) aQ (by exact aOo) (aLI _) h1 h2]
  rfl
 have XL:∀u v,(aB v).length=3→(aB v).all bP=true→bM 0 3 (.ptr 1 0 0 0) v [.row 0 [u] 3 true,dI]=some [.row 0 [u] 3 true,.row 0 [v] 3 true]:=fun u v h1 h2=>by
  rw[bS (e:=3) (g:=0) (j:=0) (cL.trans aQ) (by exact aOo) (aLI _) h1 h2]
  rfl
 have fa0:∀u v,lR 0 (.ptr 0 0 0 0) [.row 0 [u] 3 true,.row 0 [v] 3 true]=some (.ptr 0 0 0 0):=fun u v=>rfl
 have fa1:∀u v,lR 0 (.ptr 1 0 0 0) [.row 0 [u] 3 true,.row 0 [v] 3 true]=some (.ptr 1 0 0 0):=fun u v=>rfl
 cases CU:(WO a&&WO b) with
 |
  false =>
  rw[CU] at e1
  rw[NS fun x y hx hy h1 h2 _=>by
   rw[Bool.and_eq_false_iff] at CU
   rcases CU with h | h
   ·exact Kk h hx h1
   ·exact Kk h hy h2]
  obtain⟨L1,k1,kb1,r1,q1⟩:=Uv a
  obtain⟨L2,k2,kb2,r2,q2⟩:=Uv b
  have s0:=IW (xH a) (Gc a) (Jw a)
  have s1:=XL (xH a) (xH b) (Gc b) (Jw b)
  generalize xH a=A at *
  generalize xH b=B at *
  have TV:bG false 1 (.ptr 0 0 0 0) [.row 0 [A] 3 true,.row 0 [B] 3 true]=some L1:=r1
  have ld2:bG false 1 (.ptr 1 0 0 0) [.row 0 [A] 3 true,.row 0 [B] 3 true]=some L2:=r2
  simp only[sR,oR,kH,gD,if_true,e1,s0,s1,fa0,fa1,TV,ld2,q1,q2,aLo,aMR,aME,aMw,aMM,aOK,eO,VX,Nat.reduceEqDiff,Nat.reduceAdd,Nat.reduceLeDiff,Nat.reduceLT,Nat.reduceSub]
  exact aK rfl
 |
  true =>
  rw[CU] at e1
  rw[Bool.and_eq_true] at CU
  obtain⟨x,FF,hex⟩:=Jc CU.1
  obtain⟨y,hry,hey⟩:=Jc CU.2
  have hx:=yM.of FF hex
  have hy:=yM.of hry hey
  have hA:xH a=Hy x:=by unfold xH;rw[FF]
  have hB:xH b=Hy y:=by unfold xH;rw[hry]
  rw[hA,hB] at e1
  have s0:=IW (Hy x) rfl rfl
  have s1:=XL (Hy x) (Hy y) rfl rfl
  have TV:bG false 1 (.ptr 0 0 0 0) [.row 0 [Hy x] 3 true,.row 0 [Hy y] 3 true]=some (aC aG x.1):=rfl
  have ld2:bG false 1 (.ptr 1 0 0 0) [.row 0 [Hy x] 3 true,.row 0 [Hy y] 3 true]=some (aC aG y.1):=rfl
  have hn:=hx.n
  have hm:=hy.n
  have aFi:x.1.length*y.1.length≤6*6:=aNw hn.2 hm.2
  have wN:IntKind.i64.wrap ((x.1.length:Int)*(y.1.length:Int))=((pN x y:Nat):Int):=by
   have e:(x.1.length:Int)*(y.1.length:Int)=((pN x y:Nat):Int):=by unfold pN;rw[aNx]
   rw[e]
   exact wrap64 (by omega) (by unfold pN;omega)
  by_cases h12:(12:Int)<((pN x y:Nat):Int)
  ·rw[NS fun x' y' FH hy' _ _ h=>by rw[FF] at FH;rw[hry] at hy';cases FH;cases hy';omega]
   simp only[sR,oR,kH,gD,if_true,e1,s0,s1,fa0,fa1,TV,ld2,wN,h12,aMV,aLo,aMR,aME,aMw,aMM,aOJ,eO,VX,Nat.reduceEqDiff,Nat.reduceAdd,Nat.reduceLeDiff,Nat.reduceLT,Nat.reduceSub]
   exact aK rfl
  have Nk:pN x y≤12:=by omega
  have Cw:fcV a b=Dq (No x y (pN x y)):=by
   unfold fcV
   simp only[FF,hry]
   exact if_pos ⟨hex,hey,Nk⟩
  rw[Cw]
  simp only[sR,oR,kH,gD,if_true,e1,s0,s1,fa0,fa1,TV,ld2,wN,h12,aMV,aLo,aMR,aME,aMw,aMM,aOJ,eO,VX,Nat.reduceEqDiff,Nat.reduceAdd,Nat.reduceLeDiff,Nat.reduceLT,Nat.reduceSub]
  refine rJ rfl (SD (pN x y) (by omega) (aLI _)) fun z L hz => ?_
  rw[aoS] at hz
  obtain⟨tb,tg,tc,rfl,hc,hT⟩:=hz.tb
  change Tb aG 2 _ _ _ _ _ _ _ at hT
  have hs0:aJ ([.row 0 [Hy x] 3 true,.row 0 [Hy y] 3 true]++L) 0 0=some ([Hy x],3,true):=dC rfl
  have NG:aJ ([.row 0 [Hy x] 3 true,.row 0 [Hy y] 3 true]++L) 1 0=some ([Hy y],3,true):=dC rfl
  have hhi:2≤([eR.row 0 [Hy x] 3 true,.row 0 [Hy y] 3 true]++L).length:=by rw[aLp];exact Nat.le_add_right _ _
  generalize [eR.row 0 [Hy x] 3 true,.row 0 [Hy y] 3 true]++L=Hz at *
  have e3:∀K,nT false [.bool false,.slice none 0 0,.slice none 0 0] 0 [] K=some (.ref K.length 0 0 0 0,K++[.row 0 [] 3 true]):=fun K=>mQ rfl
  have hF:LU x y Hz.length tb tg 0 (fun _=>0) 0 (Hz++[.row 0 [] 3 true]):=⟨dC hs0,dC NG,(hT.pre (aM9 _ _)).congr fun _ _ _ _=>apD,iO,hhi⟩
  have wS:∀k:Nat,k≤100→IntKind.i64.wrap ((k:Int)+1)=((k+1:Nat):Int):=fun k hk=>Go.PM.wN _ (by omega) (by omega)
  have wA:∀i j:Nat,i<x.1.length→j<y.1.length→IntKind.i64.wrap ((i:Int)*(y.1.length:Int))=((i*y.1.length:Nat):Int)∧IntKind.i64.wrap (((i*y.1.length:Nat):Int)+(j:Int))=((i*y.1.length+j:Nat):Int):=fun i j hi hj=>by
   have h1:=wU hi hj
   have e:(i:Int)*(y.1.length:Int)=((i*y.1.length:Nat):Int):=by rw[aNx]
   have e2:((i*y.1.length:Nat):Int)+(j:Int)=((i*y.1.length+j:Nat):Int):=by rw[Int.natCast_add]
   exact⟨by rw[e];exact wrap64 (by omega) (by omega),by rw[e2];exact wrap64 (by omega) (by omega)⟩
  simp only[e3,eO,VX,Nat.reduceEqDiff,Nat.reduceAdd,Nat.reduceLeDiff,Nat.reduceLT,Nat.reduceSub]
  refine aN (fun(i:Nat) ρ H1=>i≤x.1.length∧LU x y Hz.length tb tg (i*y.1.length) (fun _=>0) (i*y.1.length) H1∧ρ 6 = .ptr 0 0 0 0∧ρ 7 = .ptr 1 0 0 0∧ρ 9=VI x.1.length∧ρ 10=VI y.1.length∧ρ 11 = .ref tb tg 0 (pN x y) tc∧ρ 12 = .ref Hz.length (i*y.1.length) 0 (i*y.1.length) (i*y.1.length)∧ρ 49=VI x.1.length∧ρ 50=VI i) (fun i=>x.1.length-i) 0
   ⟨aLI _,by rw[aMh];exact hF,by rw[aMh];(repeat' apply aMU)<;>first | rfl | trivial | assumption⟩ ?_
  clear hF hT hs0 NG
  rintro i ρ H1 ⟨hi,hF,g6,g7,g9,g10,g11,g12,g49,g50⟩
  by_cases bX:(i:Int)<(x.1.length:Int)
  ·have qU:i<x.1.length:=by omega
   simp only[tD,g6,g7,g9,g10,g11,g12,g49,g50,bX,eO,VX,Nat.reduceEqDiff,Nat.reduceAdd,Nat.reduceLeDiff,Nat.reduceLT,Nat.reduceSub]
   refine aN (fun(j:Nat) ρ H1=>j≤y.1.length∧LU x y Hz.length tb tg (i*y.1.length+j) (fun _=>0) (i*y.1.length+j) H1∧ρ 6 = .ptr 0 0 0 0∧ρ 7 = .ptr 1 0 0 0∧ρ 9=VI x.1.length∧ρ 10=VI y.1.length∧ρ 11 = .ref tb tg 0 (pN x y) tc∧ρ 12 = .ref Hz.length (i*y.1.length+j) 0 (i*y.1.length+j) (i*y.1.length+j)∧ρ 13=VI i∧ρ 49=VI x.1.length∧ρ 50=VI i∧ρ 53=VI y.1.length∧ρ 54=VI j) (fun j=>y.1.length-j) 0
    ⟨aLI _,by rw[aNq];exact hF,by rw[aNq];(repeat' apply aMU)<;>first | rfl | trivial | assumption⟩ ?_
   clear hF g6 g7 g9 g10 g11 g12 g49 g50
   rintro j ρ H1 ⟨hj,hF,g6,g7,g9,g10,g11,g12,g13,g49,g50,g53,g54⟩
   by_cases DY:(j:Int)<(y.1.length:Int)
   ·have xJ:j<y.1.length:=by omega
    obtain⟨w1,w2⟩:=wA i j qU xJ
    have ht:i*y.1.length+j<pN x y:=wU qU xJ
    simp only[tH,g6,g7,g9,g10,g11,g12,g13,g49,g50,g53,g54,DY,w1,w2,eO,VX,Nat.reduceEqDiff,Nat.reduceAdd,Nat.reduceLeDiff,Nat.reduceLT,Nat.reduceSub]
    refine aN (fun(k:Nat) ρ H1=>k≤x.1.length∧LU x y Hz.length tb tg (i*y.1.length+j) (r1 x y i j k) (i*y.1.length+j) H1∧ρ 6 = .ptr 0 0 0 0∧ρ 7 = .ptr 1 0 0 0∧ρ 9=VI x.1.length∧ρ 10=VI y.1.length∧ρ 11 = .ref tb tg 0 (pN x y) tc∧ρ 12 = .ref Hz.length (i*y.1.length+j) 0 (i*y.1.length+j) (i*y.1.length+j)∧ρ 13=VI i∧ρ 14=VI j∧ρ 15=VI (i*y.1.length+j:Nat)∧ρ 49=VI x.1.length∧ρ 50=VI i∧ρ 53=VI y.1.length∧ρ 54=VI j∧ρ 62=VI x.1.length∧ρ 63=VI k) (fun k=>x.1.length-k) 0
     ⟨aLI _,hF.congr fun a c _ hc=>Wy (fun _ _=>aAS) hc,by (repeat' apply aMU)<;>first | rfl | trivial | assumption⟩ ?_
    clear hF g6 g7 g9 g10 g11 g12 g13 g49 g50 g53 g54
    rintro k ρ H1 ⟨hk,hF,g6,g7,g9,g10,g11,g12,g13,g14,g15,g49,g50,g53,g54,g62,g63⟩
    by_cases Hl:(k:Int)<(x.1.length:Int)
    ·have Gk:k<x.1.length:=by omega
     obtain⟨row,q1,q2⟩:=abA hx qU Gk
     have a2:=fun H=>aF (f:=aC aG) (t := .op) (H:=H) (size:=1) (k := .i64) q1 rfl
     have a3:=fun H=>aF (f:=aG) (t := .op) (H:=H) (size:=3) (k := .i64) q2 rfl
     have X7:∀K,bG false 1 (.cS (aC aG row) 0) K=some (aC aG row):=fun K=>rfl
     obtain⟨v1,v2⟩:=wA k j Gk xJ
     obtain⟨p,q,c1,c2,c3,c4⟩:=hF.cell ht (wU Gk xJ)
     rw[alN xJ] at c3
     have bq:=hx.vP (P:=fun q=>aL q≤665) (fun q h=>h.2) i k
     have es:=rP 0 (gE x.2.1 i k) (by rw[nC];omega) (by omega)
     obtain⟨H2,c5,c6,_⟩:=c4 (0-gE x.2.1 i k)
     have aT:=hF.addr (c:=tc) ht
     have gx:=hF.gx
     simp only[tN,g6,g7,g9,g10,g11,g12,g13,g14,g15,g49,g50,g53,g54,g62,g63,Hl,aT,gx.1,gx.2,a2,a3,X7,bK,c1,c2,c3,c5,es,v1,v2,wS k (by omega),eO,VX,Nat.reduceEqDiff,Nat.reduceAdd,Nat.reduceLeDiff,Nat.reduceLT,Nat.reduceSub]
     exact⟨k+1,by omega,by omega,c6 _ fun c _=>alG xJ,by (repeat' apply aMU)<;>first | rfl | trivial | assumption⟩
    have T7:k=x.1.length:=by omega
    subst T7
    simp only[tN,g6,g7,g9,g10,g11,g12,g13,g14,g15,g49,g50,g53,g54,g62,g63,Hl,eO,VX,Nat.reduceEqDiff,Nat.reduceAdd,Nat.reduceLeDiff,Nat.reduceLT,Nat.reduceSub]
    refine aN (fun(k:Nat) ρ H1=>k≤y.1.length∧LU x y Hz.length tb tg (i*y.1.length+j) (r2 x y i j k) (i*y.1.length+j) H1∧ρ 6 = .ptr 0 0 0 0∧ρ 7 = .ptr 1 0 0 0∧ρ 9=VI x.1.length∧ρ 10=VI y.1.length∧ρ 11 = .ref tb tg 0 (pN x y) tc∧ρ 12 = .ref Hz.length (i*y.1.length+j) 0 (i*y.1.length+j) (i*y.1.length+j)∧ρ 13=VI i∧ρ 14=VI j∧ρ 15=VI (i*y.1.length+j:Nat)∧ρ 49=VI x.1.length∧ρ 50=VI i∧ρ 53=VI y.1.length∧ρ 54=VI j∧ρ 97=VI y.1.length∧ρ 98=VI k) (fun k=>y.1.length-k) 0
     ⟨aLI _,hF.congr fun a c _ hc=>Wy (fun _ _=>aBu) hc,by (repeat' apply aMU)<;>first | rfl | trivial | assumption⟩ ?_
    clear hF g6 g7 g9 g10 g11 g12 g13 g14 g15 g49 g50 g53 g54 g62 g63 Hl hk
    rintro k ρ H1 ⟨hk,hF,g6,g7,g9,g10,g11,g12,g13,g14,g15,g49,g50,g53,g54,g97,g98⟩
    by_cases Hl:(k:Int)<(y.1.length:Int)
    ·have Gk:k<y.1.length:=by omega
     obtain⟨row,q1,q2⟩:=abA hy xJ Gk
     have a2:=fun H=>aF (f:=aC aG) (t := .op) (H:=H) (size:=1) (k := .i64) q1 rfl
     have a3:=fun H=>aF (f:=aG) (t := .op) (H:=H) (size:=3) (k := .i64) q2 rfl
     have X7:∀K,bG false 1 (.cS (aC aG row) 0) K=some (aC aG row):=fun K=>rfl
     obtain⟨v1,v2⟩:=wA i k qU Gk
     obtain⟨p,q,c1,c2,c3,c4⟩:=hF.cell ht (wU qU Gk)
     rw[anX Gk] at c3
     have bq:=hy.vP (P:=fun q=>aL q≤665) (fun q h=>h.2) j k
     have br:=Tw hx (y:=y) (i:=i) (j:=j) (k:=x.1.length) (c:=i*y.1.length+k)
     have es:=rP (r1 x y i j x.1.length (i*y.1.length+k)) (gE y.2.1 j k) (by omega) (by omega)
     obtain⟨H2,c5,c6,_⟩:=c4 (r1 x y i j x.1.length (i*y.1.length+k)-gE y.2.1 j k)
     have aT:=hF.addr (c:=tc) ht
     have gy:=hF.gy
     simp only[tR,g6,g7,g9,g10,g11,g12,g13,g14,g15,g49,g50,g53,g54,g97,g98,Hl,aT,gy.1,gy.2,a2,a3,X7,bK,c1,c2,c3,c5,es,v1,v2,wS k (by omega),eO,VX,Nat.reduceEqDiff,Nat.reduceAdd,Nat.reduceLeDiff,Nat.reduceLT,Nat.reduceSub]
     exact⟨k+1,by omega,by omega,c6 _ fun c _=>alS Gk,by (repeat' apply aMU)<;>first | rfl | trivial | assumption⟩
    have T7:k=y.1.length:=by omega
    subst T7
    obtain⟨p,q,c1,c2,c3,c4⟩:=hF.cell ht ht
    have aT:=hF.addr (c:=tc) ht
    have eo1:=A1 hx i qU
    have eo2:=A1 hy j xJ
    have br:=aaV hx hy (i:=i) (j:=j) (k:=y.1.length) (c:=i*y.1.length+j)
    have bo1:=JW hx (i:=i)
    have bo2:=JW hy (i:=j)
    have ba:=yS (r2 x y i j y.1.length (i*y.1.length+j)) (Sg (gE x.2.1 i) x.1.length+eE x.2.2 i)
    have DN:=oE (r2 x y i j y.1.length (i*y.1.length+j)) (Sg (gE x.2.1 i) x.1.length+eE x.2.2 i) (by omega) (by omega)
    have Qa:=oE (r2 x y i j y.1.length (i*y.1.length+j)+(Sg (gE x.2.1 i) x.1.length+eE x.2.2 i)) (Sg (gE y.2.1 j) y.1.length+eE y.2.2 j) (by omega) (by omega)
    rw[Rat.add_assoc] at Qa
    obtain⟨H2,c5,_,c6⟩:=c4 (r2 x y i j y.1.length (i*y.1.length+j)+((Sg (gE x.2.1 i) x.1.length+eE x.2.2 i)+(Sg (gE y.2.1 j) y.1.length+eE y.2.2 j)))
    have hF2:=c6 fun c hc=>akQ qU xJ hc
    obtain⟨ap,hF3⟩:=hF2.snoc (by omega)
    have hpB:pB x y (i*y.1.length+j)=eE x.2.2 i:=by unfold pB;rw[lW xJ]
    rw[hpB] at ap hF3
    have ex:=hF2.ex
    have a4:=fun H=>aF (f:=aG) (t := .op) (H:=H) (size:=3) (k := .i64) (anL hx qU) rfl
    have eL:∀H,nT false [.bool false,.slice none 0 0,.slice none 0 0] 1 [(0,aG (eE x.2.2 i))] H=some (.tree [aG (eE x.2.2 i)] (.cl 3),H):=fun H=>lO rfl rfl rfl
    have eS:∀H,dG 3 (.tree [aG (eE x.2.2 i)] (.cl 3)) H=some [aG (eE x.2.2 i)]:=fun H=>gR rfl rfl
    simp only[tR,g6,g7,g9,g10,g11,g12,g13,g14,g15,g49,g50,g53,g54,g97,g98,Hl,aT,c1,c2,c3,c5,hF.lx,hF.ly,eo1,eo2,DN,Qa,ex.1,ex.2,a4,bK,eL,eS,ap,wS j (by omega),eO,VX,Nat.reduceEqDiff,Nat.reduceAdd,Nat.reduceLeDiff,Nat.reduceLT,Nat.reduceSub]
    exact⟨j+1,by omega,by omega,hF3,by (repeat' apply aMU)<;>first | rfl | trivial | assumption⟩
   have Wa:j=y.1.length:=by omega
   subst Wa
   rw[←aL3] at hF g12
   simp only[tH,g6,g7,g9,g10,g11,g12,g13,g49,g50,g53,g54,DY,wS i (by omega),eO,VX,Nat.reduceEqDiff,Nat.reduceAdd,Nat.reduceLeDiff,Nat.reduceLT,Nat.reduceSub]
   exact⟨i+1,by omega,by omega,hF,by (repeat' apply aMU)<;>first | rfl | trivial | assumption⟩
  have mZ:i=x.1.length:=by omega
  subst mZ
  obtain⟨γ,hγ⟩:∃γ,γ=66000000000:=⟨66000000000,rfl⟩
  obtain⟨K,hK⟩:∃K,K=12:=⟨12,rfl⟩
  obtain⟨K8,hK8⟩:∃K,K=84:=⟨84,rfl⟩
  obtain⟨aAg,Cn⟩:=ajC hx hy hγ hK Nk
  have hN1:1≤pN x y:=aNw hn.1 hm.1
  have hpN:x.1.length*y.1.length=pN x y:=rfl
  rw[hpN] at hF g12
  have hRl:=lZ hF.fr
  have hS:Sy aG 2 Hz.length (pN x y) tb tg Hz.length (pN x y) (pU x y) (pB x y) H1:=⟨hF.ft.congr fun a c ha _=>if_pos ha,hF.fr,.inr (aLe _)⟩
  have hU:X1 (pN x y) 0 (K8*665+10) (pU x y) (pB x y) (pX x y):=⟨ND hx hy,⟨fun _ _ _ h _=>absurd h (aMv _),fun _ h=>absurd h (aMv _)⟩,aAg,LJ hx hy hK8⟩
  have Zz:2^pN x y*(K8*665+10+1)≤68719476736:=by
   have e1:2^pN x y≤2^12:=aNh (by decide) Nk
   have e2:2^pN x y*(K8*665+10+1)≤2^12*(K8*665+10+1):=aLF _ e1
   have e3:(2:Nat)^12=4096:=by decide
   omega
  have hbX:∀k,k<pN x y→aL (pX x y k)≤66000100000:=fun k hk=>aLf (Cn.bits hk) (by omega)
  have hη:K*665+1+γ≤274877906944:=by omega
  simp only[tD,g6,g7,g9,g10,g11,g12,g49,g50,bX,eO,VX,Nat.reduceEqDiff,Nat.reduceAdd,Nat.reduceLeDiff,Nat.reduceLT,Nat.reduceSub]
  refine iN rfl ((Th (lo:=0) (c:=tc) (rc:=pN x y) hS hU Cn Nk Zz hη (aLI _) (aLI _) (aLI _) (Nat.le_of_lt hRl) hRl).mono ?_)
  rintro _ H3 ⟨rfl,hO,hR3⟩
  have x3:=hO.2 _ _ _ (.inl (by decide)) (by have:=hF.fh;omega) hF.fx
  have y3:=hO.2 _ _ _ (.inl (by decide)) (by have:=hF.fh;omega) hF.fy
  have ew:TC 64 [VI 0] (aG 0):=vY 0 (by decide) (by decide)
  have sw:=Fs (lo:=0) (H:=H3) (q:=0) (aLI _)
  have hl3:=hO.1
  have lz:∀K,pV (.ref Hz.length (pN x y) 0 (pN x y) (pN x y)) K=pV (.ref Hz.length (pN x y) 0 (pN x y) (pN x y)) K:=fun _=>rfl
  have hR4:Rd aG 3 (vec (pN x y) (pX x y)) (H3++[.row 0 [aG 0] 3 true]) (.ref Hz.length (pN x y) 0 (pN x y) (pN x y)):=(Rd.row (c:=pN x y) hR3 (by rw[oV])).pre (aM9 _ _)
  have el:=hR4.len _ (aOO _)
  rw[oV] at el
  simp only[g6,g7,g9,g10,ew,sw,el,eO,VX,Nat.reduceEqDiff,Nat.reduceAdd,Nat.reduceLeDiff,Nat.reduceLT,Nat.reduceSub]
  refine aN (fun(k:Nat) ρ H4=>k≤pN x y∧(H3++[eR.row 0 [aG 0] 3 true]).length≤H4.length∧aJ H4 0 0=some ([Hy x],3,true)∧aJ H4 1 0=some ([Hy y],3,true)∧Rw aG Hz.length (pN x y) (pN x y) (pX x y) H4∧aJ H4 H3.length 0=some ([aG (No x y k)],3,true)∧ρ 6 = .ptr 0 0 0 0∧ρ 7 = .ptr 1 0 0 0∧ρ 10=VI y.1.length∧ρ 20 = .ptr H3.length 0 0 0∧ρ 170 = .ref Hz.length (pN x y) 0 (pN x y) (pN x y)∧ρ 171=VI (pN x y)∧ρ 172=VI k) (fun k=>pN x y-k) 0
   ⟨aLI _,aLe _,dC x3,dC y3,dC hR3,iO,by (repeat' apply aMU)<;>first | rfl | trivial | assumption⟩ ?_
  clear hR4 el lz
  rintro k ρ H4 ⟨hk,hl4,x4,y4,hR4,o4,g6,g7,g10,g20,aAY,aAZ,aCt⟩
  have lo4:bG true 3 (.ptr H3.length 0 0 0) H4=some (aG (No x y k)):=by rw[bJ,o4];exact bK _
  have hfb:=PN hx hy Nk hk
  by_cases Hl:(k:Int)<((pN x y:Nat):Int)
  ·have Gk:k<pN x y:=by omega
   have a1:=hR4.addr (c:=pN x y) Gk
   have l1:=(hR4.get Gk true).trans (bK _)
   have s1:=Fs (lo:=0) (H:=H4) (q:=pX x y k) (aLI _)
   have hk1:k / y.1.length<x.1.length:=AR Gk
   have hk3:k % y.1.length<y.1.length:=Nat.mod_lt _ (by omega)
   have eq1:=Jx k y.1.length (by omega) (by omega)
   have eq2:=Jz k y.1.length (by omega)
   have x5:=dC (L:=[.row 0 [aG (pX x y k)] 3 true]) x4
   have y5:=dC (L:=[.row 0 [aG (pX x y k)] 3 true]) y4
   have o5:=dC (L:=[.row 0 [aG (pX x y k)] 3 true]) o4
   have lo5:bG true 3 (.ptr H3.length 0 0 0) (H4++[.row 0 [aG (pX x y k)] 3 true])=some (aG (No x y k)):=by rw[bJ,o5];exact bK _
   have lv:bG true 3 (.ptr H4.length 0 0 0) (H4++[.row 0 [aG (pX x y k)] 3 true])=some (aG (pX x y k)):=abO (K:=[])
   have fx:lR 0 (.ptr 0 0 0 0) (H4++[.row 0 [aG (pX x y k)] 3 true])=some (.ptr 0 0 0 0):=by rw[rU x5]
   have fy:lR 0 (.ptr 1 0 0 0) (H4++[.row 0 [aG (pX x y k)] 3 true])=some (.ptr 1 0 0 0):=by rw[rU y5]
   have lx:bG false 1 (.ptr 0 0 0 0) (H4++[.row 0 [aG (pX x y k)] 3 true])=some (aC aG x.1):=by rw[bJ,x5];rfl
   have ly:bG false 1 (.ptr 1 0 0 0) (H4++[.row 0 [aG (pX x y k)] 3 true])=some (aC aG y.1):=by rw[bJ,y5];rfl
   have a2:=fun H=>aF (f:=aG) (t := .op) (H:=H) (size:=3) (k := .i64) (ZO hk1) rfl
   have a3:=fun H=>aF (f:=aG) (t := .op) (H:=H) (size:=3) (k := .i64) (ZO hk3) rfl
   have b1:aL (x.1.getD (k / y.1.length) 0)≤665:=wE (P:=fun q=>aL q≤665) hx.wb rz0 _
   have b2:aL (y.1.getD (k % y.1.length) 0)≤665:=wE (P:=fun q=>aL q≤665) hy.wb rz0 _
   have b3:=hbX k Gk
   have b4:=oA (pX x y k) (x.1.getD (k / y.1.length) 0)
   have b5:=oA (pX x y k*x.1.getD (k / y.1.length) 0) (y.1.getD (k % y.1.length) 0)
   have m1:=nZ (pX x y k) (x.1.getD (k / y.1.length) 0) (by omega) (by omega)
   have m2:=nZ (pX x y k*x.1.getD (k / y.1.length) 0) (y.1.getD (k % y.1.length) 0) (by omega) (by omega)
   have m3:=oE (No x y k) (pX x y k*x.1.getD (k / y.1.length) 0*y.1.getD (k % y.1.length) 0) (by omega) (by omega)
   have xI:No x y k+pX x y k*x.1.getD (k / y.1.length) 0*y.1.getD (k % y.1.length) 0=No x y (k+1):=by
    unfold No
    rw[Sg]
    unfold pC
    grind
   rw[xI] at m3
   have s5:=bS (lo:=0) (v:=aG (No x y (k+1))) (j:=0) o5 (by exact aOo) (aLI _) (fD _) (lK _)
   rw[List.set_cons_zero] at s5
   simp only[tW,g6,g7,g10,g20,aAY,aAZ,aCt,Hl,a1,l1,s1,lo5,lv,fx,fy,lx,ly,eq1,eq2,a2,a3,bK,m1,m2,m3,s5,wS k (by omega),eO,VX,Nat.reduceEqDiff,Nat.reduceAdd,Nat.reduceLeDiff,Nat.reduceLT,Nat.reduceSub]
   have fN:H3.length≠0∧H3.length≠1∧H3.length≠Hz.length:=by
    have:=hF.fh
    have:=hO.1
    omega
   exact⟨k+1,by omega,by omega,by rw[aNt];exact aLf hl4 (by simp),aW fN.1 x5,aW fN.2.1 y5,aW fN.2.2 (dC hR4),cP o5,by (repeat' apply aMU)<;>first | rfl | trivial | assumption⟩
  ·have T7:k=pN x y:=by omega
   subst T7
   have e6:=UZ (No x y (pN x y)) (by omega)
   obtain⟨t,ok,htt⟩:=Lw (No x y (pN x y))
   rw[htt] at e6 ⊢
   simp only[tW,g20,aAY,aAZ,aCt,Hl,lo4,e6,eO,VX,Nat.reduceEqDiff,Nat.reduceAdd,Nat.reduceLeDiff,Nat.reduceLT,Nat.reduceSub]
   exact aK rfl
end Go.PM
namespace Go.PM
structure ZB (s:rV):Prop where
 b:s.b.length≤100
 g:s.g.length≤100
 r:∀x∈s.g,x.length≤100
 e:s.e.length≤100
theorem Es {β:Type}:∀ {xs:List (List β)} {n:Nat},(∀x∈xs,x.length≤n)→IA xs≤xs.length*n
 | [],n,_=>by simp[IA]
 |
  x::xs,n,h=>by
  have h1:=h x List.mem_cons_self
  have h2:=Es (xs:=xs) (n:=n) fun y hy=>h y (List.mem_cons_of_mem _ hy)
  have e:IA (x::xs)=x.length+IA xs:=by simp[IA]
  rw[e,aLo,Nat.add_mul,Nat.one_mul]
  omega
theorem ZB.n {s:rV} (h:ZB s):svN s≤10200:=by
 have h1:=Es h.r
 have h2:s.g.length*100≤100*100:=aLF _ h.g
 have h3:=h.b
 have h4:=h.e
 unfold svN
 omega
end Go.PM
namespace Go.PM
open Go.Lib
theorem LsO.wide {α:Type} {f:α→VV} {e:Nat} {o:Option (List α)}:∀ {lo hi fV qK:Nat} {H:aA} {v:VV},LsO f e o lo hi H v→fV≤lo→hi≤qK→LsO f e o fV qK H v:=by
 intro lo hi fV qK H v h hl hh
 cases o with
 | none=>exact h
 |
  some ys =>
  obtain⟨b,g,c,h1,h2,h3⟩:=h
  exact⟨b,g,c,by omega,by omega,h3⟩
end Go.PM
namespace Go.PM
structure abL (s:List (List ByteArray)):Prop where
 g:s.length≤100
 r:∀x∈s,x.length≤100
theorem abL.n {s:List (List ByteArray)} (h:abL s):IA s≤10000:=by
 have h1:=Es h.r
 have h2:s.length*100≤100*100:=aLF _ h.g
 omega
end Go.PM
namespace Go.PM
end Go.PM
namespace Go.PM
open Go.Lib
end Go.PM
namespace Go.PM
open Go.Lib
def G2 (A:Nat→Nat→Rat) (b:Nat→Rat) (n i j:Nat):Rat:=if j<n then A i j else b i
def jnA (i:Nat) (A:Nat→Nat→Rat) (b:Nat→Rat) (n:Nat):Nat→Nat→Rat:=G2 (Hf (cDg i A) i A) (TY (cDg i A) i b) n
def jnR (i:Nat) (A:Nat→Nat→Rat) (b:Nat→Rat) (n r a c:Nat):Rat:=if a<r then jnA i A b n a c else G2 A b n a c
def jnC (i:Nat) (A:Nat→Nat→Rat) (b:Nat→Rat) (n r j a c:Nat):Rat:=if a=r∧c<j then jnA i A b n r c else jnR i A b n r a c
section
variable {i n r:Nat} {A:Nat→Nat→Rat} {b:Nat→Rat}
theorem E3 {a c:Nat} (h:c<n):G2 A b n a c=A a c:=if_pos h
theorem SH {a:Nat}:G2 A b n a n=b a:=if_neg (aOM _)
theorem Y5 {a c:Nat}:jnA i A b n a c=G2 A b n a c-cDg i A a*G2 A b n i c:=by
 unfold jnA G2 Hf TY
 split<;>rfl
theorem Zr {c:Nat}:jnA i A b n i c=G2 A b n i c:=by
 rw[Y5,show cDg i A i=0 from if_pos rfl,aOL]
 grind
theorem aiS (h:A r i=0) {c:Nat}:jnA i A b n r c=G2 A b n r c:=by
 rw[Y5]
 have:cDg i A r=0:=by
  unfold cDg
  split
  ·rfl
  ·rw[h,Rat.div_def,aOL]
 rw[this,aOL]
 grind
theorem ajY (h:r≠i) {c:Nat}:jnA i A b n r c=G2 A b n r c-A r i / A i i*G2 A b n i c:=by
 rw[Y5,show cDg i A r=A r i / A i i from if_neg h]
theorem Ta {c:Nat}:jnR i A b n r r c=G2 A b n r c:=if_neg (aOM _)
theorem Zm {c:Nat}:jnR i A b n r i c=G2 A b n i c:=by
 unfold jnR
 split
 ·exact Zr
 ·rfl
theorem VP (h:r=i∨A r i=0) {a c:Nat}:jnR i A b n r a c=jnR i A b n (r+1) a c:=by
 unfold jnR
 by_cases h1:a<r
 ·rw[if_pos h1,if_pos (by omega)]
 ·rw[if_neg h1]
  by_cases h2:a=r
  ·subst h2
   rw[if_pos (by omega)]
   rcases h with h | h
   ·subst h;exact Zr.symm
   ·exact(aiS h).symm
  ·rw[if_neg (by omega)]
theorem aeU (hz:∀c,c<i→A i c=0) (bX:i<n) (h:r≠i) {a c:Nat}:jnR i A b n r a c=jnC i A b n r i a c:=by
 unfold jnC
 by_cases h1:a=r∧c<i
 ·obtain⟨rfl,h2⟩:=h1
  rw[if_pos ⟨rfl,h2⟩,Ta,ajY h,E3 (by omega:c<n),E3 (by omega:c<n),hz c h2]
  grind
 ·rw[if_neg h1]
theorem auC {j:Nat}:jnC i A b n r j r j=G2 A b n r j:=by
 unfold jnC
 rw[if_neg (by omega),Ta]
theorem arX {j c:Nat} (h:r≠i):jnC i A b n r j i c=G2 A b n i c:=by
 unfold jnC
 rw[if_neg (by omega),Zm]
theorem anD {j a c:Nat}:OH (jnC i A b n r j) r j (jnA i A b n r j) a c=jnC i A b n r (j+1) a c:=by
 unfold OH jnC
 by_cases h1:a=r∧c=j
 ·obtain⟨rfl,rfl⟩:=h1
  rw[if_pos ⟨rfl,rfl⟩,if_pos ⟨rfl,by omega⟩]
 ·rw[if_neg h1]
  by_cases h2:a=r∧c<j
  ·rw[if_pos h2,if_pos ⟨h2.1,by omega⟩]
  ·rw[if_neg h2,if_neg (by omega)]
theorem aqU {a c:Nat} (hc:c<n+1):jnC i A b n r (n+1) a c=jnR i A b n (r+1) a c:=by
 unfold jnC
 by_cases h1:a=r∧c<n+1
 ·obtain⟨rfl,_⟩:=h1
  rw[if_pos ⟨rfl,hc⟩]
  unfold jnR
  rw[if_pos (by omega)]
 ·rw[if_neg h1]
  unfold jnR
  by_cases h2:a<r
  ·rw[if_pos h2,if_pos (by omega)]
  ·rw[if_neg h2,if_neg (by omega)]
theorem arD {k m a c:Nat}:swp k m (G2 A b n) a c=G2 (swp k m A) (swp k m b) n a c:=by
 unfold swp G2
 by_cases h1:a=k
 ·simp only[h1,if_true]
 ·simp only[h1,if_false]
  by_cases h2:a=m
  ·simp only[h2,if_true]
  ·simp only[h2,if_false]
end
theorem Ou {lo fV hi N M b g c:Nat} {F:Nat→Nat→Rat} {H:aA} {k m:Nat} (h:Tb aS fV hi N M b g F H) (hk:k<N) (hm:m<N) (eT:lo≤fV) :
  mB 179 [.ref b g 0 N c,VI k,VI m] lo H fun _ H'=>Ss fV hi H H'∧Tb aS fV hi N M b g (swp k m F) H':=by
 refine mB.walk ⟨true,false⟩ N5 (aM2 rfl) ?_
 obtain⟨u,v,e1,e2,e3⟩:=h.swap hk hm
 obtain⟨Ha,Hb,e4,e5,e6,e7,e8,e9⟩:=e3 lo eT
 have a1:=h.addr (c:=c) hk
 have a2:=h.addr (c:=c) hm
 simp only[JH,FB,a1,a2,e1,e2,e4,e5,e6,eO,VX,Nat.reduceEqDiff,Nat.reduceAdd,Nat.reduceLeDiff,Nat.reduceLT,Nat.reduceSub]
 exact⟨e8,e9⟩
set_option maxHeartbeats 16000000 in
set_option maxRecDepth 30000 in
theorem Nh {lo fV hi n b g c G η:Nat} {H:aA} {A0:Nat→Nat→Rat} {b0 X:Nat→Rat} (hT:Tb aS fV hi n (n+1) b g (G2 A0 b0 n) H) (hU:DgS n 0 G A0 b0 X) (hX:dQ η n X) (hn:n≤12) (hG:2^n*(G+1)≤68719476736) (hη:η≤274877906944) (eT:lo≤fV) (hlH:lo≤H.length) (hhi:hi≤H.length) :
  mB 134 [.ref b g 0 n c] lo H fun r H'=>∃v,r = .eH [v,VB true]∧H.length≤H'.length∧J0 aS 3 (vec n X) H.length H'.length H' v∧∀b' g' x,(b'<fV∨hi≤b')→aJ H b' g'=some x→aJ H' b' g'=some x:=by
 refine mB.walk ⟨true,false⟩ M1 (aM2 rfl) ?_
 have el:=hT.len (c:=c)
 simp only[HE,EH,el,eO,VX,Nat.reduceEqDiff,Nat.reduceAdd,Nat.reduceLeDiff,Nat.reduceLT,Nat.reduceSub]
 have hgk:∀k,k≤n→gk G k≤68719476736:=fun k hk=>aLf (avB hk) hG
 have wn:∀k:Nat,k≤n+1→IntKind.i64.wrap ((k:Int)+1)=((k+1:Nat):Int):=fun k hk=>wN _ (by omega) (by omega)
 have trB:∀ {lo hi:Nat} {H H' VU:aA},(H.length≤H'.length∧∀b' g' x,(b'<lo∨hi≤b')→aJ H b' g'=some x→aJ H' b' g'=some x)→(H'.length≤VU.length∧∀b' g' x,(b'<lo∨hi≤b')→aJ H' b' g'=some x→aJ VU b' g'=some x)→H.length≤VU.length∧∀b' g' x,(b'<lo∨hi≤b')→aJ H b' g'=some x→aJ VU b' g'=some x:=fun h h'=>⟨aLf h.1 h'.1,fun b g x k1 k2=>h'.2 b g x k1 (h.2 b g x k1 k2)⟩
 have ofR:∀ {lo hi:Nat} {H H':aA},Ss lo hi H H'→(H.length≤H'.length∧∀b' g' x,(b'<lo∨hi≤b')→aJ H b' g'=some x→aJ H' b' g'=some x):=fun h=>⟨Nat.le_of_eq h.1.symm,h.2⟩
 have ofA:∀ {lo hi:Nat} {H L:aA},(H.length≤(H++L).length∧∀b' g' x,(b'<lo∨hi≤b')→aJ H b' g'=some x→aJ (H++L) b' g'=some x):=fun {_ _ H L}=>⟨by simp,fun _ _ _ _ h=>dC h⟩
 refine aN (fun(k:Nat) ρ H1=>k≤n∧(∃A bb,DgS n k (gk G k) A bb X∧Tb aS fV hi n (n+1) b g (G2 A bb n) H1)∧(H.length≤H1.length∧∀b' g' x,(b'<fV∨hi≤b')→aJ H b' g'=some x→aJ H1 b' g'=some x)∧ρ 0 = .ref b g 0 n c∧ρ 4=VI n∧ρ 5=VI k) (fun k=>n-k) 0
  ⟨aLI _,⟨A0,b0,hU,hT⟩,⟨aLe _,fun _ _ _ _ h=>h⟩,by (repeat' apply aMU)<;>first | rfl | trivial | assumption⟩ ?_
 rintro k ρ H1 ⟨hk,⟨A,bb,W4,hT1⟩,hO1,g0,g4,g5⟩
 by_cases Hl:(k:Int)<(n:Int)
 ·have oG:k<n:=by omega
  obtain⟨pm,Xj,hp2,hp3⟩:=W4.f.amH oG W4.u.upper
  simp only[xW,g0,g4,g5,Hl,eO,VX,Nat.reduceEqDiff,Nat.reduceAdd,Nat.reduceLeDiff,Nat.reduceLT,Nat.reduceSub]
  refine aN (fun(m:Nat) aP H2=>H2=H1∧k≤m∧m≤n∧(∀r,k≤r→r<m→A r k=0)∧aP 0 = .ref b g 0 n c∧aP 4=VI n∧aP 5=VI k∧aP 6=VI m) (fun m=>n-m) k
   ⟨rfl,aLe _,hk,fun r h1 h2=>by omega,by (repeat' apply aMU)<;>first | rfl | trivial | assumption⟩ ?_
  clear g0 g4 g5
  rintro m ρ H2 ⟨rfl,hkm,hmn,hzero,g0,g4,g5,g6⟩
  have hm:m<n:=by
   rcases aLh m n with h | h
   ·exact h
   ·exact absurd (hzero pm Xj (by omega)) hp3
  have akF:(m:Int)<(n:Int):=by omega
  have a1:=hT1.addr (c:=c) hm
  obtain⟨rb1,rg1,rc1,c1,c2,c3,_⟩:=hT1.spot (i:=m) (j:=k) hm (by omega) jY xC
  have c3:=(c3 true).trans (cF _)
  rw[E3 oG] at c3
  have es:=rK (A m k)
  by_cases Cz:A m k=0
  ·rw[decide_eq_true Cz] at es
   simp only[yH,g0,g4,g5,g6,akF,a1,c1,c2,c3,es,wn m (by omega),eO,VX,Nat.reduceEqDiff,Nat.reduceAdd,Nat.reduceLeDiff,Nat.reduceLT,Nat.reduceSub]
   exact⟨m+1,by omega,by omega,by omega,fun r h1 h2=>by
    rcases aLh r m with h | h
    ·exact hzero r h1 h
    ·rw[show r=m by omega]
     exact Cz,by (repeat' apply aMU)<;>first | rfl | trivial | assumption⟩
  ·rw[decide_eq_false Cz] at es
   have fN:¬(m:Int)=(n:Int):=by omega
   have Yu:=W4.swp hkm hm
   have TN:swp k m A k k≠0:=by unfold Go.PM.swp;rw[if_pos rfl];exact Cz
   simp only[yH,g0,g4,g5,g6,akF,a1,c1,c2,c3,es,fN,eO,VX,Nat.reduceEqDiff,Nat.reduceAdd,Nat.reduceLeDiff,Nat.reduceLT,Nat.reduceSub]
   refine iN rfl ((Ou (c:=c) hT1 oG hm eT).mono ?_)
   rintro _ Hs ⟨hOs,hTs⟩
   have hTs:=hTs.congr fun a c _ _=>arD
   have hOs:=trB hO1 (ofR hOs)
   generalize hA':Go.PM.swp k m A=A' at *
   generalize xR:Go.PM.swp k m bb=Iz at *
   simp only[g0,g4,g5,eO,VX,Nat.reduceEqDiff,Nat.reduceAdd,Nat.reduceLeDiff,Nat.reduceLT,Nat.reduceSub]
   refine aN (fun(i:Nat) aP H2=>i≤n∧Tb aS fV hi n (n+1) b g (jnR k A' Iz n i) H2∧(H.length≤H2.length∧∀b' g' x,(b'<fV∨hi≤b')→aJ H b' g'=some x→aJ H2 b' g'=some x)∧aP 0 = .ref b g 0 n c∧aP 4=VI n∧aP 5=VI k∧aP 7=VI i) (fun i=>n-i) 0
    ⟨aLI _,hTs.congr fun a c _ _=>(if_neg (aMv a)).symm,hOs,by (repeat' apply aMU)<;>first | rfl | trivial | assumption⟩ ?_
   clear g0 g4 g5 g6 hTs hOs
   rintro i ρ H2 ⟨bX,Rg,R2,g0,g4,g5,g7⟩
   have hg:=hgk k hk
   have bits:∀a c,a<n→c<n+1→aL (G2 A' Iz n a c)≤343597383684:=fun a c ha hc=>by
    rcases aLh c n with h | h
    ·rw[E3 h]
     have:=Yu.z.bits ha h
     omega
    ·rw[show c=n by omega,SH]
     have:=Yu.right hX (by omega) ha
     omega
   by_cases UW:(i:Int)<(n:Int)
   ·have qU:i<n:=by omega
    by_cases Uj:(i:Int)=(k:Int)
    ·obtain rfl:k=i:=by omega
     simp only[nY,g0,g4,g5,g7,UW,wn k (by omega),eq_self,decide_true,eO,VX,Nat.reduceEqDiff,Nat.reduceAdd,Nat.reduceLeDiff,Nat.reduceLT,Nat.reduceSub]
     exact⟨k+1,by omega,by omega,Rg.congr fun _ _ _ _=>VP (.inl rfl),R2,by (repeat' apply aMU)<;>first | rfl | trivial | assumption⟩
    ·have aAi:i≠k:=by omega
     have a2:=Rg.addr (c:=c) qU
     obtain⟨rb2,rg2,rc2,d1,d2,d3,_⟩:=Rg.spot (i:=i) (j:=k) qU (by omega) jY xC
     have d3:=(d3 true).trans (cF _)
     rw[Ta,E3 oG] at d3
     have Qa:=rK (A' i k)
     by_cases Nt:A' i k=0
     ·rw[decide_eq_true Nt] at Qa
      simp only[nY,g0,g4,g5,g7,UW,Uj,a2,d1,d2,d3,Qa,wn i (by omega),eO,VX,Nat.reduceEqDiff,Nat.reduceAdd,Nat.reduceLeDiff,Nat.reduceLT,Nat.reduceSub]
      exact⟨i+1,by omega,by omega,Rg.congr fun _ _ _ _=>VP (.inr Nt),R2,by (repeat' apply aMU)<;>first | rfl | trivial | assumption⟩
     ·rw[decide_eq_false Nt] at Qa
      have a3:=Rg.addr (c:=c) oG
      obtain⟨rb3,rg3,rc3,d4,d5,d6,_⟩:=Rg.spot (i:=k) (j:=k) oG (by omega) jY xC
      have d6:=(d6 true).trans (cF _)
      rw[Zm,E3 oG] at d6
      have bik:=Yu.z.bits qU oG
      have bkk:=Yu.z.bits oG oG
      have ef:=F9 (A' i k) (A' k k) TN (by omega) (by omega)
      have bf:=Gu (A' i k) (A' k k)
      have s1:=Gm (lo:=lo) (H:=H2) (q:=A' i k / A' k k) (by have:=R2.1;omega)
      have rf:=(iO (H:=H2) (g:=0) (es:=[aS (A' i k / A' k k)]) (e:=3) (w:=true))
      have hT3:=Rg.pre (aM9 H2 [.row 0 [aS (A' i k / A' k k)] 3 true])
      have hO3:=trB R2 (ofA (L:=[.row 0 [aS (A' i k / A' k k)] 3 true]))
      have hH2:hi≤H2.length:=aLf hhi R2.1
      simp only[nY,g0,g4,g5,g7,UW,Uj,a2,a3,d1,d2,d3,d4,d5,d6,Qa,ef,s1,eO,VX,Nat.reduceEqDiff,Nat.reduceAdd,Nat.reduceLeDiff,Nat.reduceLT,Nat.reduceSub]
      have hel:∀j,G2 A' Iz n i j-A' i k / A' k k*G2 A' Iz n k j=jnA k A' Iz n i j:=fun j=>(ajY aAi).symm
      generalize hfq:A' i k / A' k k=fq at *
      refine aN (fun(j:Nat) aP H4=>k≤j∧j≤n+1∧Tb aS fV hi n (n+1) b g (jnC k A' Iz n i j) H4∧(H.length≤H4.length∧∀b' g' x,(b'<fV∨hi≤b')→aJ H b' g'=some x→aJ H4 b' g'=some x)∧aJ H4 H2.length 0=some ([aS fq],3,true)∧aP 0 = .ref b g 0 n c∧aP 4=VI n∧aP 5=VI k∧aP 7=VI i∧aP 8 = .ptr H2.length 0 0 0∧aP 9=VI j) (fun j=>n+1-j) k
       ⟨aLe _,by omega,hT3.congr fun _ _ _ _=>aeU (fun c hc=>Yu.u.1 k c oG hc (by omega)) oG aAi,hO3,rf,by (repeat' apply aMU)<;>first | rfl | trivial | assumption⟩ ?_
      clear g0 g4 g5 g7 hT3 hO3 rf
      rintro j ρ H4 ⟨hkj,DY,hT4,hO4,rf,g0,g4,g5,g7,g8,g9⟩
      have lf:=ZN rf
      by_cases ajQ:(j:Int)≤(n:Int)
      ·have xJ:j<n+1:=by omega
       have a4:=hT4.addr (c:=c) qU
       have a5:=hT4.addr (c:=c) oG
       obtain⟨rb4,rg4,rc4,t1,t2,t3,t4⟩:=hT4.spot (i:=i) (j:=j) qU xJ jY xC
       obtain⟨rb5,rg5,rc5,t5,t6,t7,_⟩:=hT4.spot (i:=k) (j:=j) oG xJ jY xC
       have t3:=(t3 true).trans (cF _)
       have t7:=(t7 true).trans (cF _)
       rw[auC] at t3
       rw[arX aAi] at t7
       have bij:=bits i j qU xJ
       have bkj:=bits k j oG xJ
       have em:=Ad fq (G2 A' Iz n k j) (by omega) (by omega)
       have bm:=oA fq (G2 A' Iz n k j)
       have eS:=zZ (G2 A' Iz n i j) (fq*G2 A' Iz n k j) (by omega) (by omega)
       rw[hel] at eS
       obtain⟨H5,t8,t9,hT5,_⟩:=t4 lo (jnA k A' Iz n i j) eT
       have hT5:=hT5.congr fun _ _ _ _=>anD
       have rf5:=t9.2 _ _ _ (by omega) rf
       simp only[xZ,g0,g4,g5,g7,g8,g9,ajQ,a4,a5,t1,t2,t3,t5,t6,t7,t8,lf,em,eS,wn j (by omega),eO,VX,Nat.reduceEqDiff,Nat.reduceAdd,Nat.reduceLeDiff,Nat.reduceLT,Nat.reduceSub]
       exact⟨j+1,by omega,by omega,by omega,hT5,trB hO4 (ofR t9),rf5,by (repeat' apply aMU)<;>first | rfl | trivial | assumption⟩
      ·have Wa:j=n+1:=by omega
       subst Wa
       simp only[xZ,g4,g7,g9,ajQ,wn i (by omega),eO,VX,Nat.reduceEqDiff,Nat.reduceAdd,Nat.reduceLeDiff,Nat.reduceLT,Nat.reduceSub]
       exact⟨i+1,by omega,by omega,hT4.congr fun _ _ _ hc=>aqU hc,hO4,by (repeat' apply aMU)<;>first | rfl | trivial | assumption⟩
   ·have mZ:i=n:=by omega
    subst mZ
    have hU3:=Yu.step TN oG
    simp only[nY,g4,g5,g7,UW,wn k (by omega),eO,VX,Nat.reduceEqDiff,Nat.reduceAdd,Nat.reduceLeDiff,Nat.reduceLT,Nat.reduceSub]
    exact⟨k+1,by omega,by omega,⟨_,_,hU3,Rg.congr fun a _ ha _=>if_pos ha⟩,R2,by (repeat' apply aMU)<;>first | rfl | trivial | assumption⟩
 ·have T7:k=n:=by omega
  subst T7
  have hg:=hgk k hk
  have e0:∀K,nT false [.bool false,.slice none 0 0,.slice none 0 0] 0 [] K=some (.ref K.length 0 0 0 0,K++[.row 0 [] 3 true]):=fun K=>mQ rfl
  simp only[xW,g0,g4,g5,Hl,e0,eO,VX,Nat.reduceEqDiff,Nat.reduceAdd,Nat.reduceLeDiff,Nat.reduceLT,Nat.reduceSub]
  have aEb:=trB hO1 (ofA (L:=[.row 0 [] 3 true]))
  refine aN (fun(i:Nat) aP H2=>i≤k∧Tb aS fV hi k (k+1) b g (G2 A bb k) H2∧(H.length≤H2.length∧∀b' g' x,(b'<fV∨hi≤b')→aJ H b' g'=some x→aJ H2 b' g'=some x)∧aJ H2 H1.length i=some ((vec i X).map aS,3,true)∧aP 0 = .ref b g 0 k c∧aP 4=VI k∧aP 10 = .ref H1.length i 0 i i∧aP 11=VI i) (fun i=>k-i) 0
   ⟨aLI _,hT1.pre (aM9 _ _),aEb,iO,by (repeat' apply aMU)<;>first | rfl | trivial | assumption⟩ ?_
  clear g0 g4 g5
  rintro i ρ H2 ⟨qK,Rg,R2,wZ,g0,g4,g10,g11⟩
  have hb:=Rg.lt
  have aJp:hi≤H1.length:=aLf hhi hO1.1
  by_cases bX:(i:Int)<(k:Int)
  ·have qU:i<k:=by omega
   have a2:=Rg.addr (c:=c) qU
   obtain⟨rb2,rg2,rc2,d1,d2,d3,_⟩:=Rg.spot (i:=i) (j:=k) qU (by omega) jY xC
   obtain⟨rb3,rg3,rc3,d4,d5,d6,_⟩:=Rg.spot (i:=i) (j:=i) qU (by omega) jY xC
   have d3:=(d3 true).trans (cF _)
   have d6:=(d6 true).trans (cF _)
   rw[SH] at d3
   rw[E3 qU] at d6
   have QM:=Option.some.inj (d1.symm.trans d4)
   injection QM with h1 h2 _ _ h5
   subst h1 h2 h5
   have bii:=W4.z.bits qU qU
   have bbi:=W4.right hX (by omega) qU
   have ed:=F9 (bb i) (A i i) (W4.u.2 i qU) (by omega) (by omega)
   rw[←W4.done qU] at ed
   have eL:∀H,nT false [.bool false,.slice none 0 0,.slice none 0 0] 1 [(0,aS (X i))] H=some (.tree [aS (X i)] (.cl 3),H):=fun H=>lO rfl rfl rfl
   have eS:∀H,dG 3 (.tree [aS (X i)] (.cl 3)) H=some [aS (X i)]:=fun H=>gR rfl rfl
   have eP:=NQ (lo:=lo) (bytes:=56) (x:=X i) wZ (by rw[oV]) (by have:=hO1.1;omega) (by decide) (by decide) (by omega)
   simp only[yR,g0,g4,g10,g11,bX,a2,d1,d2,d3,d4,d5,d6,ed,eL,eS,eP,wn i (by omega),eO,VX,Nat.reduceEqDiff,Nat.reduceAdd,Nat.reduceLeDiff,Nat.reduceLT,Nat.reduceSub]
   refine⟨i+1,by omega,by omega,Rg.cW (jX.set (by omega)),⟨by rw[aNt];exact R2.1,fun b' g' x xR hx=>aW (by have:=lZ hx;have:=hO1.1;omega) (R2.2 b' g' x xR hx)⟩,by rw[PK];exact cP wZ,by (repeat' apply aMU)<;>first | rfl | trivial | assumption⟩
  ·have mZ:i=k:=by omega
   subst mZ
   simp only[yR,g4,g10,g11,bX,eO,VX,Nat.reduceEqDiff,Nat.reduceAdd,Nat.reduceLeDiff,Nat.reduceLT,Nat.reduceSub]
   exact⟨_,rfl,R2.1,⟨H1.length,i,i,hO1.1,lZ wZ,by rw[oV],by rw[oV];exact aLe _,wZ⟩,R2.2⟩
end Go.PM
namespace Go.PM
open Go.Lib
abbrev OV (x:G1):VV:=CA aS x.1 x.2.1 x.2.2
section
variable {x:G1} (hx:yM x)
include hx
end
end Go.PM
namespace Go.PM
open Go.Lib
theorem gT.times {n:Nat} {A:Nat→Nat→Rat} {b X:Nat→Rat} (h:gT n A b X) (q:Rat):gT n A (fun i=>q*b i) fun i=>q*X i:=fun i hi=>by
 show Sg (fun j=>A i j*(q*X j)) n=q*b i
 rw[←h i hi,←Ln]
 exact fW fun j _=>by grind
section
variable {x:G1} (hx:yM x)
include hx
end
end Go.PM
namespace Go.PM
open Go.Lib
theorem amF {v:VV} (h1:(aB v).length=3) (h2:(aB v).all bP=true):bM 0 3 (.ptr 0 0 0 0) v [dI]=some [.row 0 [v] 3 true]:=by
 rw[bS (e:=3) aQ (by exact aOo) (aLe _) h1 h2]
 rfl
end Go.PM
namespace Go.PM
open Go.Lib
def MV (s:rV):VV:=match dN s with
 | some x=>OV x
 | none => .agg [.tree [] .op,aC (aC aS) (KX s),.tree [] .op]
theorem arW (s:rV):Lf s = .eH [MV s,VB (WO s)]:=by
 unfold Lf MV WO
 cases dN s<;>rfl
theorem Q4 (s:rV):(aB (MV s)).length=3:=by unfold MV;split<;>rfl
theorem U9 (s:rV):(aB (MV s)).all bP=true:=by unfold MV;split<;>rfl
structure QH (x y:G1) (hi t:Nat) (H:aA):Prop where
 fx:aJ H 0 0=some ([OV x],3,true)
 fy:aJ H 1 0=some ([OV y],3,true)
 ft:∃rs,rs.length=t∧rs.map (·.xs)=(QN (pN x y) (pN x y+1) (G2 (pU x y) (pB x y) (pN x y))).take t∧MG aS 3 2 hi 2 t H rs
 fh:3≤hi
section
variable {x y:G1} {hi t:Nat} {H H':aA}
theorem QH.pre {L:aA} (h:QH x y hi t H):QH x y hi t (H++L):=by
 obtain⟨rs,h1,h2,h3⟩:=h.ft
 exact⟨dC h.fx,dC h.fy,⟨rs,h1,h2,h3.pre (aM9 _ _)⟩,h.fh⟩
theorem QH.cW (h:QH x y hi t H) {rb:Nat} (hb:hi≤rb) (hk:∀b g x,b≠rb→aJ H b g=some x→aJ H' b g=some x):QH x y hi t H':=by
 obtain⟨rs,h1,h2,h3⟩:=h.ft
 have hh:=h.fh
 exact⟨hk _ _ _ (by omega) h.fx,hk _ _ _ (by omega) h.fy,⟨rs,h1,h2,h3.cW fun b g x _ k2 hx=>hk b g x (by omega) hx⟩,h.fh⟩
theorem QH.snoc (h:QH x y hi t H) (ht:t<pN x y) (ht2:t≤1000) {rb rg rc:Nat} {R:Nat→Rat} (hb:hi≤rb) (hc:pN x y+1≤rc) (hr:Rw aS rb rg (pN x y+1) R H) (hR:∀c,c<pN x y+1→R c=G2 (pU x y) (pB x y) (pN x y) t c) :
  ∃H',dK 0 1 24 (.ref 2 t 0 t t) [.ref rb rg 0 (pN x y+1) rc] H=some (.ref 2 (t+1) 0 (t+1) (t+1),H')∧QH x y H.length (t+1) H'∧H'.length=H.length:=by
 obtain⟨rs,h1,h2,h3⟩:=h.ft
 have hh:=h.fh
 obtain⟨ap,hM⟩:=h3.snoc (fV:=0) h1.symm (aLI _) (by omega) ⟨rb,rg,rc,vec (pN x y+1) R⟩ hb (by rw[oV];exact hc) hr
 simp only[oV] at ap
 have B7:=lZ hr
 refine⟨_,ap,⟨aW (by decide) h.fx,aW (by decide) h.fy,⟨_,by rw[aLp,h1];rfl,?_,hM⟩,by omega⟩,by rw[aNt]⟩
 have vM:(QN (pN x y) (pN x y+1) (G2 (pU x y) (pB x y) (pN x y)))[t]? = some (vec (pN x y+1) R):=by
  rw[Np ht]
  exact congrArg some (xX fun c hc=>(hR c hc).symm)
 rw[sZ vM,List.map_append,h2]
 rfl
theorem QH.gx (h:QH x y hi t H):lR 1 (.ptr 0 0 0 0) H=some (.ptr 0 0 0 1)∧bG false 1 (.ptr 0 0 0 1) H=some (aC (aC aS) x.2.1):=⟨by rw[rU h.fx],by rw[bJ,h.fx];rfl⟩
theorem QH.gy (h:QH x y hi t H):lR 1 (.ptr 1 0 0 0) H=some (.ptr 1 0 0 1)∧bG false 1 (.ptr 1 0 0 1) H=some (aC (aC aS) y.2.1):=⟨by rw[rU h.fy],by rw[bJ,h.fy];rfl⟩
theorem QH.ex (h:QH x y hi t H):lR 2 (.ptr 0 0 0 0) H=some (.ptr 0 0 0 2)∧bG false 1 (.ptr 0 0 0 2) H=some (aC aS x.2.2):=⟨by rw[rU h.fx],by rw[bJ,h.fx];rfl⟩
theorem QH.ey (h:QH x y hi t H):lR 2 (.ptr 1 0 0 0) H=some (.ptr 1 0 0 2)∧bG false 1 (.ptr 1 0 0 2) H=some (aC aS y.2.2):=⟨by rw[rU h.fy],by rw[bJ,h.fy];rfl⟩
end
structure FsR (x y:G1) (hi t rb rg oc:Nat) (R:Nat→Rat) (o:Rat) (H:aA):Prop where
 s:QH x y hi t H
 r:Rw aS rb rg (pN x y+1) R H
 o:aJ H oc 0=some ([aS o],3,true)
 hb:hi≤rb
 ne:oc≠rb
theorem FsR.put {x y:G1} {hi t rb rg oc c0:Nat} {R:Nat→Rat} {o:Rat} {H:aA} (h:FsR x y hi t rb rg oc R o H) (hc:c0<pN x y+1) (v:Rat) :
  ∃H',bM 0 3 (.ptr rb rg c0 0) (aS v) H=some H'∧∀R',(∀c,c<pN x y+1→(if c=c0 then v else R c)=R' c)→FsR x y hi t rb rg oc R' o H':=by
 obtain⟨H',h1,h2,h3,h4⟩:=h.r.put hc (aLI _) jY xC v
 exact⟨H',h1,fun R' hR=>⟨h.s.cW h.hb h3,h4.congr hR,h3 _ _ _ h.ne h.o,h.hb,h.ne⟩⟩
theorem FsR.congr {x y:G1} {hi t rb rg oc:Nat} {R R':Nat→Rat} {o:Rat} {H:aA} (h:FsR x y hi t rb rg oc R o H) (hR:∀c,R c=R' c):FsR x y hi t rb rg oc R' o H:=⟨h.s,h.r.congr fun c _=>hR c,h.o,h.hb,h.ne⟩
set_option maxHeartbeats 32000000 in
set_option maxRecDepth 30000 in
theorem Ib (a b:rV) (ha:LR a) (hb:LR b):TC 55 [tX a,tX b] (fcV a b):=by
 refine TC.walk ⟨true,false⟩ IK rfl (aM2 rfl) (CE (jN _) (jN _)) (Zw _ _) ?_
 have e1:=EF a ha
 have e2:=EF b hb
 rw[arW] at e1 e2
 have XL:∀u v,(aB v).length=3→(aB v).all bP=true→bM 0 3 (.ptr 1 0 0 0) v [.row 0 [u] 3 true,dI]=some [.row 0 [u] 3 true,.row 0 [v] 3 true]:=fun u v h1 h2=>by
  rw[bS (e:=3) (g:=0) (j:=0) (cL.trans aQ) (by exact aOo) (aLI _) h1 h2]
  rfl
 have s0:=amF (Q4 a) (U9 a)
 have s1:=XL (MV a) (MV b) (Q4 b) (U9 b)
 cases Gp:WO a with
 |
  false =>
  rw[Gp] at e1
  rw[NS fun x y hx hy h1 h2 _=>Kk Gp hx h1]
  simp only[nU,lE,kH,gD,if_true,e1,e2,s0,s1,aLo,aMR,aME,aMw,aMM,aOK,eO,VX,Nat.reduceEqDiff,Nat.reduceAdd,Nat.reduceLeDiff,Nat.reduceLT,Nat.reduceSub]
  exact aK rfl
 | true =>
 cases Fm:WO b with
 |
  false =>
  rw[Gp] at e1
  rw[Fm] at e2
  rw[NS fun x y hx hy h1 h2 _=>Kk Fm hy h2]
  simp only[nU,lE,kH,gD,if_true,e1,e2,s0,s1,aLo,aMR,aME,aMw,aMM,aOK,aOJ,eO,VX,Nat.reduceEqDiff,Nat.reduceAdd,Nat.reduceLeDiff,Nat.reduceLT,Nat.reduceSub]
  exact aK rfl
 |
  true =>
  rw[Gp] at e1
  rw[Fm] at e2
  obtain⟨x,FF,hex⟩:=Jc Gp
  obtain⟨y,hry,hey⟩:=Jc Fm
  have hx:=yM.of FF hex
  have hy:=yM.of hry hey
  have hA:MV a=OV x:=by unfold MV;rw[FF]
  have hB:MV b=OV y:=by unfold MV;rw[hry]
  rw[hA] at e1 s0 s1
  rw[hB] at e2 s1
  have fa0:∀u v,lR 0 (.ptr 0 0 0 0) [.row 0 [u] 3 true,.row 0 [v] 3 true]=some (.ptr 0 0 0 0):=fun u v=>rfl
  have fa1:∀u v,lR 0 (.ptr 1 0 0 0) [.row 0 [u] 3 true,.row 0 [v] 3 true]=some (.ptr 1 0 0 0):=fun u v=>rfl
  have TV:bG false 1 (.ptr 0 0 0 0) [.row 0 [OV x] 3 true,.row 0 [OV y] 3 true]=some (aC aS x.1):=rfl
  have ld2:bG false 1 (.ptr 1 0 0 0) [.row 0 [OV x] 3 true,.row 0 [OV y] 3 true]=some (aC aS y.1):=rfl
  have hn:=hx.n
  have hm:=hy.n
  have aFi:x.1.length*y.1.length≤6*6:=aNw hn.2 hm.2
  have wN:IntKind.i64.wrap ((x.1.length:Int)*(y.1.length:Int))=((pN x y:Nat):Int):=by
   have e:(x.1.length:Int)*(y.1.length:Int)=((pN x y:Nat):Int):=by unfold pN;rw[aNx]
   rw[e]
   exact wrap64 (by omega) (by unfold pN;omega)
  by_cases h12:(12:Int)<((pN x y:Nat):Int)
  ·rw[NS fun x' y' FH hy' _ _ h=>by rw[FF] at FH;rw[hry] at hy';cases FH;cases hy';omega]
   simp only[nU,lE,kH,gD,if_true,e1,e2,s0,s1,fa0,fa1,TV,ld2,wN,h12,aMV,aLo,aMR,aME,aMw,aMM,aOJ,eO,VX,Nat.reduceEqDiff,Nat.reduceAdd,Nat.reduceLeDiff,Nat.reduceLT,Nat.reduceSub]
   exact aK rfl
  have Nk:pN x y≤12:=by omega
  have Cw:fcV a b=Dq (No x y (pN x y)):=by
   unfold fcV
   simp only[FF,hry]
   exact if_pos ⟨hex,hey,Nk⟩
  rw[Cw]
  have e0:∀K,nT false [.slice none 0 0] 0 [] K=some (.ref K.length 0 0 0 0,K++[.row 0 [] 1 true]):=fun K=>mQ rfl
  have wS:∀k:Nat,k≤100→IntKind.i64.wrap ((k:Int)+1)=((k+1:Nat):Int):=fun k hk=>Go.PM.wN _ (by omega) (by omega)
  have wA:∀i j:Nat,i<x.1.length→j<y.1.length→IntKind.i64.wrap ((i:Int)*(y.1.length:Int))=((i*y.1.length:Nat):Int)∧IntKind.i64.wrap (((i*y.1.length:Nat):Int)+(j:Int))=((i*y.1.length+j:Nat):Int):=fun i j hi hj=>by
   have h1:=wU hi hj
   have e:(i:Int)*(y.1.length:Int)=((i*y.1.length:Nat):Int):=by rw[aNx]
   have e2:((i*y.1.length:Nat):Int)+(j:Int)=((i*y.1.length+j:Nat):Int):=by rw[Int.natCast_add]
   exact⟨by rw[e];exact wrap64 (by omega) (by omega),by rw[e2];exact wrap64 (by omega) (by omega)⟩
  simp only[nU,lE,kH,gD,if_true,e0,e1,e2,s0,s1,fa0,fa1,TV,ld2,wN,h12,aMV,aLo,aMR,aME,aMw,aMM,aOJ,eO,VX,Nat.reduceEqDiff,Nat.reduceAdd,Nat.reduceLeDiff,Nat.reduceLT,Nat.reduceSub]
  have hF:QH x y 3 0 [.row 0 [OV x] 3 true,.row 0 [OV y] 3 true,.row 0 [] 1 true]:=⟨rfl,rfl,⟨[],rfl,rfl,rfl,by decide,by decide,by simp,by simp⟩,aLe _⟩
  refine aN (fun(i:Nat) ρ H1=>i≤x.1.length∧(∃hi,hi≤H1.length∧QH x y hi (i*y.1.length) H1)∧ρ 6 = .ptr 0 0 0 0∧ρ 8 = .ptr 1 0 0 0∧ρ 10=VI x.1.length∧ρ 11=VI y.1.length∧ρ 12 = .ref 2 (i*y.1.length) 0 (i*y.1.length) (i*y.1.length)∧ρ 13=VI i) (fun i=>x.1.length-i) 0
   ⟨aLI _,⟨3,aLe _,by rw[aMh];exact hF⟩,by rw[aMh];(repeat' apply aMU)<;>first | rfl | trivial | assumption⟩ ?_
  clear hF
  rintro i ρ H1 ⟨hi,⟨hh,hhl,hF⟩,g6,g8,g10,g11,g12,g13⟩
  by_cases bX:(i:Int)<(x.1.length:Int)
  ·have qU:i<x.1.length:=by omega
   simp only[tK,g6,g8,g10,g11,g12,g13,bX,eO,VX,Nat.reduceEqDiff,Nat.reduceAdd,Nat.reduceLeDiff,Nat.reduceLT,Nat.reduceSub]
   refine aN (fun(j:Nat) ρ H1=>j≤y.1.length∧(∃hi,hi≤H1.length∧QH x y hi (i*y.1.length+j) H1)∧ρ 6 = .ptr 0 0 0 0∧ρ 8 = .ptr 1 0 0 0∧ρ 10=VI x.1.length∧ρ 11=VI y.1.length∧ρ 12 = .ref 2 (i*y.1.length+j) 0 (i*y.1.length+j) (i*y.1.length+j)∧ρ 13=VI i∧ρ 14=VI j) (fun j=>y.1.length-j) 0
    ⟨aLI _,⟨hh,hhl,by rw[aNq];exact hF⟩,by rw[aNq];(repeat' apply aMU)<;>first | rfl | trivial | assumption⟩ ?_
   clear hF g6 g8 g10 g11 g12 g13 hhl
   clear hh
   rintro j ρ H1 ⟨hj,⟨hh,hhl,hF⟩,g6,g8,g10,g11,g12,g13,g14⟩
   by_cases DY:(j:Int)<(y.1.length:Int)
   ·have xJ:j<y.1.length:=by omega
    obtain⟨w1,w2⟩:=wA i j qU xJ
    have ht:i*y.1.length+j<pN x y:=wU qU xJ
    simp only[tQ,g6,g8,g10,g11,g12,g13,g14,DY,wN,wS (pN x y) (by omega),eO,VX,Nat.reduceEqDiff,Nat.reduceAdd,Nat.reduceLeDiff,Nat.reduceLT,Nat.reduceSub]
    refine rJ rfl (Qm (pN x y+1) (by omega) (aLI _)) fun z L hz => ?_
    obtain⟨rb,rg,rc,k1,k2,rfl,k4,k5⟩:=hz
    rw[aM3] at k4
    have k5:aJ (H1++L) rb rg=some ((vec (pN x y+1) fun _=>(0:Rat)).map aS,3,true):=by rw[←K2];exact k5
    have hF2:=hF.pre (L:=L)
    have Kn:hh≤(H1++L).length:=by rw[aLp];omega
    have BW:hh≤rb:=by omega
    rw[aM3]
    generalize H1++L=H2 at *
    obtain⟨He,p1,p2⟩:=TE (g:=x.2.1) (i:=i) (by rw[hx.g];exact qU)
    obtain⟨G8,p3,p4⟩:=TE (g:=y.2.1) (i:=j) (by rw[hy.g];exact xJ)
    have prx:=hx.gr He (aL8 p1)
    have pry:=hy.gr G8 (aL8 p3)
    have hsx:dF He=Sg (gE x.2.1 i) x.1.length:=by rw[Sr,prx.1];exact fW fun j _=>(p2 j).symm
    have hsy:dF G8=Sg (gE y.2.1 j) y.1.length:=by rw[Sr,pry.1];exact fW fun k _=>(p4 k).symm
    have a1:=fun H=>aF (f:=aC aS) (t := .op) (H:=H) (size:=1) (k := .i64) p1 rfl
    have a2:=fun H=>aF (f:=aC aS) (t := .op) (H:=H) (size:=1) (k := .i64) p3 rfl
    have a3:=fun H=>aF (f:=aS) (t := .op) (H:=H) (size:=3) (k := .i64) (anL hx qU) rfl
    have a4:=fun H=>aF (f:=aS) (t := .op) (H:=H) (size:=3) (k := .i64) (anL hy xJ) rfl
    have lrx:∀K,bG false 1 (.cS (aC aS He) 0) K=some (aC aS He):=fun K=>rfl
    have lry:∀K,bG false 1 (.cS (aC aS G8) 0) K=some (aC aS G8):=fun K=>rfl
    have bo1:=JW hx (i:=i)
    have bo2:=JW hy (i:=j)
    have bs1:=Bm (B:=665) (n:=6) (fun q hq=>(prx.2 q hq).2) (by omega)
    have bs2:=Bm (B:=665) (n:=6) (fun q hq=>(pry.2 q hq).2) (by omega)
    rw[hsx] at bs1
    rw[hsy] at bs2
    have be1:=hx.Am (P:=fun q=>aL q≤665) (fun q h=>h.2) i
    have be2:=hy.Am (P:=fun q=>aL q≤665) (fun q h=>h.2) j
    have gx:=hF2.gx
    simp only[g6,g8,g10,g11,g12,g13,g14,gx.1,gx.2,a1,lrx,eO,VX,Nat.reduceEqDiff,Nat.reduceAdd,Nat.reduceLeDiff,Nat.reduceLT,Nat.reduceSub]
    refine rJ rfl (Af (v:=aC aS He) He (B:=665) (Rd.tree jY) (aLe _) (fun q hq=>(prx.2 q hq).2) (by omega) (by decide) (by omega)) fun z L2 hz => ?_
    subst hz
    have hF3:=hF2.pre (L:=L2)
    have hl3:hh≤(H2++L2).length:=by rw[aLp];omega
    have k6:=dC (L:=L2) k5
    generalize H2++L2=H3 at *
    have ex:=hF3.ex
    have gy:=hF3.gy
    have t1:=nB (Sg (gE x.2.1 i) x.1.length) (eE x.2.2 i) (by omega) (by omega)
    rw[←hsx] at t1
    simp only[g6,g8,g10,g11,g12,g13,g14,ex.1,ex.2,gy.1,gy.2,a2,a3,lry,cF,t1,eO,VX,Nat.reduceEqDiff,Nat.reduceAdd,Nat.reduceLeDiff,Nat.reduceLT,Nat.reduceSub]
    refine rJ rfl (Af (v:=aC aS G8) G8 (B:=665) (Rd.tree jY) (aLe _) (fun q hq=>(pry.2 q hq).2) (by omega) (by decide) (by omega)) fun z L3 hz => ?_
    subst hz
    have hF4:=hF3.pre (L:=L3)
    have hl4:hh≤(H3++L3).length:=by rw[aLp];omega
    have k7:=dC (L:=L3) k6
    generalize H3++L3=H4 at *
    have ey:=hF4.ey
    have t2:=nB (Sg (gE y.2.1 j) y.1.length) (eE y.2.2 j) (by omega) (by omega)
    rw[←hsy] at t2
    have t3:=nB (dF He+eE x.2.2 i) (dF G8+eE y.2.2 j) (by rw[hsx];omega) (by rw[hsy];omega)
    have sc:=Gm (lo:=0) (H:=H4) (q:=dF He+eE x.2.2 i+(dF G8+eE y.2.2 j)) (aLI _)
    have ro:=iO (H:=H4) (g:=0) (es:=[aS (dF He+eE x.2.2 i+(dF G8+eE y.2.2 j))]) (e:=3) (w:=true)
    have B7:=lZ k7
    have hR:FsR x y hh (i*y.1.length+j) rb rg H4.length (fun _=>0) (dF He+eE x.2.2 i+(dF G8+eE y.2.2 j)) (H4++[.row 0 [aS (dF He+eE x.2.2 i+(dF G8+eE y.2.2 j))] 3 true]):=⟨hF4.pre,dC k7,ro,BW,by omega⟩
    have bo:aL (dF He+eE x.2.2 i+(dF G8+eE y.2.2 j))≤13000:=by
     have:=yS (dF He+eE x.2.2 i) (dF G8+eE y.2.2 j)
     rw[hsx,hsy] at this ⊢
     omega
    simp only[g6,g8,g10,g11,g12,g13,g14,ey.1,ey.2,a4,cF,t2,t3,sc,eO,VX,Nat.reduceEqDiff,Nat.reduceAdd,Nat.reduceLeDiff,Nat.reduceLT,Nat.reduceSub]
    have hov:dF He+eE x.2.2 i+(dF G8+eE y.2.2 j)=(Sg (gE x.2.1 i) x.1.length+eE x.2.2 i)+(Sg (gE y.2.1 j) y.1.length+eE y.2.2 j):=by rw[hsx,hsy]
    generalize hoc:H4.length=oc at *
    generalize H4++[eR.row 0 [aS (dF He+eE x.2.2 i+(dF G8+eE y.2.2 j))] 3 true]=H5 at *
    generalize dF He+eE x.2.2 i+(dF G8+eE y.2.2 j)=out at *
    clear t1 t2 t3 sc ro hF hF2 hF3 hF4 k5 k6 k7 ex ey gx gy
    refine aN (fun(k:Nat) ρ H1=>k≤x.1.length∧FsR x y hh (i*y.1.length+j) rb rg oc (r1 x y i j k) out H1∧ρ 6 = .ptr 0 0 0 0∧ρ 8 = .ptr 1 0 0 0∧ρ 10=VI x.1.length∧ρ 11=VI y.1.length∧ρ 12 = .ref 2 (i*y.1.length+j) 0 (i*y.1.length+j) (i*y.1.length+j)∧ρ 13=VI i∧ρ 14=VI j∧ρ 15 = .ref rb rg 0 (pN x y+1) rc∧ρ 16 = .ptr oc 0 0 0∧ρ 17=VI k) (fun k=>x.1.length-k) 0
     ⟨aLI _,hR.congr fun _=>aAS,by (repeat' apply aMU)<;>first | rfl | trivial | assumption⟩ ?_
    clear hR g6 g8 g10 g11 g12 g13 g14
    rintro k ρ H1 ⟨hk,hR,g6,g8,g10,g11,g12,g13,g14,g15,g16,g17⟩
    by_cases Hl:(k:Int)<(x.1.length:Int)
    ·have Gk:k<x.1.length:=by omega
     obtain⟨row,q1,q2⟩:=abA hx qU Gk
     have a2:=fun H=>aF (f:=aC aS) (t := .op) (H:=H) (size:=1) (k := .i64) q1 rfl
     have a3:=fun H=>aF (f:=aS) (t := .op) (H:=H) (size:=3) (k := .i64) q2 rfl
     have X7:∀K,bG false 1 (.cS (aC aS row) 0) K=some (aC aS row):=fun K=>rfl
     obtain⟨v1,v2⟩:=wA k j Gk xJ
     have Xw:k*y.1.length+j<pN x y+1:=aOP (wU Gk xJ)
     have c1:=hR.r.addr (c:=rc) Xw
     have c2:=(hR.r.get Xw true).trans (cF _)
     rw[alN xJ] at c2
     have bq:=hx.vP (P:=fun q=>aL q≤665) (fun q h=>h.2) i k
     have es:=zZ 0 (gE x.2.1 i k) (by rw[nC];omega) (by omega)
     obtain⟨H2,c5,c6⟩:=hR.put Xw (0-gE x.2.1 i k)
     have gx:=hR.s.gx
     simp only[tM,g6,g8,g10,g11,g12,g13,g14,g15,g16,g17,Hl,gx.1,gx.2,a2,a3,X7,cF,c1,c2,c5,es,v1,v2,wS k (by omega),eO,VX,Nat.reduceEqDiff,Nat.reduceAdd,Nat.reduceLeDiff,Nat.reduceLT,Nat.reduceSub]
     exact⟨k+1,by omega,by omega,c6 _ fun c _=>alG xJ,by (repeat' apply aMU)<;>first | rfl | trivial | assumption⟩
    have T7:k=x.1.length:=by omega
    subst T7
    simp only[tM,g6,g8,g10,g11,g12,g13,g14,g15,g16,g17,Hl,eO,VX,Nat.reduceEqDiff,Nat.reduceAdd,Nat.reduceLeDiff,Nat.reduceLT,Nat.reduceSub]
    refine aN (fun(k:Nat) ρ H1=>k≤y.1.length∧FsR x y hh (i*y.1.length+j) rb rg oc (r2 x y i j k) out H1∧ρ 6 = .ptr 0 0 0 0∧ρ 8 = .ptr 1 0 0 0∧ρ 10=VI x.1.length∧ρ 11=VI y.1.length∧ρ 12 = .ref 2 (i*y.1.length+j) 0 (i*y.1.length+j) (i*y.1.length+j)∧ρ 13=VI i∧ρ 14=VI j∧ρ 15 = .ref rb rg 0 (pN x y+1) rc∧ρ 16 = .ptr oc 0 0 0∧ρ 18=VI k) (fun k=>y.1.length-k) 0
     ⟨aLI _,hR.congr fun _=>aBu,by (repeat' apply aMU)<;>first | rfl | trivial | assumption⟩ ?_
    clear hR g6 g8 g10 g11 g12 g13 g14 g15 g16 g17 Hl hk
    rintro k ρ H1 ⟨hk,hR,g6,g8,g10,g11,g12,g13,g14,g15,g16,g18⟩
    by_cases Hl:(k:Int)<(y.1.length:Int)
    ·have Gk:k<y.1.length:=by omega
     obtain⟨row,q1,q2⟩:=abA hy xJ Gk
     have a2:=fun H=>aF (f:=aC aS) (t := .op) (H:=H) (size:=1) (k := .i64) q1 rfl
     have a3:=fun H=>aF (f:=aS) (t := .op) (H:=H) (size:=3) (k := .i64) q2 rfl
     have X7:∀K,bG false 1 (.cS (aC aS row) 0) K=some (aC aS row):=fun K=>rfl
     obtain⟨v1,v2⟩:=wA i k qU Gk
     have Xw:i*y.1.length+k<pN x y+1:=aOP (wU qU Gk)
     have c1:=hR.r.addr (c:=rc) Xw
     have c2:=(hR.r.get Xw true).trans (cF _)
     rw[anX Gk] at c2
     have bq:=hy.vP (P:=fun q=>aL q≤665) (fun q h=>h.2) j k
     have br:=Tw hx (y:=y) (i:=i) (j:=j) (k:=x.1.length) (c:=i*y.1.length+k)
     have es:=zZ (r1 x y i j x.1.length (i*y.1.length+k)) (gE y.2.1 j k) (by omega) (by omega)
     obtain⟨H2,c5,c6⟩:=hR.put Xw (r1 x y i j x.1.length (i*y.1.length+k)-gE y.2.1 j k)
     have gy:=hR.s.gy
     simp only[tS,g6,g8,g10,g11,g12,g13,g14,g15,g16,g18,Hl,gy.1,gy.2,a2,a3,X7,cF,c1,c2,c5,es,v1,v2,wS k (by omega),eO,VX,Nat.reduceEqDiff,Nat.reduceAdd,Nat.reduceLeDiff,Nat.reduceLT,Nat.reduceSub]
     exact⟨k+1,by omega,by omega,c6 _ fun c _=>alS Gk,by (repeat' apply aMU)<;>first | rfl | trivial | assumption⟩
    have T7:k=y.1.length:=by omega
    subst T7
    have Xw:i*y.1.length+j<pN x y+1:=aOP ht
    have c1:=hR.r.addr (c:=rc) Xw
    have c2:=(hR.r.get Xw true).trans (cF _)
    have lo:=ZN hR.o
    have br:=aaV hx hy (i:=i) (j:=j) (k:=y.1.length) (c:=i*y.1.length+j)
    have es:=nB (r2 x y i j y.1.length (i*y.1.length+j)) out (by omega) (by omega)
    obtain⟨H6,c5,c6⟩:=hR.put Xw (r2 x y i j y.1.length (i*y.1.length+j)+out)
    have hR6:=c6 (fun c=>if c=i*y.1.length+j then r2 x y i j y.1.length (i*y.1.length+j)+out else r2 x y i j y.1.length c) fun _ _=>rfl
    have ex:=hR6.s.ex
    have cN:=hR6.r.addr (c:=rc) (show pN x y<pN x y+1 from aON _)
    obtain⟨H7,c7,c8⟩:=hR6.put (aON _) (eE x.2.2 i)
    have hR7:=c8 (G2 (pU x y) (pB x y) (pN x y) (i*y.1.length+j)) fun c hc=>by
     by_cases h:c=pN x y
     ·subst h
      rw[if_pos rfl,SH]
      unfold pB
      rw[lW xJ]
     ·have W8:c<pN x y:=by omega
      rw[if_neg h,E3 W8,hov]
      exact akQ qU xJ W8
    obtain⟨H8,ap,hF8,hl8⟩:=hR7.s.snoc ht (by omega) BW k4 hR7.r fun _ _=>rfl
    have eL:∀K,nT false [.slice none 0 0] 1 [(0,.ref rb rg 0 (pN x y+1) rc)] K=some (.tree [.ref rb rg 0 (pN x y+1) rc] (.cl 1),K):=fun K=>lO rfl rfl rfl
    have eS:∀K,dG 1 (.tree [.ref rb rg 0 (pN x y+1) rc] (.cl 1)) K=some [.ref rb rg 0 (pN x y+1) rc]:=fun K=>gR rfl rfl
    simp only[tS,g6,g8,g10,g11,g12,g13,g14,g15,g16,g18,Hl,w1,w2,wN,c1,c2,c5,lo,es,ex.1,ex.2,a3,cN,c7,cF,eL,eS,ap,wS j (by omega),eO,VX,Nat.reduceEqDiff,Nat.reduceAdd,Nat.reduceLeDiff,Nat.reduceLT,Nat.reduceSub]
    exact⟨j+1,by omega,by omega,⟨_,Nat.le_of_eq hl8.symm,hF8⟩,by (repeat' apply aMU)<;>first | rfl | trivial | assumption⟩
   have Wa:j=y.1.length:=by omega
   subst Wa
   rw[←aL3] at hF g12
   simp only[tQ,g6,g8,g10,g11,g12,g13,g14,DY,wS i (by omega),eO,VX,Nat.reduceEqDiff,Nat.reduceAdd,Nat.reduceLeDiff,Nat.reduceLT,Nat.reduceSub]
   exact⟨i+1,by omega,by omega,⟨hh,hhl,hF⟩,by (repeat' apply aMU)<;>first | rfl | trivial | assumption⟩
  have mZ:i=x.1.length:=by omega
  subst mZ
  have hN1:1≤pN x y:=aNw hn.1 hm.1
  have hpN:x.1.length*y.1.length=pN x y:=rfl
  rw[hpN] at hF g12
  obtain⟨γ,hγ⟩:∃γ,γ=66000000000:=⟨66000000000,rfl⟩
  obtain⟨K,hK⟩:∃K,K=12:=⟨12,rfl⟩
  obtain⟨K8,hK8⟩:∃K,K=84:=⟨84,rfl⟩
  obtain⟨aAg,Cn⟩:=ajC hx hy hγ hK Nk
  have hU:DgS (pN x y) 0 (K8*665+10) (pU x y) (pB x y) (pX x y):=⟨ND hx hy,⟨fun _ _ _ h _=>absurd h (aMv _),fun _ h=>absurd h (aMv _)⟩,aAg,LJ hx hy hK8⟩
  have Zz:2^pN x y*(K8*665+10+1)≤68719476736:=by
   have e1:2^pN x y≤2^12:=aNh (by decide) Nk
   have e2:2^pN x y*(K8*665+10+1)≤2^12*(K8*665+10+1):=aLF _ e1
   have e3:(2:Nat)^12=4096:=by decide
   omega
  have hbX:∀k,k<pN x y→aL (pX x y k)≤66000100000:=fun k hk=>aLf (Cn.bits hk) (by omega)
  have hη:K*665+1+γ≤274877906944:=by omega
  have hT:Tb aS 2 hh (pN x y) (pN x y+1) 2 (pN x y) (G2 (pU x y) (pB x y) (pN x y)) H1:=by
   obtain⟨rs,r1,r2,r3⟩:=hF.ft
   rw[List.take_of_length_le (by rw[GU];exact aLe _)] at r2
   exact⟨rs,r3,r2⟩
  simp only[tK,g6,g8,g10,g11,g12,g13,bX,eO,VX,Nat.reduceEqDiff,Nat.reduceAdd,Nat.reduceLeDiff,Nat.reduceLT,Nat.reduceSub]
  refine iN rfl ((Nh (lo:=0) (fV:=2) (hi:=hh) (c:=pN x y) hT hU Cn Nk Zz hη (aLI _) (aLI _) hhl).mono ?_)
  rintro _ H3 ⟨v,rfl,hl3,hv,hk3⟩
  have x3:=hk3 _ _ _ (.inl (by decide)) hF.fx
  have y3:=hk3 _ _ _ (.inl (by decide)) hF.fy
  have hR:=hv.rd
  have ez:=Bv
  have sw:=Gm (lo:=0) (H:=H3) (q:=0) (aLI _)
  simp only[g6,g8,g10,g11,ez,sw,eO,VX,Nat.reduceEqDiff,Nat.reduceAdd,Nat.reduceLeDiff,Nat.reduceLT,Nat.reduceSub]
  have hp3:H3 <+: H3++[.row 0 [aS 0] 3 true]:=aM9 _ _
  refine aN (fun(i:Nat) ρ H4=>i≤x.1.length∧H3 <+: H4∧aJ H4 H3.length 0=some ([aS (No x y (i*y.1.length))],3,true)∧ρ 6 = .ptr 0 0 0 0∧ρ 8 = .ptr 1 0 0 0∧ρ 10=VI x.1.length∧ρ 11=VI y.1.length∧ρ 19=v∧ρ 21 = .ptr H3.length 0 0 0∧ρ 22=VI i) (fun i=>x.1.length-i) 0
   ⟨aLI _,hp3,by rw[aMh];exact iO,by (repeat' apply aMU)<;>first | rfl | trivial | assumption⟩ ?_
  clear g6 g8 g10 g11 g12 g13 hp3 sw hi bX hF hT
  rintro i ρ H4 ⟨hi,hp4,o4,g6,g8,g10,g11,g19,g21,g22⟩
  by_cases bX:(i:Int)<(x.1.length:Int)
  ·have qU:i<x.1.length:=by omega
   simp only[tF,g6,g8,g10,g11,g19,g21,g22,bX,eO,VX,Nat.reduceEqDiff,Nat.reduceAdd,Nat.reduceLeDiff,Nat.reduceLT,Nat.reduceSub]
   refine aN (fun(j:Nat) ρ H4=>j≤y.1.length∧H3 <+: H4∧aJ H4 H3.length 0=some ([aS (No x y (i*y.1.length+j))],3,true)∧ρ 6 = .ptr 0 0 0 0∧ρ 8 = .ptr 1 0 0 0∧ρ 10=VI x.1.length∧ρ 11=VI y.1.length∧ρ 19=v∧ρ 21 = .ptr H3.length 0 0 0∧ρ 22=VI i∧ρ 23=VI j) (fun j=>y.1.length-j) 0
    ⟨aLI _,hp4,by rw[aNq];exact o4,by (repeat' apply aMU)<;>first | rfl | trivial | assumption⟩ ?_
   clear g6 g8 g10 g11 g19 g21 g22 hp4 o4
   rintro j ρ H4 ⟨hj,hp4,o4,g6,g8,g10,g11,g19,g21,g22,g23⟩
   by_cases DY:(j:Int)<(y.1.length:Int)
   ·have xJ:j<y.1.length:=by omega
    obtain⟨w1,w2⟩:=wA i j qU xJ
    have ht:i*y.1.length+j<pN x y:=wU qU xJ
    have lo4:=ZN o4
    have x4:=cE hp4 x3
    have y4:=cE hp4 y3
    have fx:lR 0 (.ptr 0 0 0 0) H4=some (.ptr 0 0 0 0):=by rw[rU x4]
    have fy:lR 0 (.ptr 1 0 0 0) H4=some (.ptr 1 0 0 0):=by rw[rU y4]
    have lx:bG false 1 (.ptr 0 0 0 0) H4=some (aC aS x.1):=by rw[bJ,x4];rfl
    have ly:bG false 1 (.ptr 1 0 0 0) H4=some (aC aS y.1):=by rw[bJ,y4];rfl
    have a2:=fun H=>aF (f:=aS) (t := .op) (H:=H) (size:=3) (k := .i64) (ZO qU) rfl
    have a3:=fun H=>aF (f:=aS) (t := .op) (H:=H) (size:=3) (k := .i64) (ZO xJ) rfl
    obtain⟨p,p1,p2⟩:=hR.get H4 hp4 (i*y.1.length+j) _ (Ct ht)
    have p2:=(p2 true).trans (cF _)
    have hfb:=PN hx hy Nk (Nat.le_of_lt ht)
    have b1:aL (x.1.getD i 0)≤665:=wE (P:=fun q=>aL q≤665) hx.wb rz0 _
    have b2:aL (y.1.getD j 0)≤665:=wE (P:=fun q=>aL q≤665) hy.wb rz0 _
    have b3:=hbX _ ht
    have b4:=oA (x.1.getD i 0) (y.1.getD j 0)
    have b5:=oA (x.1.getD i 0*y.1.getD j 0) (pX x y (i*y.1.length+j))
    have m1:=Ad (x.1.getD i 0) (y.1.getD j 0) (by omega) (by omega)
    have m2:=Ad (x.1.getD i 0*y.1.getD j 0) (pX x y (i*y.1.length+j)) (by omega) (by omega)
    have m3:=nB (No x y (i*y.1.length+j)) (x.1.getD i 0*y.1.getD j 0*pX x y (i*y.1.length+j)) (by omega) (by omega)
    have xI:No x y (i*y.1.length+j)+x.1.getD i 0*y.1.getD j 0*pX x y (i*y.1.length+j)=No x y (i*y.1.length+(j+1)):=by
     rw[←Nat.add_assoc]
     unfold No
     rw[Sg]
     unfold pC
     rw[lW xJ,oB xJ]
    rw[xI] at m3
    have s5:=bS (lo:=0) (v:=aS (No x y (i*y.1.length+(j+1)))) (j:=0) o4 (by exact aOo) (aLI _) (jY _) (xC _)
    rw[List.set_cons_zero] at s5
    simp only[tT,g6,g8,g10,g11,g19,g21,g22,g23,DY,lo4,fx,fy,lx,ly,a2,a3,cF,p1,p2,m1,m2,m3,s5,w1,w2,wS j (by omega),eO,VX,Nat.reduceEqDiff,Nat.reduceAdd,Nat.reduceLeDiff,Nat.reduceLT,Nat.reduceSub]
    exact⟨j+1,by omega,by omega,BS hp4 (aLe _),cP o4,by (repeat' apply aMU)<;>first | rfl | trivial | assumption⟩
   have Wa:j=y.1.length:=by omega
   subst Wa
   rw[←aL3] at o4
   simp only[tT,g6,g8,g10,g11,g19,g21,g22,g23,DY,wS i (by omega),eO,VX,Nat.reduceEqDiff,Nat.reduceAdd,Nat.reduceLeDiff,Nat.reduceLT,Nat.reduceSub]
   exact⟨i+1,by omega,by omega,hp4,o4,by (repeat' apply aMU)<;>first | rfl | trivial | assumption⟩
  have mZ:i=x.1.length:=by omega
  subst mZ
  rw[hpN] at o4
  have lo4:=ZN o4
  have e6:=PB (No x y (pN x y)) (aLf (PN hx hy Nk (aLe _)) (by decide))
  obtain⟨t,ok,htt⟩:=Lw (No x y (pN x y))
  rw[htt] at e6 ⊢
  simp only[tF,g6,g8,g10,g11,g19,g21,g22,bX,lo4,e6,eO,VX,Nat.reduceEqDiff,Nat.reduceAdd,Nat.reduceLeDiff,Nat.reduceLT,Nat.reduceSub]
  exact aK rfl
end Go.PM
namespace Go.PM
def iU:aE:=(LS [LO 2 (.box (LT 0)),LO 3 (.box (LT 1)),LO 4 (.mv LF)] (LS [LO 5 (.mv (LI 1000000))] (LS [LO 14 (LK 2),LM 15 5,LO 16 (.call 44 [(LT 14),(LT 15)]),LM 5 16] (.seq (LS [LM 17 5,LO 18 (.bin .lss (LT 17) (LI 0))] (.cond (LT 18) (LS [LO 4 (.mv LG)] .ret) .skip)) (LS [LO 19 (LK 3),LM 20 5,LO 21 (.call 44 [(LT 19),(LT 20)]),LM 5 21] (.seq (LS [LM 22 5,LO 23 (.bin .lss (LT 22) (LI 0))] (.cond (LT 23) (LS [LO 4 (.mv LG)] .ret) .skip)) (LS [LO 25 (LK 2),LQ 26 (.call 46 [(LT 25),LF]),LO 27 (LK 3),LQ 28 (.call 46 [(LT 27),LF]),LQ 29 (.call 55 [(LT 26),(LT 28)]),LM 24 29,LO 30 (LX 24 0),LO 31 (LX 24 1),LM 6 30,LM 7 31] (LS [LO 32 (LK 2),LO 33 (.call 46 [(LT 32),LF]),LO 8 (.new [(.slice none 0 0),(.slice none 0 0),(.slice none 0 0)]),LN (.store 3 (LT 8) (LT 33))] (LS [LO 34 (LK 3),LO 35 (.call 46 [(LT 34),LF]),LO 9 (.new [(.slice none 0 0),(.slice none 0 0),(.slice none 0 0)]),LN (.store 3 (LT 9) (LT 35))] (LS [LO 37 (LK 8),LO 38 (LK 9),LO 39 (.call 56 [(LT 37),(LT 38)]),LM 36 39,LO 40 (LX 36 0),LO 41 (LX 36 1),LM 10 40,LM 11 41] (.seq (LS [LM 42 10,LM 43 6,LO 44 (.bin .neq (LT 42) (LT 43)),LM 45 44,LZ 45 46 (.mv (LT 11)),LZ 45 47 (.mv (LT 7)),LZ 45 48 (.eqb true (LT 46) (LT 47)),LO 49 (.pick (LT 45) LG (LT 48))] (.cond (LT 49) (LS [LO 4 (.mv LF)] .ret) .skip)) (.seq (LS [LO 50 (LK 8),LO 51 (LK 2),LQ 52 (.call 46 [(LT 51),LF]),LQ 53 (.call 48 [(LT 50),(LT 52)]),LO 54 (.un .not (LT 53))] (.cond (LT 54) (LS [LO 4 (.mv LF)] .ret) .skip)) (.seq (LS [LO 55 (LK 9),LO 56 (LK 3),LQ 57 (.call 46 [(LT 56),LF]),LQ 58 (.call 48 [(LT 55),(LT 57)]),LO 59 (.un .not (LT 58))] (.cond (LT 59) (LS [LO 4 (.mv LF)] .ret) .skip)) (LS [LO 61 (LK 2),LQ 62 (.call 46 [(LT 61),LG]),LO 63 (LK 3),LQ 64 (.call 46 [(LT 63),LG]),LQ 65 (.call 56 [(LT 62),(LT 64)]),LM 60 65,LO 66 (LX 60 0),LO 67 (LX 60 1),LM 12 66,LM 13 67] (.seq (LS [LM 68 12,LM 69 6,LO 70 (.bin .neq (LT 68) (LT 69)),LM 71 70,LZ 71 72 (.mv (LT 13)),LZ 71 73 (.mv (LT 7)),LZ 71 74 (.eqb true (LT 72) (LT 73)),LO 75 (.pick (LT 71) LG (LT 74))] (.cond (LT 75) (LS [LO 4 (.mv LF)] .ret) .skip)) (LS [LO 4 (.mv LG)] .ret))))))))))))))))
def jW:aZ:=⟨76,[(.tmp 4)],iU⟩
theorem BX:gH 14=some jW:=by kernel_rfl
end Go.PM
namespace Go.PM
theorem Tk {f lo:Nat} {args mD:List VV} {r:VV} {H:aA} {K:VV→aA→Prop} (h:TC f mD r) (En:G5.contains f=false) (Z7:aO mD=true) (hf:args.mapM (fz depth H)=some mD) (hr:Jb r=true) (hk:K r H):dP f args lo H K:=by
 rw[h.flat En Z7 hf hr]
 exact hk
theorem I0 (l:List UInt8):dO .neq (.string ⟨l.toArray⟩) (.string ⟨l.toArray⟩)=some (.bool false):=by rw[SJ];simp
theorem UY (b:Bool):NZ true (Value.bool b) (Value.bool b)=some (.bool false):=by cases b<;>rfl
end Go.PM
namespace Go.PM
set_option maxHeartbeats 2000000 in
theorem B0 (s0:rV) (s1:rV) (Rc:ahP s0) (hx1:ahP s1):TC 14 [tX s0,tX s1] (.sc (.bool true)):=by
 refine TC.walk ⟨true,false⟩ BX rfl (aM2 rfl) (CE (jN _) (jN _)) rfl ?_
 have YO:=Dk s0 (1000000) Rc (by omega)
 change TC _ _ (VI (Fe s0 (1000000))) at YO
 by_cases ayA:Fe s0 (1000000)<0
 ·rw[Z3 ayA] at YO
  simp only[jW,iU,kH,gD,YO,Int.reduceNeg,Int.reduceLT,VX,Nat.reduceEqDiff,Nat.reduceAdd]
  exact aK rfl
 have aCm:=aaT (s:=s0) (l:=1000000) (by omega) (by omega)
 have aJM:=aCm.1
 have atX:=Dk s1 (Fe s0 (1000000)) hx1 (by omega)
 change TC _ _ (VI (Fe s1 (Fe s0 (1000000)))) at atX
 by_cases aCu:Fe s1 (Fe s0 (1000000))<0
 ·rw[Z3 aCu] at atX
  simp only[jW,iU,kH,gD,YO,ayA,atX,Int.reduceNeg,Int.reduceLT,VX,Nat.reduceEqDiff,Nat.reduceAdd]
  exact aK rfl
 have aCG:=aaT (s:=s1) (l:=Fe s0 (1000000)) (by omega) (by omega)
 have aJt:=aCG.1
 have QB:LR s0:=aCm.2
 have hg0:=QB.g9
 have hi0:=QB.g4
 have hp0:=QB.b4
 have Ko:=QB.e4
 have Dh:LR s1:=aCG.2
 have Xm:=Dh.g9
 have hi1:=Dh.g4
 have Xj:=Dh.b4
 have Ns:=Dh.e4
 simp only[jW,iU,kH,gD,YO,ayA,atX,aCu,VX,Nat.reduceEqDiff,Nat.reduceAdd]
 have cs:TC _ [tX s0,tX s1] (fcV s0 s1):=Ib s0 s1 QB Dh
 have ci:TC _ [tX s0,tX s1] (fcV s0 s1):=IP s0 s1 QB Dh
 obtain⟨s,k,hsk⟩:=asC s0 s1
 rw[hsk] at cs ci
 have pa:aO [tX s0,tX s1]=true:=CE (jN _) (jN _)
 refine MC (by have:=hp0;omega) hg0 (by have:=Ko;omega) fun r1 H1 p1 s1' => ?_
 simp only[kH,gD,VX,Nat.reduceEqDiff,Nat.reduceAdd]
 refine MC (by have:=Xj;omega) Xm (by have:=Ns;omega) fun r2 H2 p2 s2' => ?_
 simp only[kH,gD,VX,Nat.reduceEqDiff,Nat.reduceAdd]
 refine Tk cs rfl pa (fz2 (s1'.pre p2).fz (s2'.pre (aOO _)).fz) rfl ?_
 simp only[kH,gD,VX,Nat.reduceEqDiff,Nat.reduceAdd]
 refine MC (by have:=hp0;omega) hg0 (by have:=Ko;omega) fun r3 H3 p3 s3' => ?_
 have w3:=aBL (lo:=0) s3' (aLI _)
 simp only[kH,gD,w3,pA,VX,Nat.reduceEqDiff,Nat.reduceAdd]
 have p4:=aM9 H3 [.row 0 [r3] 3 true]
 have q3:aJ (H3++[.row 0 [r3] 3 true]) H3.length 0=some ([r3],3,true):=iO
 generalize eh4:H3++[.row 0 [r3] 3 true]=H4 at *
 refine MC (by have:=Xj;omega) Xm (by have:=Ns;omega) fun r5 H5 p5 s5' => ?_
 have w5:=aBL (lo:=0) s5' (aLI _)
 simp only[kH,gD,w5,pA,VX,Nat.reduceEqDiff,Nat.reduceAdd]
 have p6:=aM9 H5 [.row 0 [r5] 3 true]
 have q5:aJ (H5++[.row 0 [r5] 3 true]) H5.length 0=some ([r5],3,true):=iO
 generalize eh6:H5++[.row 0 [r5] 3 true]=H6 at *
 simp only[kH,gD,ZE s3' (cE (p5.trans p6) q3),ZE s5' (cE (aOO _) q5),VX,Nat.reduceEqDiff,Nat.reduceAdd]
 refine Tk ci rfl pa (fz2 (s3'.pre ((p4.trans p5).trans p6)).fz (s5'.pre p6).fz) rfl ?_
 simp only[kH,gD,I0,UY,ZE s3' (cE (p5.trans p6) q3),ZE s5' (cE (aOO _) q5),VX,Nat.reduceEqDiff,Nat.reduceAdd]
 refine MC (by have:=hp0;omega) hg0 (by have:=Ko;omega) fun r7 H7 p7 s7' => ?_
 simp only[kH,gD,ZE s3' (cE ((p5.trans p6).trans p7) q3),ZE s5' (cE p7 q5),VX,Nat.reduceEqDiff,Nat.reduceAdd]
 refine zV s0 hp0 hi0 Ko (s3'.pre (((p4.trans p5).trans p6).trans p7)) s7' ?_
 simp only[kH,gD,ZE s3' (cE ((p5.trans p6).trans p7) q3),ZE s5' (cE p7 q5),VX,Nat.reduceEqDiff,Nat.reduceAdd]
 refine MC (by have:=Xj;omega) Xm (by have:=Ns;omega) fun r8 H8 p8 s8' => ?_
 simp only[kH,gD,ZE s3' (cE (((p5.trans p6).trans p7).trans p8) q3),ZE s5' (cE (p7.trans p8) q5),VX,Nat.reduceEqDiff,Nat.reduceAdd]
 refine zV s1 Xj hi1 Ns (s5'.pre ((p6.trans p7).trans p8)) s8' ?_
 simp only[kH,gD,ZE s3' (cE (((p5.trans p6).trans p7).trans p8) q3),ZE s5' (cE (p7.trans p8) q5),VX,Nat.reduceEqDiff,Nat.reduceAdd]
 refine MC (by have:=hp0;omega) hg0 (by have:=Ko;omega) fun r9 H9 p9 s9' => ?_
 simp only[kH,gD,VX,Nat.reduceEqDiff,Nat.reduceAdd]
 refine MC (by have:=Xj;omega) Xm (by have:=Ns;omega) fun r10 H10 p10 aFF => ?_
 simp only[kH,gD,VX,Nat.reduceEqDiff,Nat.reduceAdd]
 refine Tk ci rfl pa (fz2 (s9'.pre p10).fz (aFF.pre (aOO _)).fz) rfl ?_
 simp only[kH,gD,I0,UY,VX,Nat.reduceEqDiff,Nat.reduceAdd]
 exact aK rfl
end Go.PM
namespace Go.PM
open Go.Proofs
theorem HF {P:Program} {w:World} {name:String} {d:DataW Unit}:∀ {l:List (String×DataW Unit)} {ps:List MemPlace},DataW.LaidVars P w l ps→(name,d)∈l →
  ∃g t cs fuel p,P.globalNamed name=some g∧(P.globals[g]?).map (·.type)=some t∧w.var? P name=some cs∧DataW.trod (fun _=>()) P w 0 (fun _=>true) false fuel t cs.toList=some (d,p)
 | [],_,_,hm=>by cases hm
 |
  (n,e)::r,ps,h,hm=>by
  obtain⟨g,t,cs,fuel,p,q,h1,h2,h3,h4,h5,_⟩:=h
  rcases List.mem_cons.1 hm with he | hm
  ·cases he
   exact⟨g,t,cs,fuel,p,h1,h2,h3,h4⟩
  ·exact HF h5 hm
theorem N4 {W:World} {l:List (String×DataW Unit)} (hl:laidMetH Tryz.prog l W) (hp:(l.all fun x=>x.2.handleName?.isNone)=true) (hm:("internal/strconv.uint64pow10",Lib.tabData .u64 Lib.pow10Tab)∈l)
  {t e:TypeId} {n:Nat} (hty:(Tryz.prog.globals[3]?).map (·.type)=some t) (ht:Tryz.prog.underlying t=some (.array n e)) (he:Tryz.prog.underlying e=some (.int .u64)) (hce:Tryz.prog.cellsOf e=1) (hct:Tryz.prog.cellsOf t=n):Sp W:=by
 rw[MakeChecks.laidMetH_plain _ _ _ hp] at hl
 obtain⟨ps,h1,_⟩:=hl
 obtain⟨g',t',cs,fuel,p,hg',ht',alU,hd⟩:=HF h1 hm
 have hg:Tryz.prog.globalNamed "internal/strconv.uint64pow10"=some 3:=by kernel_rfl
 obtain rfl:=Option.some.inj (hg.symm.trans hg')
 obtain rfl:=Option.some.inj (hty.symm.trans ht')
 have OQ:=Lib.cells_of_tab ht he hce hct hd
 intro x hx
 have FH:x=(3,(Lib.pow10Tab.map fun z=>Value.int .u64 z).toArray):=by simpa[atI] using hx
 subst FH
 unfold World.var? at alU
 rw[hg,Option.bind_some] at alU
 split at alU
 ·rename_i CC e' fz' hh
  cases alU
  refine⟨e',fz',?_⟩
  rw[←OQ]
  simpa using hh
 ·cases alU
end Go.PM