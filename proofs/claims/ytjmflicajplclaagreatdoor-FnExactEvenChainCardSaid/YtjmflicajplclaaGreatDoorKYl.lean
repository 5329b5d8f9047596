/- Texts of a claim, in one: part 12. -/
import Derived.KernelRfl
import Derived.Test.YtjmflicajplclaaGreatDoorKYk
set_option linter.unusedSimpArgs false
set_option linter.unusedVariables false
namespace Go.PM
open Go.Lib
def JP {α:Type} (f:α→VV) (e:Nat) (bK:List α) (lo hi:Nat) (H:aA) (v:VV):Prop :=
 ∃b g c,lo≤b∧b<hi∧v = .ref b g 0 bK.length c∧bK.length≤c∧aF H b g=some (bK.map f,e,true)
def TabIs {α:Type} (f:α→VV) (e:Nat) (m:List (List α)) (lo hi:Nat) (H:aA) (v:VV):Prop :=
 ∃b g c rs,v = .ref b g 0 m.length c∧m.length≤c∧MG f e lo hi b g H rs∧rs.map (·.xs)=m
theorem Ul {α:Type} {f:α→VV} {lo b k e bytes:Nat} {H:aA} {xs:List α} {x:α} (h:aF H b k=some (xs.map f,e,true)) (hk:k=xs.length) (dP:lo≤b) (he:1≤e) (hb:1≤bytes) (Dj:(k+1)*bytes≤140737488355328) :
 dW lo e bytes (.ref b k 0 k k) [f x] H=some (.ref b (k+1) 0 (k+1) (k+1),H.set b (.row (k+1) ((xs++[x]).map f) e true)):=gS h hk dP he hb Dj
theorem JP.rd {α:Type} {f:α→VV} {e lo hi:Nat} {bK:List α} {H:aA} {v:VV} (h:JP f e bK lo hi H v):Rd f e bK H v:=by
 obtain⟨b,g,c,h1,h2,rfl,h3,h4⟩:=h
 exact Rd.row h4 rfl
theorem Fa {lo:Nat} {H:aA} (q:Rat) (N:Nat) (hN:N≤1000000) (dP:lo≤H.length) :
  jC 162 [.tree [aO q] (.cl 3),VI N] lo H fun r H'=>r = .ref H.length 0 0 N N∧H'=H++[.row 0 ((List.replicate N q).map aO) 3 true]:=by
 refine jC.walk ⟨true,false⟩ qI (Nat.le_of_ble_eq_true rfl) ?_
 have eM:=G9 N (by omega)
 have c1:IntKind.u64.wrap ((1:Nat):Int)=1:=eE 1 (by decide)
 have c2:IntKind.u64.wrap (N:Int)=(N:Int):=eE N (by omega)
 have c3:IntKind.i64.wrap (N:Int)=(N:Int):=wrap64 (by omega) (by omega)
 have g1:¬(N:Int)<0:=by omega
 have g2:¬(0:Int)<0:=by decide
 have g3:¬(9223372036854775807:Int)<(N:Int):=by omega
 have em:=fun H=>sD (H:=H) (f:=id) (x:=rz) (z:=[.bool false,.slice none 0 0,.slice none 0 0]) (bytes:=56) (n:=N) rfl (by omega) (by omega)
 have s1:cW 3 (.tree [aO q] (.cl 3)) (H++[.row 0 ((List.replicate N rz).map id) 3 true])=some ([aO q].map id):=dZ (v:=aO q) rfl rfl
 have r1:aF (H++[.row 0 ((List.replicate N rz).map id) 3 true]) H.length 0=some ((List.replicate N rz).map id,3,true):=by rw[xI,aQ]
 have s2:=P6 (f:=id) (Y:=[aO q]) (lo:=lo) (o:=0) (d:=N) (cc:=N) (y := .tree [aO q] (.cl 3)) r1 s1 dP (by simp;omega)
 rw[Nd] at s2
 simp only[kC,jE,eM,c1,c2,c3,g1,g2,g3,em,s2,gB,VX,Nat.reduceEqDiff,Nat.reduceAdd,Nat.reduceLeDiff,Nat.reduceLT,Nat.reduceSub]
 refine aU (fun(i:Nat) ρ H1=>i≤N∧(i=0→N=0)∧H1=H++[.row 0 ((List.replicate i (aO q)++List.replicate (N-i) rz).map id) 3 true]∧ρ 7 = .ref H.length 0 0 N N∧ρ 8=VI i) (fun i=>N-i) (min 1 N) ?_ ?_
 refine⟨by omega,by omega,?_,rfl,?_⟩
 ·congr 2
  cases N with
  | zero=>rfl
  |
   succ N =>
   have:min 1 (N+1)=1:=by omega
   rw[this]
   simp[List.replicate_succ]
 ·cases N with
  | zero=>rfl
  |
   succ N =>
   have:min 1 (N+1)=1:=by omega
   simp only[this,gB,VX,Nat.reduceEqDiff,Nat.reduceAdd,Nat.reduceLeDiff,Nat.reduceLT,Nat.reduceSub]
   try simp
 rintro i ρ H1 ⟨hi,h0,rfl,h7,h8⟩
 have hr:aF (H++[.row 0 ((List.replicate i (aO q)++List.replicate (N-i) rz).map id) 3 true]) H.length 0=some ((List.replicate i (aO q)++List.replicate (N-i) rz).map id,3,true):=by rw[xI,aQ]
 have el:=dX (o:=0) (n:=N) (c:=N) hr
 by_cases cS:(i:Int)<(N:Int)
 ·have hXl:(List.replicate i (aO q)++List.replicate (N-i) rz).length=N:=by simp;omega
  have wF:∀X:List VV,X=List.replicate i (aO q)++List.replicate (N-i) rz→(((X.map id).drop 0).take i).all (fun x=>(aB x).all bY)=true:=by
   rintro X rfl
   rw[List.map_id,List.drop_zero,List.take_append_of_le_length (by simp),List.take_of_length_le (by simp),List.all_eq_true]
   intro x hx
   rw[List.eq_of_mem_replicate hx]
   rfl
  have q1:=Oo (o:=0) (n:=N) (c:=N) (l:=i) (k1 := .i64) hr hi (Nat.le_refl _)
  have q2:=wD (o:=0) (n:=N) (c:=N) (h:=i) (k2 := .i64) hr hi
  have hY:((List.replicate i (aO q)++List.replicate (N-i) rz).drop 0).take i=List.replicate i (aO q):=by
   rw[List.drop_zero,List.take_append_of_le_length (by simp),List.take_of_length_le (by simp)]
  have q3:cW 3 (.ref H.length 0 0 i N) (H++[.row 0 ((List.replicate i (aO q)++List.replicate (N-i) rz).map id) 3 true])=some ((List.replicate i (aO q)).map id):=by
   have hs:=wF _ rfl
   simp only[cW,hr]
   rw[if_pos ⟨trivial,by rw[List.length_map,hXl];omega,hs⟩,List.map_id,List.map_id,hY]
  have hYd:(List.replicate i (aO q)).take (N-i)=List.replicate (min (N-i) i) (aO q):=List.take_replicate
  have q4:=P6 (f:=id) (lo:=lo) (o:=i) (d:=N-i) (cc:=N-i) hr q3 dP (by rw[hYd,hXl];simp;omega)
  rw[Nd,hYd,List.length_replicate,List.take_append_of_le_length (by simp),List.take_of_length_le (by simp)] at q4
  have hX':List.replicate i (aO q)++List.replicate (min (N-i) i) (aO q)++(List.replicate i (aO q)++List.replicate (N-i) rz).drop (i+min (N-i) i)=List.replicate (i+min (N-i) i) (aO q)++List.replicate (N-(i+min (N-i) i)) rz:=by
   rw[List.replicate_append_replicate,List.drop_append,List.drop_of_length_le (by simp),List.nil_append,List.length_replicate,List.drop_replicate]
   congr 2
   omega
  rw[hX'] at q4
  have wi:IntKind.i64.wrap ((i:Int)+((min (N-i) i:Nat):Int))=((i+min (N-i) i:Nat):Int):=wrapN _ (by omega) (by omega)
  simp only[eW,h7,h8,el,cS,q1,q2,q3,q4,wi,gB,VX,Nat.reduceEqDiff,Nat.reduceAdd,Nat.reduceLeDiff,Nat.reduceLT,Nat.reduceSub]
  exact⟨i+min (N-i) i,by omega,by omega,by omega,by (repeat' apply And.intro)<;>first | rfl | trivial | assumption⟩
 ·have mT:i=N:=by omega
  subst mT
  simp only[eW,h7,h8,el,cS,gB,VX,Nat.reduceEqDiff,Nat.reduceAdd,Nat.reduceLeDiff,Nat.reduceLT,Nat.reduceSub]
  rw[Nat.sub_self,List.replicate_zero,List.append_nil,List.map_id,List.map_replicate]
theorem UA (a n:Nat):((List.range n).map fun k=>a+k).Nodup:=List.pairwise_map.2 (List.nodup_range.imp fun h=>by omega)
theorem Rk {lo:Nat} {H:aA} (N:Nat) (hN:N≤1000) (dP:lo≤H.length) :
  jC 99 [VI N] lo H (L5 (TabIs aO 3 (List.replicate N (List.replicate N (0:Rat)))) H):=by
 refine jC.walk ⟨true,false⟩ QP (Nat.le_of_ble_eq_true rfl) ?_
 have em:=fun H=>sD (H:=H) (f:=id) (x := .tree [] .nil) (z:=[.slice none 0 0]) (bytes:=24) (n:=N) rfl (by omega) (by omega)
 have el0:=dX (H:=H++[.row 0 ((List.replicate N (VV.tree [] .nil)).map id) 1 true]) (b:=H.length) (g:=0) (o:=0) (n:=N) (c:=N) fW
 simp only[Ni,Hu,em,el0,List.length_cons,List.length_nil,Nat.zero_add,gB,VX,Nat.reduceEqDiff,Nat.reduceAdd,Nat.reduceLeDiff,Nat.reduceLT,Nat.reduceSub]
 refine aU (fun(i:Nat) ρ H1=>i≤N∧H1=H ++ .row 0 (((List.range i).map fun k=>VV.ref (H.length+1+k) 0 0 N N)++List.replicate (N-i) (VV.tree [] TK.nil)) 1 true::List.replicate i (.row 0 ((List.replicate N (0:Rat)).map aO) 3 true)∧ρ 0=VI N∧ρ 3 = .ref H.length 0 0 N N∧ρ 8=VI N∧ρ 9=VI i) (fun i=>N-i) 0 ⟨Nat.zero_le _,by simp,rfl,rfl,rfl,rfl⟩ ?_
 rintro i ρ H1 ⟨hi,rfl,g0,g3,g8,g9⟩
 have e1:TC 64 [VI 0] (aO 0):=sO 0 (by decide) (by decide)
 have eL:∀H,lG false [.bool false,.slice none 0 0,.slice none 0 0] 1 [(0,aO 0)] H=some (.tree [aO 0] (.cl 3),H):=fun H=>gW rfl rfl rfl
 by_cases cS:(i:Int)<(N:Int)
 ·have wi:IntKind.i64.wrap ((i:Int)+1)=((i+1:Nat):Int):=wrapN (i+1) (by omega) (by omega)
  simp only[AS,g0,g3,g8,g9,cS,e1,eL,gB,VX,Nat.reduceEqDiff,Nat.reduceAdd,Nat.reduceLeDiff,Nat.reduceLT,Nat.reduceSub]
  refine fG rfl ((Fa 0 N (by omega) (by rw[List.length_append];omega)).mono ?_)
  rintro r H' ⟨rfl,rfl⟩
  have hl:(H++bT.row 0 (((List.range i).map fun k=>VV.ref (H.length+1+k) 0 0 N N)++List.replicate (N-i) (VV.tree [] TK.nil)) 1 true::List.replicate i (.row 0 ((List.replicate N (0:Rat)).map aO) 3 true)).length=H.length+1+i:=by simp;omega
  rw[hl,List.append_assoc,List.cons_append]
  have hr:aF (H++bT.row 0 (((List.range i).map fun k=>VV.ref (H.length+1+k) 0 0 N N)++List.replicate (N-i) (VV.tree [] TK.nil)) 1 true::(List.replicate i (.row 0 ((List.replicate N (0:Rat)).map aO) 3 true)++[.row 0 ((List.replicate N (0:Rat)).map aO) 3 true])) H.length 0=some ((((List.range i).map fun k=>VV.ref (H.length+1+k) 0 0 N N)++List.replicate (N-i) (VV.tree [] TK.nil)),1,true):=by rw[xI,aQ]
  have a1:=bD (o:=0) (n:=N) (c:=N) (i:=i) (k := .i64) hr (by omega)
  have a2:=bO (lo:=lo) (v := .ref (H.length+1+i) 0 0 N N) (j:=i) hr (by simp;omega) dP rfl rfl
  rw[Nd,List.set_cons_zero] at a2
  have hs:(((List.range i).map fun k=>VV.ref (H.length+1+k) 0 0 N N)++List.replicate (N-i) (VV.tree [] TK.nil)).set i (.ref (H.length+1+i) 0 0 N N)=((List.range (i+1)).map fun k=>VV.ref (H.length+1+k) 0 0 N N)++List.replicate (N-(i+1)) (VV.tree [] TK.nil):=by
   obtain⟨m,hm⟩:∃m,N-i=m+1:=⟨N-i-1,by omega⟩
   have hm':N-(i+1)=m:=by omega
   rw[List.set_append_right _ _ (by simp),hm,hm',List.length_map,List.length_range,Nat.sub_self,List.replicate_succ,List.set_cons_zero,List.range_succ,List.map_append,List.append_assoc]
   rfl
  rw[hs] at a2
  rw[Nat.zero_add] at a1
  simp only[a1,a2,wi,g9,gB,VX,Nat.reduceEqDiff,Nat.reduceAdd,Nat.reduceLeDiff,Nat.reduceLT,Nat.reduceSub]
  exact⟨i+1,by omega,by omega,by rw[List.replicate_succ'],by (repeat' apply And.intro)<;>first | rfl | trivial | assumption⟩
 ·have mT:i=N:=by omega
  subst mT
  simp only[AS,g3,g8,g9,cS,gB,VX,Nat.reduceEqDiff,Nat.reduceAdd,Nat.reduceLeDiff,Nat.reduceLT,Nat.reduceSub]
  refine⟨List.prefix_append _ _,H.length,0,i,(List.range i).map fun k=>⟨H.length+1+k,0,i,List.replicate i 0⟩,by rw[List.length_replicate],by rw[List.length_replicate];exact Nat.le_refl _,⟨?_,Nat.le_refl _,by simp,?_,?_⟩,?_⟩
  ·rw[xI,aQ,Nat.sub_self,List.replicate_zero,List.append_nil,List.map_map]
   simp[nL,Function.comp_def]
  ·rw[List.map_map]
   exact UA (H.length+1) i
  ·intro r hr
   obtain⟨k,hk,rfl⟩:=List.mem_map.1 hr
   rw[List.mem_range] at hk
   refine⟨by simp only;omega,by simp;omega,by simp only;omega,by simp,?_⟩
   have:H.length+1+k=H.length+(k+1):=by omega
   simp only[this]
   rw[Le,iY,cK,List.getElem?_replicate,if_pos hk]
  ·rw[List.map_map]
   apply List.ext_getElem?
   intro k
   rw[List.getElem?_map,List.getElem?_replicate]
   by_cases hk:k<i
   ·simp[hk,List.getElem?_range]
   ·simp[hk]
theorem Ob {lo:Nat} {H:aA} {v:VV} (qs:List Rat) (d:Rat) (hd:d≠0) (hv:Rd aO 3 qs H v) (dP:lo≤H.length) (hn:qs.length≤1000000) (hb:∀q∈qs,bP q≤1099511627776) (hdk:bP d≤1099511627776) :
  jC 149 [v,aO d] lo H (L5 (JP aO 3 (qs.map (· / d))) H):=by
 refine jC.walk ⟨true,false⟩ Oe (Nat.le_of_ble_eq_true rfl) ?_
 have e0:∀K,lG false [.bool false,.slice none 0 0,.slice none 0 0] 0 [] K=some (.ref K.length 0 0 0 0,K++[.row 0 [] 3 true]):=fun K=>jH rfl
 have e1:=hv.len _ (List.prefix_append H [.row 0 [] 3 true])
 simp only[Jx,FD,e0,e1,aI,dC,dQ,bB,aZ,aS,gB,VX,Nat.reduceEqDiff,Nat.reduceAdd,Nat.reduceLeDiff,Nat.reduceLT,Nat.reduceSub]
 refine aU (fun(i:Nat) ρ H1=>i≤qs.length∧H <+: H1∧aF H1 H.length i=some (((qs.take i).map (· / d)).map aO,3,true)∧ρ 3 = .cT (aO d) 0∧ρ 5 = .ref H.length i 0 i i∧ρ 9=v∧ρ 10=VI qs.length∧ρ 11=VI i) (fun i=>qs.length-i) 0 ⟨Nat.zero_le _,List.prefix_append _ _,by rw[xI,aQ];rfl,rfl,rfl,rfl,rfl,rfl⟩ ?_
 rintro i ρ H1 ⟨hi,hp,nD,g3,g5,g9,g10,g11⟩
 have xR:=fE nD
 by_cases cS:(i:Int)<(qs.length:Int)
 ·obtain⟨q,hq⟩:∃q,qs[i]? = some q:=⟨_,List.getElem?_eq_getElem (by omega)⟩
  obtain⟨p,a1,a2⟩:=hv.get H1 hp i q hq
  have a2':=(a2 true).trans (dQ _)
  have wi:IntKind.i64.wrap ((i:Int)+1)=((i+1:Nat):Int):=wrapN (i+1) (by omega) (by omega)
  have e3:=KD q d hd (hb q (List.mem_of_getElem? hq)) hdk
  have eL:∀H,lG false [.bool false,.slice none 0 0,.slice none 0 0] 1 [(0,aO (q / d))] H=some (.tree [aO (q / d)] (.cl 3),H):=fun H=>gW rfl rfl rfl
  have eS:∀H,cW 3 (.tree [aO (q / d)] (.cl 3)) H=some [aO (q / d)]:=fun H=>dZ rfl rfl
  have eP:dW lo 3 56 (.ref H.length i 0 i i) [aO (q / d)] (H1++[bT.row 0 [aO q] 3 true])=some (.ref H.length (i+1) 0 (i+1) (i+1),(H1++[bT.row 0 [aO q] 3 true]).set H.length (.row (i+1) (((qs.take (i+1)).map (· / d)).map aO) 3 true)):=by
   rw[gS (f:=aO) (xs:=(qs.take i).map (· / d)) (bN nD) (by simp;omega) dP (by decide) (by decide) (by omega),iD hq]
   simp only[List.map_append]
   rfl
  have s1:=Bn (lo:=lo) (H:=H1) (q:=q) (by omega)
  have s2:=Lg (H:=H1) (K:=[]) (q:=q)
  simp only[Ae,g3,g5,g9,g10,g11,cS,a1,a2',e3,eL,eS,eP,s1,s2,wi,dQ,gB,VX,Nat.reduceEqDiff,Nat.reduceAdd,Nat.reduceLeDiff,Nat.reduceLT,Nat.reduceSub]
  exact⟨i+1,by omega,by omega,vW (qW hp) (Nat.le_refl _),cJ (bN nD),by (repeat' apply And.intro)<;>first | rfl | trivial | assumption⟩
 ·have mT:i=qs.length:=by omega
  subst mT
  rw[List.take_length] at nD
  simp only[Ae,g5,g10,g11,cS,gB,VX,Nat.reduceEqDiff,Nat.reduceAdd,Nat.reduceLeDiff,Nat.reduceLT,Nat.reduceSub]
  exact⟨hp,H.length,qs.length,qs.length,Nat.le_refl _,xR,by rw[List.length_map],by rw[List.length_map];exact Nat.le_refl _,nD⟩
end Go.PM
namespace Go.PM
structure asR (s:K3):Prop where
 b4:s.b.length≤400000000
 e4:s.e.length≤400000000
 g4:s.g.length≤400000000∧∀x∈s.g,x.length≤400000000
 bs:∀x∈s.b,x.size≤1000000000
 es:∀x∈s.e,x.size≤1000000000
 gs:∀x∈s.g,∀y∈x,y.size≤1000000000
theorem asR.g9 {s:K3} (h:asR s):s.g.length≤1000000000∧∀x∈s.g,x.length≤1000000000:=⟨by have:=h.g4.1;omega,fun x hx=>by have:=h.g4.2 x hx;omega⟩
end Go.PM
namespace Go.PM
def rV {β:Type} (k:Int):List (List β)→List (List ByteArray)
 | []=>[]
 | x::xs=>lK k x.length::rV (k+x.length) xs
def dE {β:Type} (xs:List (List β)):Nat:=(xs.map List.length).sum
section
variable {β:Type}
theorem NC (xs:List (List β)) (k:Int):(rV k xs).length=xs.length:=by
 induction xs generalizing k with
 | nil=>rfl
 | cons x xs ih=>simp[rV,ih]
theorem JV {xs:List (List β)} {i:Nat} {x:List β} (h:xs[i]? = some x):dE (xs.take (i+1))=dE (xs.take i)+x.length:=by
 rw[List.take_add_one,h]
 simp[dE]
theorem Gv {xs:List (List β)} {i:Nat} {x:List β} {k:Int} (h:xs[i]? = some x):(rV k xs)[i]? = some (lK (k+dE (xs.take i)) x.length):=by
 induction xs generalizing i k with
 | nil=>cases h
 |
  cons y ys ih =>
  cases i with
  | zero=>injection h with h;subst h;simp[rV,dE]
  |
   succ i =>
   simp only[rV,List.getElem?_cons_succ] at h ⊢
   rw[ih h]
   simp only[List.take_succ_cons,dE,List.map_cons,List.sum_cons,Int.natCast_add]
   rw[Int.add_assoc]
theorem OS {xs:List (List β)} (i:Nat):dE (xs.take i)≤dE xs:=by
 induction xs generalizing i with
 | nil=>simp[dE]
 |
  cons x xs ih =>
  cases i with
  | zero=>simp[dE]
  |
   succ i =>
   have:=ih i
   simp only[List.take_succ_cons,dE,List.map_cons,List.sum_cons] at this ⊢
   omega
end
theorem Fc (k:Int) (xs:List (List ByteArray)) (hk:0≤k∧k≤10000000) (hn:xs.length≤10000000) (ht:dE xs≤10000000):TC 74 [sW (rV k xs),VI k] (VI (k+dE xs)):=by
 refine TC.walk ⟨true,false⟩ Fk rfl (Nat.le_of_ble_eq_true rfl) (rO (B7 _) rfl) rfl ?_
 simp only[An,wS,VX,Nat.reduceEqDiff,Nat.reduceAdd]
 refine aU (fun(i:Nat) ρ H=>i≤xs.length∧H=[]∧ρ 0=sW (rV k xs)∧ρ 1=VI (k+dE (xs.take i))∧ρ 5=VI i) (fun i=>xs.length-i) 0 ⟨Nat.zero_le _,rfl,rfl,by simp only[VX,Nat.reduceEqDiff,Nat.reduceAdd];simp[dE],rfl⟩ ?_
 rintro i ρ H ⟨hi,rfl,h0,h1,h5⟩
 have hlen:=NC xs k
 by_cases cS:(i:Int)<(xs.length:Int)
 ·obtain⟨x,hx⟩:∃x,xs[i]? = some x:=⟨_,List.getElem?_eq_getElem (by omega)⟩
  have e1:=aJ (f:=fH) (t := .op) (H:=[]) (size:=1) (k := .i64) (Gv (k:=k) hx) rfl
  have l1:=JV hx
  have l2:=OS (xs:=xs) (i+1)
  have e3:=F5 (k+dE (xs.take i)) x.length (by omega) (by omega)
  have mX:¬(k+(dE (xs.take i):Int)+(x.length:Int))<0:=by omega
  have wi:IntKind.i64.wrap ((i:Int)+1)=((i+1:Nat):Int):=wrapN (i+1) (by omega) (by omega)
  simp only[oT,h0,h1,h5,cS,e1,e3,wi,hlen,mX,eq_self,VX,Nat.reduceEqDiff,Nat.reduceAdd]
  refine⟨i+1,by omega,by omega,?_⟩
  rw[l1,Int.natCast_add,←Int.add_assoc]
  (repeat' apply And.intro)<;>first | rfl | trivial
 ·have mT:i=xs.length:=by omega
  subst mT
  simp only[oT,h0,h1,h5,cS,hlen,VX,Nat.reduceEqDiff,Nat.reduceAdd]
  rw[List.take_of_length_le (Nat.le_refl _)]
  exact aL rfl
theorem Fe {lo b g c:Nat} {H:aA} (rs:List (xO ByteArray)) (k:Int) (hr:aF H b g=some (rs.map nL,1,true)) (hR:OY sV 1 lo H.length b H rs) (dP:lo≤b) (hk:0≤k∧k≤10000000) (hn:rs.length≤10000000) (ht:dE (rs.map (·.xs))≤10000000) :
  jC 21 [.ref b g 0 rs.length c,VI k] lo H fun r H'=>r=VI (k+dE (rs.map (·.xs)))∧H'.length=H.length∧(∀b' g' x,(∀r∈rs,r.b≠b')→aF H b' g'=some x→aF H' b' g'=some x) ∧
   ∀i r,rs[i]? = some r→aF H' r.b r.g=some ((lK (k+dE ((rs.map (·.xs)).take i)) r.xs.length).map sV,1,true):=by
 refine jC.walk ⟨true,false⟩ xB (Nat.le_of_ble_eq_true rfl) ?_
 simp only[sS,qO,VX,Nat.reduceEqDiff,Nat.reduceAdd]
 refine aU (fun(i:Nat) ρ H1=>i≤rs.length∧H1.length=H.length∧(∀b' g' x,(∀r∈rs,r.b≠b')→aF H b' g'=some x→aF H1 b' g'=some x) ∧
   (∀j r,rs[j]? = some r→aF H1 r.b r.g=some ((if j<i then lK (k+dE ((rs.map (·.xs)).take j)) r.xs.length else r.xs).map sV,1,true))∧ρ 0 = .ref b g 0 rs.length c∧ρ 1=VI (k+dE ((rs.map (·.xs)).take i))∧ρ 5=VI i) (fun i=>rs.length-i) 0
  ⟨Nat.zero_le _,rfl,fun _ _ _ _ h=>h,fun j r h=>by rw[if_neg (by omega)];exact(hR.row r (List.mem_of_getElem? h)).2.2.2.2,rfl,by simp only[VX,Nat.reduceEqDiff,Nat.reduceAdd];simp[dE],rfl⟩ ?_
 rintro i ρ H1 ⟨hi,hH1,hold,Fw,h0,h1,h5⟩
 have hR1:=hold b g _ (fun r hr=>(hR.row r hr).2.2.1) hr
 have el:=dX (o:=0) (n:=rs.length) (c:=c) hR1
 by_cases cS:(i:Int)<(rs.length:Int)
 ·obtain⟨r,Wm⟩:∃r,rs[i]? = some r:=⟨_,List.getElem?_eq_getElem (by omega)⟩
  have Hl:=hR.row r (List.mem_of_getElem? Wm)
  have hxi:(rs.map (·.xs))[i]? = some r.xs:=by simp[Wm]
  have l1:=JV hxi
  have l2:=OS (xs:=rs.map (·.xs)) (i+1)
  have e1:=bD (o:=0) (n:=rs.length) (c:=c) (i:=i) (k := .i64) hR1 (by omega)
  have e2:bX false 1 (.ptr b g i 0) H1=some (nL r):=by rw[pI (f:=nL) hR1 Wm];rfl
  have wi:IntKind.i64.wrap ((i:Int)+1)=((i+1:Nat):Int):=wrapN (i+1) (by omega) (by omega)
  simp only[lD,h0,h1,h5,cS,el,e1,e2,Nat.zero_add,VX,Nat.reduceEqDiff,Nat.reduceAdd]
  have nD:=Fw i r Wm
  rw[if_neg (by omega)] at nD
  refine fG rfl ((zR r.xs _ nD (Nat.le_refl _) Hl.1 (by omega) (by omega)).mono ?_)
  rintro v H2 ⟨rfl,rfl⟩
  simp only[h5,wi,VX,Nat.reduceEqDiff,Nat.reduceAdd]
  refine⟨i+1,by omega,by omega,by simpa using hH1,fun b' g' x vZ h=>bF (vZ r (List.mem_of_getElem? Wm)) (hold b' g' x vZ h),fun j r' hj => ?_,h0,?_,rfl⟩
  ·by_cases GI:j=i
   ·subst GI
    rw[Wm] at hj
    injection hj with hj
    subst hj
    rw[if_pos (by omega),cJ nD,List.drop_length,List.append_nil]
   ·have fK:r.b≠r'.b:=fun he=>GI (by
     have h1:(rs.map (·.b))[i]? = some r.b:=by simp[Wm]
     have h2:(rs.map (·.b))[j]? = some r.b:=by simp[hj,he]
     exact Ue hR.nd h2 h1)
    rw[bF fK (Fw j r' hj)]
    by_cases bH:j<i
    ·rw[if_pos bH,if_pos (by omega)]
    ·rw[if_neg bH,if_neg (by omega)]
  ·rw[l1,Int.natCast_add,←Int.add_assoc]
 ·have mT:i=rs.length:=by omega
  subst mT
  simp only[lD,h0,h1,h5,cS,el,VX,Nat.reduceEqDiff,Nat.reduceAdd]
  rw[List.take_of_length_le (by simp)]
  refine⟨rfl,hH1,hold,fun j r hj => ?_⟩
  have:=Fw j r hj
  rw[if_pos (List.getElem?_eq_some_iff.1 hj).1] at this
  exact this
theorem Dg {lo:Nat} {H:aA} (k:Int):jC 21 [.tree [] .nil,VI k] lo H fun r H'=>r=VI k∧H'=H:=by
 refine jC.walk ⟨true,false⟩ xB (Nat.le_of_ble_eq_true rfl) ?_
 simp only[sS,qO,VX,Nat.reduceEqDiff,Nat.reduceAdd]
 refine aU (fun(_:Unit) ρ H1=>H1=H∧ρ 0 = .tree [] .nil∧ρ 1=VI k∧ρ 5=VI 0) (fun _=>0) () ⟨rfl,rfl,rfl,rfl⟩ ?_
 rintro _ ρ H1 ⟨rfl,h0,h1,h5⟩
 simp only[lD,h0,h1,h5,List.length_nil,Int.natCast_zero,Int.lt_irrefl,Int.reduceLT,VX,Nat.reduceEqDiff,Nat.reduceAdd]
theorem aiW {lo hi kE:Nat} {bK:List (List ByteArray)} {H:aA} {v:VV} {k:Int} {K:VV→aA→Prop} (hv:RG sV 1 bK lo hi H v) (dP:kE≤lo) (hk:0≤k∧k≤10000000) (hn:bK.length≤10000000) (ht:dE bK≤10000000)
  (hK:∀H',H'.length=H.length→RG sV 1 (rV k bK) lo hi H' v→(∀b g x,b<lo∨hi≤b→aF H b g=some x→aF H' b g=some x)→K (VI (k+dE bK)) H') :
  cV 21 [v,VI k] kE H K:=by
 rcases hv with⟨rfl,rfl⟩ | ⟨b,g,c,rs,h1,h2,rfl,h4,h5,rfl,h7⟩
 ·refine fG rfl ((Dg k).mono ?_)
  rintro r H' ⟨rfl,rfl⟩
  have:=hK H' rfl (.inl ⟨rfl,rfl⟩) fun _ _ _ _ h=>h
  simpa[dE] using this
 ·have h7':OY sV 1 kE H.length b H rs:=⟨h7.nd,fun r hr=>⟨Nat.le_trans dP (h7.row r hr).1,fE (h7.row r hr).2.2.2.2,(h7.row r hr).2.2⟩⟩
  rw[List.length_map] at h4 hn ⊢
  refine fG rfl ((Fe (lo:=kE) (c:=c) rs k h5 h7' (Nat.le_trans dP h1) hk hn ht).mono ?_)
  rintro r H' ⟨rfl,hl,hold,tP⟩
  refine hK _ hl ?_ fun b' g' x vZ h=>hold b' g' x (fun r hr=>by have:=h7.row r hr;omega) h
  have Wm:∀i,i<rs.length→∃r,rs[i]? = some r:=fun i hi=>⟨_,List.getElem?_eq_getElem hi⟩
  have hml:(rV k (rs.map (·.xs))).length=rs.length:=by rw[NC,List.length_map]
  let WH:List (xO ByteArray):=rs.zipWith (fun r x=>{ r with xs:=x }) (rV k (rs.map (·.xs)))
  have uC:∀(i:Nat) (r:xO ByteArray),rs[i]? = some r→WH[i]? = some { r with xs:=lK (k+dE ((rs.map (·.xs)).take i)) r.xs.length }:=fun i r hr=>by
   have hm:=Gv (k:=k) (xs:=rs.map (·.xs)) (i:=i) (x:=r.xs) (by simp[hr])
   show (List.zipWith _ _ _)[i]? = _
   rw[List.getElem?_zipWith,hr,hm]
  have Co:WH.length=rs.length:=by simp[WH,hml]
  have hex:∀ {γ:Type} (F G:xO ByteArray→γ),(∀(i:Nat) (r:xO ByteArray),rs[i]? = some r→F { r with xs:=lK (k+dE ((rs.map (·.xs)).take i)) r.xs.length }=G r)→WH.map F=rs.map G:=fun F G hFG=>by
   apply List.ext_getElem?
   intro i
   rcases Nat.lt_or_ge i rs.length with h | h
   ·obtain⟨r,hr⟩:=Wm i h
    rw[List.getElem?_map,List.getElem?_map,uC i r hr,hr]
    simp only[Option.map_some,hFG i r hr]
   ·rw[List.getElem?_eq_none (by rw[List.length_map,Co];exact h),List.getElem?_eq_none (by rw[List.length_map];exact h)]
  have aBh:WH.map (·.b)=rs.map (·.b):=hex _ _ fun _ _ _=>rfl
  have U9:WH.map nL=rs.map nL:=hex _ _ fun i r _=>by simp[nL,Sq]
  have aAh:WH.map (·.xs)=rV k (rs.map (·.xs)):=by
   apply List.ext_getElem?
   intro i
   rcases Nat.lt_or_ge i rs.length with h | h
   ·obtain⟨r,hr⟩:=Wm i h
    rw[List.getElem?_map,uC i r hr,Gv (x:=r.xs) (by simp[hr])]
    rfl
   ·rw[List.getElem?_eq_none (by rw[List.length_map,Co];exact h),List.getElem?_eq_none (by rw[hml];exact h)]
  refine .inr ⟨b,g,c,WH,h1,h2,by rw[hml,List.length_map],by rw[hml];exact h4,?_,aAh,by rw[aBh];exact h7.nd,fun r' Fy => ?_⟩
  ·rw[U9]
   exact hold _ _ _ (fun r hr=>(h7.row r hr).2.2.1) h5
  ·obtain⟨i,hi⟩:=List.getElem?_of_mem Fy
   obtain⟨r,hr⟩:=Wm i (by rw[←Co];exact(List.getElem?_eq_some_iff.1 hi).1)
   rw[uC i r hr] at hi
   injection hi with hi
   subst hi
   have hm:=h7.row r (List.mem_of_getElem? hr)
   exact⟨hm.1,hm.2.1,hm.2.2.1,by rw[Af];exact hm.2.2.2.1,tP i r hr⟩
theorem L6 (xs ys:List (List ByteArray)) (hn:xs.length≤1000000000) (QI:∀x∈xs,x.length≤1000000000):TC 19 [chV xs,chV ys] (VB (decide (xs=ys))):=by
 refine TC.walk ⟨true,false⟩ Nw rfl (Nat.le_of_ble_eq_true rfl) (rO (BO _) (BO _)) rfl ?_
 have e1:=Hw xs ys hn QI
 by_cases h:xs=ys
 ·rw[decide_eq_true h] at e1 ⊢
  simp only[Cc,zJ,e1,Rs,VX,Nat.reduceEqDiff,Nat.reduceAdd]
  exact aL rfl
 ·rw[decide_eq_false h] at e1 ⊢
  simp only[Cc,zJ,e1,Rs,VX,Nat.reduceEqDiff,Nat.reduceAdd]
  exact aL rfl
theorem IL (k:Int) (xs:List (List ByteArray)) (hk:0≤k∧k≤10000000) (hn:xs.length≤10000000) (ht:dE xs≤10000000):TC 23 [chV (rV k xs),VI k] (VI (k+dE xs)):=by
 refine TC.walk ⟨true,false⟩ Jk rfl (Nat.le_of_ble_eq_true rfl) (rO (BO _) rfl) rfl ?_
 have e1:=Fc k xs hk hn ht
 have h:¬(k+(dE xs:Int))<0:=by omega
 simp only[Ep,B0,e1,Rs,h,VX,Nat.reduceEqDiff,Nat.reduceAdd]
 exact aL rfl
theorem ajD {lo hi kE:Nat} {bK:List (List ByteArray)} {H:aA} {v:VV} {k:Int} {K:VV→aA→Prop} (hv:CG bK lo hi H v) (dP:kE≤lo) (hk:0≤k∧k≤10000000) (hn:bK.length≤10000000) (ht:dE bK≤10000000)
  (hK:∀H',H'.length=H.length→CG (rV k bK) lo hi H' v→(∀b g x,b<lo∨hi≤b→aF H b g=some x→aF H' b g=some x)→K (VI (k+dE bK)) H') :
  cV 22 [v,VI k] kE H K:=by
 obtain⟨c,rfl,hv⟩:=hv
 refine fG rfl (jC.walk ⟨true,false⟩ Im (Nat.le_of_ble_eq_true rfl) ?_)
 simp only[D6,Bv,kA,List.getElem?_cons_zero,VX,Nat.reduceEqDiff,Nat.reduceAdd]
 have Qb:aB c=[c]∧bY c=true:=by
  rcases hv with⟨rfl,rfl⟩ | ⟨b,g,c,rs,h1,h2,rfl,h3⟩<;>exact⟨rfl,rfl⟩
 simp only[Qb.2,List.all_cons,List.all_nil,Ge,kA,List.getElem?_cons_zero,VX,Nat.reduceEqDiff,Nat.reduceAdd]
 refine aiW hv dP hk hn ht fun H' h1 h2 h3 => ?_
 simp only[VX,Nat.reduceEqDiff,Nat.reduceAdd]
 exact hK H' h1 ⟨c,rfl,h2⟩ h3
def svN (s:K3):Nat:=s.b.length+dE s.g+s.e.length
theorem Ut.cell {α:Type} {f:α→VV} {e lo hi:Nat} {H:aA} {v:VV} {bK:List α} (h:Ut f e bK lo hi H v):bY v=true:=by
 rcases h with⟨rfl,rfl⟩ | ⟨b,g,c,h1,h2,rfl,h3⟩<;>rfl
theorem RG.cell {α:Type} {f:α→VV} {e lo hi:Nat} {H:aA} {v:VV} {bK:List (List α)} (h:RG f e bK lo hi H v):bY v=true:=by
 rcases h with⟨rfl,rfl⟩ | ⟨b,g,c,rs,h1,h2,rfl,h3⟩<;>rfl
end Go.PM
namespace Go.PM
open Go.Lib
section
variable {α:Type} {f:α→VV} {e:Nat}
def Qa (f:α→VV) (e:Nat) (bK:List (List α)) (lo hi:Nat) (H:aA) (v:VV):Prop :=
 (v = .tree [] .nil∧bK=[])∨∃b g rs,lo≤b∧b<hi∧v = .ref b g 0 bK.length bK.length∧aF H b g=some (rs.map nL,1,true)∧rs.map (·.xs)=bK∧OY f e lo hi b H rs
theorem Qa.rg {bK:List (List α)} {lo hi:Nat} {H:aA} {v:VV} (h:Qa f e bK lo hi H v):RG f e bK lo hi H v:=by
 rcases h with h | ⟨b,g,rs,h1,h2,h3,h5,h6,h7⟩
 ·exact .inl h
 ·exact .inr ⟨b,g,_,rs,h1,h2,h3,Nat.le_refl _,h5,h6,h7⟩
theorem Qa.cG {bK:List (List α)} {lo hi:Nat} {H H':aA} {v:VV} (h:Qa f e bK lo hi H v) (hk:dD lo hi H H'):Qa f e bK lo hi H' v:=by
 rcases h with h | ⟨b,g,rs,h1,h2,h3,h5,h6,h7⟩
 ·exact .inl h
 ·exact .inr ⟨b,g,rs,h1,h2,h3,hk _ _ _ h1 h2 h5,h6,h7.nd,fun r hr=>by
   obtain⟨k1,k2,k3,k4,k5⟩:=h7.row r hr
   exact⟨k1,k2,k3,k4,hk _ _ _ k1 k2 k5⟩⟩
theorem Qa.wide {bK:List (List α)} {lo hi kE oQ:Nat} {H:aA} {v:VV} (h:Qa f e bK lo hi H v) (hl:kE≤lo) (hh:hi≤oQ):Qa f e bK kE oQ H v:=by
 rcases h with h | ⟨b,g,rs,h1,h2,h3,h5,h6,h7⟩
 ·exact .inl h
 ·exact .inr ⟨b,g,rs,by omega,by omega,h3,h5,h6,h7.nd,fun r hr=>by
   obtain⟨k1,k2,k3,k4,k5⟩:=h7.row r hr
   exact⟨by omega,by omega,k3,k4,k5⟩⟩
theorem Qa.fZ {bK:List (List α)} {lo hi:Nat} {H:aA} {v:VV} (h:Qa f e bK lo hi H v):bY v=true∧aB v=[v]∧isAny v=false:=by
 rcases h with⟨rfl,rfl⟩ | ⟨b,g,rs,h1,h2,rfl,h3⟩<;>exact⟨rfl,rfl,rfl⟩
theorem Qa.apJ {bK:List (List α)} {lo hi:Nat} {H:aA} {v:VV} (h:Qa f e bK lo hi H v):oS v H=some (VI bK.length):=by
 rcases h with⟨rfl,rfl⟩ | ⟨b,g,rs,h1,h2,rfl,h5,h6,h7⟩
 ·rfl
 ·exact dX h5
theorem Qa.snoc {bK:List (List α)} {lo kE hi:Nat} {H:aA} {v:VV} (h:Qa f e bK lo hi H v) (dP:kE≤lo) (hn:bK.length≤1000000000) (r:xO α) (hhi:hi≤r.b) (B2:lo≤r.b) (hc:r.xs.length≤r.c) (hr:aF H r.b r.g=some (r.xs.map f,e,true)) :
  ∃v' H3,dW kE 1 24 v [.ref r.b r.g 0 r.xs.length r.c] H=some (v',H3)∧Qa f e (bK++[r.xs]) lo H3.length H3 v'∧(∀b' g' x,b'<lo→aF H b' g'=some x→aF H3 b' g'=some x)∧H.length≤H3.length ∧
   (∀n,n≤lo→Ce n H→Ce n H3)∧(∀H0:aA,H0.length≤lo→H0 <+: H→H0 <+: H3)∧(∀b' g' x,aF H b' g'=some x→(∀g0 n0 c0,v ≠ .ref b' g0 0 n0 c0)→aF H3 b' g'=some x):=by
 have hb:=fE hr
 rcases h with⟨rfl,rfl⟩ | ⟨b,g,rs,h1,h2,rfl,h5,h6,h7⟩
 ·refine⟨.ref H.length 0 0 1 1,H++[.row 0 [nL r] 1 true],by simp[dW,nL],.inr ⟨H.length,0,[r],by omega,by simp,rfl,fW,rfl,by simp,fun s hs => ?_⟩,fun _ _ _ _ h=>bN h,by simp,fun n hn hO=>hO.app (by simp[nY,eG,nL];omega),fun H0 _ hp=>qW hp,fun _ _ _ h _=>bN h⟩
  rw[List.mem_singleton] at hs
  subst hs
  exact⟨B2,by simp;omega,by omega,hc,bN hr⟩
 ·subst h6
  rw[List.length_map] at hn ⊢
  have sU:=gS (f:=nL) (xs:=rs) (x:=r) (lo:=kE) (bytes:=24) h5 rfl (by omega) (by decide) (by decide) (by omega)
  refine⟨_,_,sU,.inr ⟨b,g+1,rs++[r],h1,by rw[List.length_set];exact fE h5,by simp,cJ h5,by simp,?_,fun s hs => ?_⟩,fun b' g' x vZ h=>bF (by omega) h,by simp,fun n hn hO=>hO.set (by omega) ?_,fun H0 hl hp=>vW hp (by omega),fun b' g' x h fK=>bF (fun he=>fK g _ _ (by rw[he])) h⟩
  ·rw[List.map_append,List.nodup_append]
   refine⟨h7.nd,by simp,fun a ha c VE => ?_⟩
   obtain⟨s,hs,rfl⟩:=List.mem_map.1 ha
   have:=h7.row s hs
   simp only[List.map_cons,List.map_nil,List.mem_singleton] at VE
   omega
  ·rcases List.mem_append.1 hs with hs | hs
   ·obtain⟨k1,k2,k3,k4,k5⟩:=h7.row s hs
    exact⟨k1,by rw[List.length_set];exact fE k5,k3,k4,bF (by omega) k5⟩
   ·rw[List.mem_singleton] at hs
    subst hs
    exact⟨B2,by rw[List.length_set];exact hb,by omega,hc,bF (by omega) hr⟩
  ·rw[D1]
   intro x hx
   obtain⟨s,hs,rfl⟩:=List.mem_map.1 hx
   rcases List.mem_append.1 hs with hs | hs
   ·have:=h7.row s hs
    simp[nL,eG];omega
   ·rw[List.mem_singleton] at hs
    subst hs
    simp[nL,eG];omega
end
def Z4 {α:Type} (f:α→VV) (e:Nat) (o:Option (List α)) (lo hi:Nat) (H:aA) (v:VV):Prop:=match o with
 | none=>v = .tree [] .nil
 | some ys=>JP f e ys lo hi H v
theorem JP.cG {α:Type} {f:α→VV} {e:Nat} {ys:List α}:∀ {lo hi H H' v},JP f e ys lo hi H v→dD lo hi H H'→JP f e ys lo hi H' v:=by
 rintro lo hi H H' v ⟨b,g,c,h1,h2,h3,h4,h5⟩ hk
 exact⟨b,g,c,h1,h2,h3,h4,hk _ _ _ h1 h2 h5⟩
theorem Z4.cG {α:Type} {f:α→VV} {e:Nat} {o:Option (List α)}:∀ {lo hi H H' v},Z4 f e o lo hi H v→dD lo hi H H'→Z4 f e o lo hi H' v:=by
 intro lo hi H H' v h hk
 cases o with
 | none=>exact h
 | some ys=>exact JP.cG h hk
theorem HK {n n':Nat} {L:aA} (h:n≤n') (hL:dS n' L=true):dS n L=true:=by
 unfold dS at hL ⊢
 rw[List.all_eq_true] at hL ⊢
 intro x hx
 have:=hL x hx
 cases x with
 | dead=>rfl
 | row g es e w=>exact Bg h es this
theorem Bj {n:Nat} {H:aA} (h:n≤H.length):HB H (List.replicate n .dead++List.replicate (H.length-n) .dead):=by
 refine⟨by simp;omega,fun b g es e w hb => ?_⟩
 rw[List.replicate_append_replicate] at hb
 have:=List.eq_of_mem_replicate (List.mem_of_getElem? hb)
 cases this
theorem Bt {n k:Nat}:dS n (List.replicate k .dead)=true:=by
 unfold dS
 rw[List.all_eq_true]
 intro x hx
 rw[List.eq_of_mem_replicate hx]
def KV (q:Rat):ByteArray:=⟨(FV q).toArray⟩
def C8 (qs:List Rat):Option (List ByteArray):=if qs.all wX=true then some (qs.map KV) else none
theorem TZ {qs:List Rat} {q:Rat} (hq:q∈qs) (h:wX q=false):C8 qs=none:=if_neg (fun ha=>by
 rw[List.all_eq_true] at ha
 rw[ha q hq] at h
 cases h)
theorem OH {qs:List Rat} (h:∀q∈qs,wX q=true):C8 qs=some (qs.map KV):=if_pos (List.all_eq_true.2 h)
set_option maxHeartbeats 1000000 in
theorem Kx (qs:List Rat) (hn:qs.length≤1000000) (hb:∀q∈qs,bP q≤1099511627776):FC 147 [aK aO qs] (YZ (Z4 sV 1 (C8 qs)) (C8 qs).isSome):=by
 refine FC.J5 ⟨true,false⟩ KI (Nat.le_of_ble_eq_true rfl) fun n => ?_
 have e0:∀K,lG false [.string ⟨#[]⟩] 0 [] K=some (.ref K.length 0 0 0 0,K++[.row 0 [] 1 true]):=fun K=>jH rfl
 simp only[FK,CO,e0,List.length_replicate,gB,VX,Nat.reduceEqDiff,Nat.reduceAdd,Nat.reduceLeDiff,Nat.reduceLT,Nat.reduceSub]
 refine Ns (fun(i:Nat) ρ H=>i≤qs.length∧(∀q∈qs.take i,wX q=true)∧H=List.replicate n bT.dead++[bT.row i (((qs.take i).map KV).map sV) 1 true]∧ρ 4 = .ref n i 0 i i∧ρ 10=aK aO qs∧ρ 11=VI qs.length∧ρ 12=VI i) (fun i=>qs.length-i) 0 ⟨Nat.zero_le _,by simp,rfl,rfl,rfl,rfl,rfl⟩ ?_
 rintro i ρ H ⟨hi,rP,rfl,g4,g10,g11,g12⟩
 have nD:aF (List.replicate n bT.dead++[bT.row i (((qs.take i).map KV).map sV) 1 true]) n i=some (((qs.take i).map KV).map sV,1,true):=by rw[vL,aQ]
 by_cases cS:(i:Int)<(qs.length:Int)
 ·obtain⟨q,hq⟩:∃q,qs[i]? = some q:=⟨_,List.getElem?_eq_getElem (by omega)⟩
  have hqm:=List.mem_of_getElem? hq
  have a1:=fun H=>aJ (f:=aO) (t := .op) (H:=H) (size:=3) (k := .i64) hq rfl
  have wi:IntKind.i64.wrap ((i:Int)+1)=((i+1:Nat):Int):=wrapN (i+1) (by omega) (by omega)
  have e2:=Ky q (hb q hqm)
  have s1:=Bn (lo:=n) (H:=List.replicate n bT.dead++[bT.row i (((qs.take i).map KV).map sV) 1 true]) (q:=q) (by simp)
  have s2:=Lg (H:=List.replicate n bT.dead++[bT.row i (((qs.take i).map KV).map sV) 1 true]) (K:=[]) (q:=q)
  cases hf:wX q with
  |
   false =>
   rw[hf] at e2
   rw[TZ hqm hf]
   simp only[pY,g4,g10,g11,g12,cS,a1,e2,s1,s2,dQ,gB,VX,Nat.reduceEqDiff,Nat.reduceAdd,Nat.reduceLeDiff,Nat.reduceLT,Nat.reduceSub]
   exact⟨_,Bj (by simp),rfl,Bt,.tree [] .nil,rfl,rfl⟩
  |
   true =>
   rw[hf] at e2
   have eL:∀H,lG false [.string ⟨#[]⟩] 1 [(0,bC (FV q))] H=some (.tree [sV (KV q)] (.cl 1),H):=fun H=>gW rfl rfl rfl
   have eS:∀H,cW 1 (.tree [sV (KV q)] (.cl 1)) H=some [sV (KV q)]:=fun H=>dZ rfl rfl
   have eP:dW n 1 16 (.ref n i 0 i i) [sV (KV q)] (List.replicate n bT.dead++[bT.row i (((qs.take i).map KV).map sV) 1 true]++[.row 0 [aO q] 3 true])=some (.ref n (i+1) 0 (i+1) (i+1),(List.replicate n bT.dead++[bT.row (i+1) (((qs.take (i+1)).map KV).map sV) 1 true])++[.row 0 [aO q] 3 true]):=by
    rw[gS (f:=sV) (xs:=(qs.take i).map KV) (bN nD) (by simp;omega) (Nat.le_refl _) (by decide) (by decide) (by omega),iD hq]
    simp only[List.map_append,List.append_assoc,A7]
    rfl
   simp only[pY,g4,g10,g11,g12,cS,a1,e2,s1,s2,eL,eS,eP,wi,dQ,gB,VX,Nat.reduceEqDiff,Nat.reduceAdd,Nat.reduceLeDiff,Nat.reduceLT,Nat.reduceSub]
   rw[List.take_left' (by simp)]
   refine⟨i+1,by omega,by rw[aiV,Bm (mD _ (fI fun _=>rfl)),Il],by omega,fun p hp => ?_,rfl,?_⟩
   ·rw[iD hq] at hp
    rcases List.mem_append.1 hp with h | h
    ·exact rP p h
    ·rw[List.mem_singleton] at h;subst h;exact hf
   ·simp only[uJ,g10,g11,Bz (lJ _),Iy (show n<(List.replicate n bT.dead++[bT.row i (((qs.take i).map KV).map sV) 1 true]).length by simp),VX,Nat.reduceEqDiff,Nat.reduceAdd,List.take_zero,jX,List.all_nil,List.length_nil,uJ,Mx,Bz]
 ·have mT:i=qs.length:=by omega
  subst mT
  rw[List.take_length] at rP nD
  rw[OH rP]
  simp only[pY,g4,g10,g11,g12,cS,List.take_length,gB,VX,Nat.reduceEqDiff,Nat.reduceAdd,Nat.reduceLeDiff,Nat.reduceLT,Nat.reduceSub]
  refine⟨_,⟨rfl,fun _ _ _ _ _ h=>h⟩,by simp[eG,nY,lF],by simp only[dS,List.all_cons,List.all_nil,Bool.and_true];exact Ib (fun _=>rfl) _,.ref n qs.length 0 qs.length qs.length,rfl,⟨n,qs.length,qs.length,Nat.le_refl _,by simp,by simp,by simp,nD⟩⟩
def wY (m:List (List Rat)):Option (List (List ByteArray)):=m.mapM C8
theorem P5 {n lo:Nat} {args iQ:List VV} {F:Nat} {P:Nat→Nat→aA→VV→Prop} {ok:Bool} {H:aA} {K:VV→aA→Prop} (h:FC F iQ (YZ P ok)) (Ag:Eo.contains F=true) (hf:args.mapM (PM.fz depth H)=some iQ) (hO:Ce n H)
  (hP:∀ {lo hi H H' v},P lo hi H v→dD lo hi H H'→P lo hi H' v) (hk:∀v H',H <+: H'→Ce n H'→eG n v=true→P H.length H'.length H' v→K (.dR [v,.sc (.bool ok)]) H'):cV F args lo H K:=by
 refine h.TP Ag hf ?_
 rintro r L ⟨v,rfl,hv⟩ hr hL
 have hvo:eG H.length v=true:=by
  simp only[eG,nY,Bool.and_eq_true] at hr
  exact hr.1
 refine hk v _ (List.prefix_append _ _) (hO.pre ?_) (BF hO.len v hvo) ?_
 ·exact HK hO.len hL
 ·rw[List.length_append]
  exact hP hv dD.move
set_option maxHeartbeats 2000000 in
theorem IW (m:List (List Rat)) (hn:m.length≤1000000) (hb:∀r∈m,r.length≤1000000∧∀q∈r,bP q≤1099511627776):FC 71 [aK (aK aO) m] (YZ (CG ((wY m).getD [])) (wY m).isSome):=by
 refine FC.J5 ⟨true,false⟩ IC (Nat.le_of_ble_eq_true rfl) fun n => ?_
 have s0:bI n 1 (.ptr (n+1) 0 0 0) (.agg [.tree [] .nil]) (List.replicate n bT.dead++[bT.row 0 [.tree [] .nil] 1 true,.row 0 [.tree [] .nil] 1 true])=some (List.replicate n bT.dead++[bT.row 0 [.tree [] .nil] 1 true,.row 0 [.agg [.tree [] .nil]] 1 true]):=by
  rw[bO (e:=1) (g:=0) (j:=0) (by rw[rG,iY,aQ]) (by exact Nat.zero_lt_one) (by omega) rfl rfl,IA]
  rfl
 simp only[DV,Bo,s0,Db,List.length_replicate,List.length_cons,List.length_nil,List.append_assoc,List.cons_append,List.nil_append,fQ,gB,VX,Nat.reduceEqDiff,Nat.reduceAdd,Nat.reduceLeDiff,Nat.reduceLT,Nat.reduceSub]
 refine aU (fun(i:Nat) ρ H=>i≤m.length∧Ce n H∧(∃x v bK,aF H n 0=some ([.tree [] .nil],1,true)∧aF H (n+1) 0=some ([x],1,true)∧aB x=[v]∧wY (m.take i)=some bK∧Qa sV 1 bK (n+2) H.length H v)∧ρ 2 = .ptr n 0 0 0∧ρ 4 = .ptr (n+1) 0 0 0∧ρ 10=aK (aK aO) m∧ρ 11=VI m.length∧ρ 12=VI i) (fun i=>m.length-i) 0
  ⟨Nat.zero_le _,⟨[.row 0 [.tree [] .nil] 1 true,.row 0 [.agg [.tree [] .nil]] 1 true],rfl,rfl⟩,⟨.agg [.tree [] .nil],.tree [] .nil,[],by rw[vL,aQ],by rw[rG,iY,aQ],rfl,rfl,.inl ⟨rfl,rfl⟩⟩,rfl,rfl,rfl,rfl,rfl⟩ ?_
 rintro i ρ H ⟨hi,hO,⟨x,v,bK,qQ,KH,hx,HS,hv⟩,g2,g4,g10,g11,g12⟩
 have xR:=fE KH
 by_cases cS:(i:Int)<(m.length:Int)
 ·obtain⟨r,hr⟩:∃r,m[i]? = some r:=⟨_,List.getElem?_eq_getElem (by omega)⟩
  have Hl:=hb r (List.mem_of_getElem? hr)
  have a1:=fun H=>aJ (f:=aK aO) (t := .op) (H:=H) (size:=1) (k := .i64) hr rfl
  have wi:IntKind.i64.wrap ((i:Int)+1)=((i+1:Nat):Int):=wrapN (i+1) (by omega) (by omega)
  simp only[tC,g2,g4,g10,g11,g12,cS,a1,gB,VX,Nat.reduceEqDiff,Nat.reduceAdd,Nat.reduceLeDiff,Nat.reduceLT,Nat.reduceSub]
  refine P5 (n:=n) (Kx r Hl.1 Hl.2) rfl (Y8 (aL (lJ _))) hO Z4.cG fun u H2 p2 hO2 _ hu => ?_
  cases ht:C8 r with
  |
   none =>
   rw[ht] at hu
   have hu:u = .tree [] .nil:=hu
   subst hu
   have YB:wY m=none:=mapM_none ht (List.mem_of_getElem? hr)
   rw[YB]
   have s1:bI n 1 (.ptr n 0 0 0) (.agg [.tree [] .nil]) H2=some (H2.set n (.row 0 [.agg [.tree [] .nil]] 1 true)):=by
    rw[bO (cA p2 qQ) (by exact Nat.zero_lt_one) (Nat.le_refl _) rfl rfl]
    rfl
   have s2:bX true 1 (.ptr n 0 0 0) (H2.set n (.row 0 [.agg [.tree [] .nil]] 1 true))=some (.agg [.tree [] .nil]):=by
    rw[bM,cJ (cA p2 qQ)]
    rfl
   simp only[g2,g4,s1,s2,Option.isSome_none,gB,VX,Nat.reduceEqDiff,Nat.reduceAdd,Nat.reduceLeDiff,Nat.reduceLT,Nat.reduceSub]
   exact⟨_,Bj (by rw[List.length_set];have:=p2.length_le;omega),rfl,Bt,.agg [.tree [] .nil],rfl,_,rfl,.inl ⟨rfl,rfl⟩⟩
  |
   some ys =>
   rw[ht] at hu
   obtain⟨b,g,c,k1,k2,rfl,k3,k4⟩:=hu
   ·have eL:∀K,lG false [.slice none 0 0] 1 [(0,.ref b g 0 ys.length c)] K=some (.tree [.ref b g 0 ys.length c] (.cl 1),K):=fun K=>gW rfl rfl rfl
    have eS:∀K,cW 1 (.tree [.ref b g 0 ys.length c] (.cl 1)) K=some [.ref b g 0 ys.length c]:=fun K=>dZ rfl rfl
    obtain⟨v',H3,ap,UT,cG,hlen,Oh,Ak,_⟩:=(hv.cG (dD.pre p2)).snoc (kE:=n) (by omega) (by rw[rA HS,List.length_take];omega) ⟨b,g,c,ys⟩ k1 (by simp only;omega) k3 k4
    have VM:=cG _ _ _ (by omega) (cA p2 KH)
    have l1:bX false 1 (.ptr (n+1) 0 0 0) H2=some v:=by
     rw[bM,cA p2 KH]
     simp[dF,hx]
    have l2:aF H2 (n+1) 0=some ([x],1,true):=cA p2 KH
    have wF:=UT.fZ
    have s1:bI n 1 (.ptr (n+1) 0 0 0) v' H3=some (H3.set (n+1) (.row 0 [v'] 1 true)):=by
     rw[bO VM (by exact Nat.zero_lt_one) (by omega) (by rw[wF.2.1];rfl) (by rw[wF.2.1];simp[wF.1])]
     rfl
    have hO3:=(Oh n (by omega) hO2).set (b:=n+1) (g:=0) (e:=1) (es:=[v']) (w:=true) (by omega) (by
     rcases UT with⟨rfl,_⟩ | ⟨b',g',WH,q1,q2,rfl,_⟩
     ·rfl
     ·simp[nY,eG];omega)
    simp only[g4,g12,wi,eL,eS,l1,ap,s1,VM,l2,sB,Nat.add_zero,Option.isSome_some,gB,VX,Nat.reduceEqDiff,Nat.reduceAdd,Nat.reduceLeDiff,Nat.reduceLT,Nat.reduceSub]
    refine⟨i+1,by omega,by omega,hO3,⟨v',v',bK++[ys],bF (by omega) (cG _ _ _ (by omega) (cA p2 qQ)),cJ VM,wF.2.1,?_,?_⟩,by (repeat' apply And.intro)<;>first | rfl | trivial | assumption⟩
    ·rw[iD hr]
     exact E4 HS ht
    ·rw[List.length_set]
     exact UT.cG (dD.set (by omega))
 ·have mT:i=m.length:=by omega
  subst mT
  rw[List.take_length] at HS
  rw[HS]
  have wF:=hv.fZ
  have l1:bX true 1 (.ptr (n+1) 0 0 0) H=some (.agg [v]):=by
   rw[bM,KH]
   simp[dF,hx]
  have s1:bI n 1 (.ptr n 0 0 0) (.agg [v]) H=some (H.set n (.row 0 [.agg [v]] 1 true)):=by
   rw[bO qQ (by exact Nat.zero_lt_one) (Nat.le_refl _) rfl (by simp[aB,wF.1])]
   rfl
  have s2:bX true 1 (.ptr n 0 0 0) (H.set n (.row 0 [.agg [v]] 1 true))=some (.agg [v]):=by
   rw[bM,cJ qQ]
   rfl
  simp only[tC,g2,g4,g10,g11,g12,cS,l1,s1,s2,Option.isSome_some,gB,VX,Nat.reduceEqDiff,Nat.reduceAdd,Nat.reduceLeDiff,Nat.reduceLT,Nat.reduceSub]
  have Oh:eG n v=true:=by
   rcases hv with⟨rfl,_⟩ | ⟨b',g',WH,q1,q2,rfl,_⟩
   ·rfl
   ·simp[eG];omega
  obtain⟨L,rfl,hL⟩:=hO
  refine⟨L.set 0 (.row 0 [.agg [v]] 1 true),⟨by simp,fun _ _ _ _ _ h=>by rw[A7];exact h⟩,by simp[eG,nY,Oh,lF],?_,.agg [v],rfl,v,rfl,?_⟩
  ·have:=(Ce.set (n:=n) (b:=n) (g:=0) (e:=1) (es:=[.agg [v]]) (w:=true) ⟨L,rfl,hL⟩ (Nat.le_refl _) (by simp[nY,eG,Oh]))
   rw[A7] at this
   obtain⟨L',h1,h2⟩:=this
   rw[List.append_cancel_left h1]
   exact h2
  ·rw[←A7,List.length_set]
   have:=hv.rg.cG (H':=(List.replicate n bT.dead++L).set n (.row 0 [.agg [v]] 1 true)) (dD.set (by omega))
   rw[Db] at this
   exact this.wide (by omega) (Nat.le_refl _)
end Go.PM
namespace Go.PM
open Go.Lib
section
variable {g:List (List Rat)} {e row:List Rat} {n i:Nat} {st:List Bool}
end
end Go.PM
namespace Go.PM
def qB:aD:=(LS [LO 1 (.box (LT 0)),LO 2 (.new [(.slice none 0 0)]),LO 3 (.mv LF)] (LS [LO 7 (.load true 2 (LT 1)),LO 8 (.call 84 [(LT 7)]),LM 6 8,LO 9 (LX 6 0),LO 10 (LX 6 1),LO 4 (.new [(.slice none 0 0),(.slice none 0 0)]),LN (.store 2 (LT 4) (LT 9)),LM 5 10] (.seq (LS [LM 11 5,LO 12 (.un .not (LT 11)),LM 13 12,LZ 13 14 (.load true 2 (LT 4)),LZ 13 15 (.call 85 [(LT 14)]),LZ 13 16 (.bin .geq (LT 15) (LI 12)),LO 17 (.pick (LT 13) LG (LT 16))] (.cond (LT 17) (LS [LO 18 (.build [(.slice none 0 0)] [(0,1)] []),LN (.store 1 (LT 2) (LT 18)),LO 3 (.mv LF)] .ret) .skip)) (LS [LO 19 (.load true 2 (LT 4)),LO 20 (.call 86 [(LT 19)]),LO 21 (.call 72 [(LT 20)]),LO 22 (.call 71 [(LT 21)]),LO 23 (LX 22 0),LO 24 (LX 22 1),LN (.store 1 (LT 2) (LT 23)),LM 3 24] .ret))))
def uA:aT:=⟨25,[(.cell 2 true 1),(.tmp 3)],qB⟩
theorem I7:fM 27=some uA:=by kernel_rfl
def gC:aD:=(LS [LO 1 (.box (LT 0)),LO 2 (.new [(.slice none 0 0),(.slice none 0 0)]),LO 3 (.mv LF)] (.seq (LS [LO 8 (LA 0 1),LO 9 (LL 8),LO 10 (.len (LT 9)),LO 11 (.bin .lss (LT 10) (LI 1)),LM 12 11,LZ 12 13 (LA 0 1),LZ 12 14 (LL 13),LZ 12 15 (.len (LT 14)),LZ 12 16 (.bin .gtr (LT 15) (LI 20)),LO 17 (.pick (LT 12) LG (LT 16)),LM 18 17,LZ 18 19 (LA 1 1),LZ 18 20 (LL 19),LZ 18 21 (.len (LT 20)),LZ 18 22 (LA 0 1),LZ 18 23 (LL 22),LZ 18 24 (.len (LT 23)),LZ 18 25 (.bin .neq (LT 21) (LT 24)),LO 26 (.pick (LT 18) LG (LT 25))] (.cond (LT 26) (LS [LO 27 (.build [(.slice none 0 0),(.slice none 0 0)] [(0,1),(1,1)] []),LN (.store 2 (LT 2) (LT 27)),LO 3 (.mv LF)] .ret) .skip)) (LS [LO 29 (LA 0 1),LO 30 (LL 29),LO 31 (.call 65 [(LT 30)]),LM 28 31,LO 32 (LX 28 0),LO 33 (LX 28 1),LM 4 32,LM 5 33] (LS [LO 35 (LA 1 1),LO 36 (LL 35),LO 37 (.call 65 [(LT 36)]),LM 34 37,LO 38 (LX 34 0),LO 39 (LX 34 1),LM 6 38,LM 7 39] (.seq (LS [LM 40 5,LO 41 (.un .not (LT 40)),LM 42 41,LZ 42 43 (.mv (LT 7)),LZ 42 44 (.un .not (LT 43)),LO 45 (.pick (LT 42) LG (LT 44)),LM 46 45,LZ 46 47 (.mv (LT 4)),LZ 46 48 (.call 66 [(LT 47),(.func 158)]),LO 49 (.pick (LT 46) LG (LT 48)),LM 50 49,LZ 50 51 (.mv (LT 6)),LZ 50 52 (.call 66 [(LT 51),(.func 158)]),LO 53 (.pick (LT 50) LG (LT 52))] (.cond (LT 53) (LS [LO 54 (.build [(.slice none 0 0),(.slice none 0 0)] [(0,1),(1,1)] []),LN (.store 2 (LT 2) (LT 54)),LO 3 (.mv LF)] .ret) .skip)) (LS [LM 55 4,LM 56 6,LO 57 (.build [(.slice none 0 0),(.slice none 0 0)] [(0,1),(1,1)] [(0,(LT 55)),(1,(LT 56))]),LN (.store 2 (LT 2) (LT 57)),LO 3 (.mv LG)] .ret))))))
def jT:aT:=⟨58,[(.cell 2 true 2),(.tmp 3)],gC⟩
theorem N3:fM 84=some jT:=by kernel_rfl
def AH:aD:=(LS [LO 1 (.box (LT 0)),LO 2 (.mv (LI 0))] (LS [LO 3 (LA 0 1),LO 4 (LL 3),LO 5 (.len (LT 4)),LM 2 5] .ret))
def CF:aT:=⟨6,[(.tmp 2)],AH⟩
theorem HG:fM 85=some CF:=by kernel_rfl
def pA:aD:=(LS [LO 13 (.bin .lss (LT 12) (LT 11))] (.seq (.cond (LT 13) .skip (.exit 0)) (.seq (.block 1 (LS [LM 14 12,LM 4 14] (.dI [LM 15 3,LM 16 4,LO 17 (.iaddr 1 (LT 15) (LT 16)),LO 18 (LL 17),LM 19 4,LO 20 (.bin .add (LT 19) (LI 1)),LM 21 3,LM 22 4,LO 23 (.bin .add (LT 22) (LI 1)),LO 24 (.iaddr 1 (LT 21) (LT 23)),LO 25 (LL 24),LM 26 4,LO 27 (LA 0 1),LO 28 (LL 27),LM 29 4,LO 30 (.iaddr 3 (LT 28) (LT 29)),LO 31 (LK 30),LO 32 (LA 1 1),LO 33 (LL 32),LM 34 4,LO 35 (.iaddr 3 (LT 33) (LT 34)),LO 36 (LK 35),LO 37 (.iaddr 3 (LT 18) (LT 20)),LN (.store 3 (LT 37) (LT 31)),LO 38 (.iaddr 3 (LT 25) (LT 26)),LN (.store 3 (LT 38) (LT 36))]))) (.dI [LO 39 (.bin .add (LT 12) (LI 1)),LM 12 39]))))
def wZ:aD:=(LS [LO 1 (.box (LT 0)),LO 2 (.mv (.const (.slice none 0 0)))] (LS [LO 5 (.load true 2 (LT 1)),LO 6 (.call 85 [(LT 5)]),LO 7 (.bin .add (LT 6) (LI 1)),LO 8 (.call 99 [(LT 7)]),LM 3 8] (.seq (LS [LO 9 (LA 0 1),LO 10 (LL 9),LO 11 (.len (LT 10)),LO 12 (.mv (LI 0))] (.block 0 (.loop pA))) (LS [LM 40 3,LM 2 40] .ret))))
def As:aT:=⟨41,[(.tmp 2)],wZ⟩
theorem Fg:fM 86=some As:=by kernel_rfl
def zO:aD:=(LS [LO 1 (.box (LT 0)),LO 2 (.mv LF)] (LS [LO 3 (LK 1),LO 4 (.call 68 [(LT 3)]),LO 5 (.bin .leq (LT 4) (LI 0)),LM 2 5] .ret))
def Cw:aT:=⟨6,[(.tmp 2)],zO⟩
theorem Lw:fM 158=some Cw:=by kernel_rfl
end Go.PM
namespace Go.PM
def CD:aD:=(LS [LO 15 (.bin .lss (LT 14) (LT 13))] (.seq (.cond (LT 15) .skip (.exit 0)) (.seq (.block 1 (LS [LO 16 (.iaddr 1 (LT 12) (LT 14)),LO 17 (LL 16),LM 5 17] (LS [LM 18 5,LO 19 (.call 70 [(LT 18)]),LO 6 (.new [(.bool false),(.slice none 0 0),(.slice none 0 0)]),LN (.store 3 (LT 6) (LT 19))] (LS [LO 20 (LK 6),LO 21 (LK 3),LO 22 (.call 148 [(LT 20),(LT 21)]),LO 23 (.bin .gtr (LT 22) (LI 0))] (.cond (LT 23) (.dI [LO 24 (LK 6),LN (.store 3 (LT 3) (LT 24))]) .skip))))) (.dI [LO 25 (.bin .add (LT 14) (LI 1)),LM 14 25]))))
def B6:aD:=(LS [LO 30 (.bin .lss (LT 29) (LT 28))] (.seq (.cond (LT 30) .skip (.exit 2)) (.seq (.block 3 (LS [LM 31 29,LO 32 (.iaddr 1 (LT 27) (LT 29)),LO 33 (LL 32),LM 8 31,LM 9 33] (LS [LM 34 9,LO 35 (LK 3),LO 36 (.call 149 [(LT 34),(LT 35)]),LM 10 36] (LS [LM 37 10,LM 38 8,LO 39 (.call 64 [(LI 1)]),LM 40 10,LO 41 (.call 70 [(LT 40)]),LO 42 (.call 128 [(LT 39),(LT 41)]),LO 43 (.iaddr 3 (LT 37) (LT 38)),LN (.store 3 (LT 43) (LT 42))] (.dI [LM 44 7,LM 45 10,LO 46 (.lit [(.slice none 0 0)] 1 [(0,(LT 45))]),LO 47 (.app 1 24 (LT 44) (LT 46)),LM 7 47]))))) (.dI [LO 48 (.bin .add (LT 29) (LI 1)),LM 29 48]))))
def JI:aD:=(LS [LO 2 (.mv (.const (.slice none 0 0)))] (LS [LO 11 (.call 64 [(LI 0)]),LO 3 (.new [(.bool false),(.slice none 0 0),(.slice none 0 0)]),LN (.store 3 (LT 3) (LT 11))] (.seq (LS [LM 12 0,LO 13 (.len (LT 12)),LO 14 (.mv (LI 0))] (.block 0 (.loop CD))) (LS [LO 26 (.lit [(.slice none 0 0)] 0 []),LM 7 26] (.seq (LS [LM 27 0,LO 28 (.len (LT 27)),LO 29 (.mv (LI 0))] (.block 2 (.loop B6))) (LS [LM 49 7,LM 2 49] .ret))))))
def Po:aT:=⟨50,[(.tmp 2)],JI⟩
theorem Ug:fM 72=some Po:=by kernel_rfl
end Go.PM
namespace Go.PM
open Go.Lib
theorem aoK {n k lo hi:Nat} {H:aA} {P:Nat→Nat→aA→VV→Prop} {v:VV} {ok:Bool} (hk:n≤k) (hl:k≤H.length) (hT:zM n k H) (hv:eG n v=true)
  (DO:∀ {lo hi H H' v},P lo hi H v→dD lo hi H H'→P lo hi H' v) (atF:∀ {lo hi kE oQ:Nat} {H:aA} {v:VV},P lo hi H v→kE≤lo→hi≤oQ→P kE oQ H v) (hp:P lo hi H v) (dP:k≤lo) (hhi:hi≤H.length) :
  ∃L,HB H (List.replicate n .dead++L)∧eG n (.dR [v,.sc (.bool ok)])=true∧dS n L=true∧YZ P ok n (.dR [v,.sc (.bool ok)]) L:=by
 obtain⟨L,k1,k2,k3⟩:=NK hk hl hT
 refine⟨L,k1,by simp[eG,nY,hv,lF],k2,v,rfl,?_⟩
 have hl3:=k1.1
 rw[List.length_append,List.length_replicate] at hl3
 exact atF (DO hp (H':=List.replicate n bT.dead++L) fun b g x h1 h2 h3=>k3 b g x (by omega) h3) (by omega) (by omega)
theorem CG.wide {bK:List (List ByteArray)}:∀ {lo hi kE oQ:Nat} {H:aA} {v:VV},CG bK lo hi H v→kE≤lo→hi≤oQ→CG bK kE oQ H v:=by
 rintro lo hi kE oQ H v ⟨c,h1,h2⟩ hl hh
 exact⟨c,h1,h2.wide hl hh⟩
theorem CG.own {n lo hi:Nat} {H:aA} {v:VV} {bK:List (List ByteArray)} (h:CG bK lo hi H v) (hn:n≤lo):∃c,v = .agg [c]∧bY c=true∧aB c=[c]∧eG n c=true:=by
 obtain⟨c,rfl,h | ⟨b,g,cc,rs,h1,h2,rfl,h3⟩⟩:=h
 ·obtain⟨rfl,_⟩:=h
  exact⟨_,rfl,rfl,rfl,rfl⟩
 ·exact⟨_,rfl,rfl,rfl,by simp[eG];omega⟩
theorem WX.wide {s:K3}:∀ {lo hi kE oQ:Nat} {H:aA} {v:VV},WX s lo hi H v→kE≤lo→hi≤oQ→WX s kE oQ H v:=by
 rintro lo hi kE oQ H v ⟨a,b,c,m1,m2,h1,k1,k2,k3,h2,h3,h4⟩ hl hh
 exact⟨a,b,c,m1,m2,h1,by omega,k2,by omega,h2.wide hl (Nat.le_refl _),h3,h4.wide (Nat.le_refl _) hh⟩
theorem zM.asD {n k:Nat} {H L:aA} (h:zM n k H) (hL:dS n L=true):zM n k (H++L):=by
 intro b g es e w hb hr
 rcases Nat.lt_or_ge b H.length with bH | CJ
 ·rw[List.getElem?_append_left bH] at hr
  exact h b g es e w hb hr
 ·rw[List.getElem?_append_right CJ] at hr
  exact List.all_eq_true.1 hL _ (List.mem_of_getElem? hr)
theorem zM.start {n:Nat} {H:aA}:zM n H.length H:=fun b g es e w hb hr=>by
 rw[List.getElem?_eq_none hb] at hr
 cases hr
theorem Ed (q:Rat):TC 158 [aO q] (VB (decide (q≤0))):=by
 refine TC.walk ⟨true,false⟩ Lw rfl (Nat.le_of_ble_eq_true rfl) (by simp[aP,iC]) rfl ?_
 have e1:=jB q
 have hq:kR q≤0↔q≤0:=by
  rw[←Int.not_lt,Zm]
  exact Rat.not_lt
 by_cases h:q≤0
 ·have h':=hq.2 h
  rw[decide_eq_true h]
  simp only[Cw,zO,e1,h',aI,dC,dQ,bB,aZ,aS,iJ,Nat.reduceLeDiff,Nat.reduceLT,Nat.reduceSub,gB,VX,Nat.reduceEqDiff,Nat.reduceAdd,Nat.reduceLeDiff,Nat.reduceLT,Nat.reduceSub]
  exact aL rfl
 ·have h':¬kR q≤0:=fun k=>h (hq.1 k)
  rw[decide_eq_false h]
  simp only[Cw,zO,e1,h',aI,dC,dQ,bB,aZ,aS,iJ,Nat.reduceLeDiff,Nat.reduceLT,Nat.reduceSub,gB,VX,Nat.reduceEqDiff,Nat.reduceAdd,Nat.reduceLeDiff,Nat.reduceLT,Nat.reduceSub]
  exact aL rfl
end Go.PM
namespace Go.PM
section
variable {α:Type}
def vec (n:Nat) (f:Nat→α):List α:=(List.range n).map f
def Uq (n m:Nat) (F:Nat→Nat→α):List (List α):=vec n fun a=>vec m (F a)
theorem AG (n:Nat) (f:Nat→α):(vec n f).length=n:=by simp[vec]
theorem K1 (n m:Nat) (F:Nat→Nat→α):(Uq n m F).length=n:=AG ..
theorem EN {n i:Nat} {f:Nat→α} (h:i<n):(vec n f)[i]? = some (f i):=by simp[vec,h]
theorem MJ {n i:Nat} {f:Nat→α} (h:n≤i):(vec n f)[i]? = none:=by rw[List.getElem?_eq_none];rw[AG];exact h
theorem xZ {n:Nat} {f g:Nat→α} (h:∀i,i<n→f i=g i):vec n f=vec n g:=List.map_congr_left fun i hi=>h i (List.mem_range.1 hi)
theorem Pp {n m:Nat} {F G:Nat→Nat→α} (h:∀a b,a<n→b<m→F a b=G a b):Uq n m F=Uq n m G:=xZ fun a ha=>xZ fun b hb=>h a b ha hb
theorem WM {n m i:Nat} {F:Nat→Nat→α} (h:i<n):(Uq n m F)[i]? = some (vec m (F i)):=EN h
theorem Qw {n j:Nat} {f:Nat→α} {y:α}:(vec n f).set j y=vec n fun b=>if b=j then y else f b:=by
 apply List.ext_getElem?
 intro b
 rw[List.getElem?_set,AG]
 by_cases hb:b<n
 ·rw[EN hb,EN hb]
  by_cases hj:j=b
  ·subst hj;simp[hb]
  ·simp[hj,Ne.symm hj]
 ·rw[MJ (by omega),MJ (by omega)]
  split
  ·rw[if_neg (by omega)]
  ·rfl
theorem ahU {n m i:Nat} {F:Nat→Nat→α} {g:Nat→α}:(Uq n m F).set i (vec m g)=Uq n m fun a b=>if a=i then g b else F a b:=by
 rw[Uq,Qw]
 refine xZ fun a _ => ?_
 split
 ·rename_i h
  exact xZ fun b _=>(if_pos h).symm
 ·rename_i h
  exact xZ fun b _=>(if_neg h).symm
theorem PV {n:Nat} {x:α}:List.replicate n x=vec n fun _=>x:=by
 apply List.ext_getElem?
 intro i
 by_cases h:i<n
 ·rw[EN h,List.getElem?_replicate,if_pos h]
 ·rw[MJ (by omega),List.getElem?_replicate,if_neg h]
theorem YS {n m:Nat} {x:α}:List.replicate n (List.replicate m x)=Uq n m fun _ _=>x:=by rw[PV,PV];rfl
theorem ajY {β:Type} {n:Nat} {f:Nat→α} {g:α→β}:(vec n f).map g=vec n fun i=>g (f i):=by simp[vec]
theorem Hy {n:Nat} {f:Nat→α} {x:α}:x∈vec n f↔∃i,i<n∧f i=x:=by simp[vec]
theorem W5 {n m:Nat} {F:Nat→Nat→α} {r:List α} (h:r∈Uq n m F):∃i,i<n∧r=vec m (F i):=by
 obtain⟨i,hi,rfl⟩:=Hy.1 h
 exact⟨i,hi,rfl⟩
theorem adX {n:Nat} {f:Nat→α}:vec (n+1) f=vec n f++[f n]:=by simp[vec,List.range_succ]
end
end Go.PM
namespace Go.PM
open Go.Lib
theorem agD {qs:List Rat} {B i:Nat} {y:Rat} (h:∀q∈qs,bP q≤B) (hy:bP y≤B):∀q∈qs.set i y,bP q≤B:=fun q hq=>by
 rcases List.mem_or_eq_of_mem_set hq with h1 | rfl
 ·exact h q h1
 ·exact hy
theorem WX.own {n lo hi:Nat} {s:K3} {H:aA} {v:VV} (h:WX s lo hi H v) (hn:n≤lo):∃a b c,v = .agg [a,b,c]∧bY a=true∧bY b=true∧bY c=true∧eG n a=true∧eG n b=true∧eG n c=true:=by
 obtain⟨a,b,c,m1,m2,rfl,l1,l2,l3,ha,hb,hc⟩:=h
 refine⟨a,b,c,rfl,ha.cell,hb.cell,hc.cell,?_,?_,?_⟩
 ·rcases ha with⟨rfl,_⟩ | ⟨b,g,c,h1,h2,rfl,h3⟩
  ·rfl
  ·simp[eG];omega
 ·rcases hb with⟨rfl,_⟩ | ⟨b,g,c,rs,h1,h2,rfl,h3⟩
  ·rfl
  ·simp[eG];omega
 ·rcases hc with⟨rfl,_⟩ | ⟨b,g,c,h1,h2,rfl,h3⟩
  ·rfl
  ·simp[eG];omega
end Go.PM
namespace Go.PM
open Go.Lib
section
variable {α:Type} {f:α→VV} {e:Nat}
structure RdT (f:α→VV) (e:Nat) (m:List (List α)) (H:aA) (v:VV):Prop where
 len:∀H',H <+: H'→oS v H'=some (VI m.length)
 get:∀H',H <+: H'→∀(i:Nat) r,m[i]? = some r→∃p w,bQ 1 v (VI i) H'=some p∧bX false 1 p H'=some w∧Rd f e r H' w
theorem RdT.pre {m:List (List α)} {H H':aA} {v:VV} (h:RdT f e m H v) (hh:H <+: H'):RdT f e m H' v:=⟨fun H2 h2=>h.len H2 (hh.trans h2),fun H2 h2=>h.get H2 (hh.trans h2)⟩
theorem RdT.tree {m:List (List α)} {H:aA} {t:TK} (hs:∀x,(aB (f x)).length=e):RdT f e m H (.tree (m.map (aK f)) t) :=
 ⟨fun _ _=>dY,fun _ _ i x hx=>⟨_,_,aJ hx rfl,by rw[K7];rfl,Rd.tree hs⟩⟩
theorem RdT.row {m:List (List α)} {H:aA} {b g n c:Nat} {w:Bool} (h:aF H b g=some (m.map (aK f),1,w)) (hn:n=m.length) (hs:∀x,(aB (f x)).length=e):RdT f e m H (.ref b g 0 n c):=by
 subst hn
 refine⟨fun H' hh=>dX (cA hh h),fun H' hh i x hx => ?_⟩
 have hi:=(List.getElem?_eq_some_iff.1 hx).1
 have e1:=bD (o:=0) (n:=m.length) (c:=c) (i:=i) (k := .i64) (cA hh h) hi
 rw[Nat.zero_add] at e1
 exact⟨_,_,e1,by rw[pI (f:=aK f) (cA hh h) hx];rfl,Rd.tree hs⟩
theorem MG.snoc {lo hi kE b g:Nat} {H:aA} {rs:List (xO α)} (h:MG f e lo hi b g H rs) (hg:g=rs.length) (dP:kE≤lo) (hn:g≤1000000000) (r:xO α) (hhi:hi≤r.b) (hc:r.xs.length≤r.c) (hr:aF H r.b r.g=some (r.xs.map f,e,true)) :
  dW kE 1 24 (.ref b g 0 g g) [.ref r.b r.g 0 r.xs.length r.c] H=some (.ref b (g+1) 0 (g+1) (g+1),H.set b (.row (g+1) ((rs++[r]).map nL) 1 true))∧MG f e lo H.length b (g+1) (H.set b (.row (g+1) ((rs++[r]).map nL) 1 true)) (rs++[r]):=by
 have aEw:=h.blo
 have aEx:=h.bhi
 have B2:=fE hr
 have sU:=gS (f:=nL) (xs:=rs) (x:=r) (lo:=kE) (bytes:=24) h.out hg (by omega) (by decide) (by decide) (by omega)
 refine⟨sU,cJ h.out,h.blo,fE h.out,?_,fun s hs => ?_⟩
 ·rw[List.map_append,List.nodup_append]
  refine⟨h.rows.nd,by simp,fun a ha c VE => ?_⟩
  obtain⟨s,hs,rfl⟩:=List.mem_map.1 ha
  have:=h.rows.row s hs
  simp only[List.map_cons,List.map_nil,List.mem_singleton] at VE
  omega
 ·rcases List.mem_append.1 hs with hs | hs
  ·obtain⟨k1,k2,k3,k4,k5⟩:=h.rows.row s hs
   exact⟨k1,by omega,k3,k4,bF (by omega) k5⟩
  ·rw[List.mem_singleton] at hs
   subst hs
   exact⟨by omega,B2,by omega,hc,bF (by omega) hr⟩
end
def jM (m:List (List Rat)) (i:Nat):Rat:=(m.take i).foldl (fun a r=>if a<gY r then gY r else a) 0
def gG (m:List (List Rat)):Rat:=jM m m.length
theorem AK {m:List (List Rat)} {i:Nat} {r:List Rat} (h:m[i]? = some r):jM m (i+1)=if jM m i<gY r then gY r else jM m i:=by
 unfold jM
 rw[iD h,List.foldl_append]
 rfl
def rL (d:Rat) (i:Nat) (r:List Rat):List Rat:=(r.map (· / d)).set i (1-gY (r.map (· / d)))
def uE (m:List (List Rat)):List (List Rat):=vec m.length fun i=>rL (gG m) i (m.getD i [])
theorem B5 {qs:List Rat} {B n:Nat} (h:∀q∈qs,bP q≤B) (hn:qs.length≤n):bP (gY qs)≤n*(B+1)+1:=by
 have h1:=LW h qs.length
 rw[List.take_length] at h1
 have h2:qs.length*(B+1)≤n*(B+1):=Nat.mul_le_mul_right _ hn
 omega
theorem xX {m:List (List Rat)} {B n:Nat} (h:∀r∈m,r.length≤n∧∀q∈r,bP q≤B):∀i,bP (jM m i)≤n*(B+1)+1
 |
  0=>by
  show bP 0≤_
  rw[uL]
  omega
 |
  i+1=>by
  cases hr:m[i]? with
  |
   none =>
   have:jM m (i+1)=jM m i:=by
    unfold jM
    rw[List.take_add_one,hr]
    simp
   rw[this]
   exact xX h i
  |
   some r =>
   rw[AK hr]
   have:=h r (List.mem_of_getElem? hr)
   split
   ·exact B5 this.2 this.1
   ·exact xX h i
theorem OM {qs:List Rat} {d:Rat} {B D:Nat} (h:∀q∈qs,bP q≤B) (hd:bP d≤D):∀q∈qs.map (· / d),bP q≤B+D+1:=fun q hq=>by
 obtain⟨p,hp,rfl⟩:=List.mem_map.1 hq
 have h1:=h p hp
 have h2:=EY p d
 omega
set_option maxHeartbeats 4000000 in
theorem Sd {lo:Nat} {H:aA} {v:VV} (m:List (List Rat)) {n B:Nat} (hv:RdT aO 3 m H v) (dP:lo≤H.length) (hm:m.length=n) (hn:n≤100) (hB:B≤1000000) (hb:∀r∈m,r.length=n∧∀q∈r,bP q≤B) (hd:gG m≠0) :
  jC 72 [v] lo H (L5 (TabIs aO 3 (uE m)) H):=by
 have hmul:n*(B+1)≤100*(B+1):=Nat.mul_le_mul_right _ hn
 have vZ:∀r∈m,r.length≤n∧∀q∈r,bP q≤B:=fun r hr=>⟨Nat.le_of_eq (hb r hr).1,(hb r hr).2⟩
 refine jC.walk ⟨true,false⟩ Ug (Nat.le_of_ble_eq_true rfl) ?_
 have e1:TC 64 [VI 0] (aO 0):=sO 0 (by decide) (by decide)
 have s0:=Bn (lo:=lo) (H:=H) (q:=0) dP
 have e2:=hv.len _ (List.prefix_append H [.row 0 [aO 0] 3 true])
 simp only[Po,JI,e1,s0,e2,gB,VX,Nat.reduceEqDiff,Nat.reduceAdd,Nat.reduceLeDiff,Nat.reduceLT,Nat.reduceSub]
 refine aU (fun(i:Nat) ρ H1=>i≤m.length∧H <+: H1∧aF H1 H.length 0=some ([aO (jM m i)],3,true)∧ρ 0=v∧ρ 3 = .ptr H.length 0 0 0∧ρ 12=v∧ρ 13=VI m.length∧ρ 14=VI i) (fun i=>m.length-i) 0 ⟨Nat.zero_le _,List.prefix_append _ _,fW,rfl,rfl,rfl,rfl,rfl⟩ ?_
 rintro i ρ H1 ⟨hi,hp,NT,g0,g3,g12,g13,g14⟩
 have xR:=fE NT
 by_cases cS:(i:Int)<(m.length:Int)
 ·obtain⟨r,hr⟩:∃r,m[i]? = some r:=⟨_,List.getElem?_eq_getElem (by omega)⟩
  have Hl:=hb r (List.mem_of_getElem? hr)
  obtain⟨p,w,a1,a2,hw⟩:=hv.get H1 hp i r hr
  have wi:IntKind.i64.wrap ((i:Int)+1)=((i+1:Nat):Int):=wrapN (i+1) (by omega) (by omega)
  have B2:r.length*(B+1)≤100*(B+1):=Nat.mul_le_mul_right _ (by omega)
  simp only[CD,g0,g3,g12,g13,g14,cS,a1,a2,gB,VX,Nat.reduceEqDiff,Nat.reduceAdd,Nat.reduceLeDiff,Nat.reduceLT,Nat.reduceSub]
  refine oU rfl (Mk (H:=H1) r hw (by omega) Hl.2 (by omega) (by omega) (by omega)) fun x L hx => ?_
  subst hx
  have KT:=bN (L:=L) NT
  have Uz:=qW (L:=L) hp
  have Dq:H1.length≤(H1++L).length:=by rw[List.length_append];omega
  generalize H1++L=H2 at *
  have s1:=Bn (lo:=lo) (H:=H2) (q:=gY r) (by omega)
  have s2:=Lg (H:=H2) (K:=[]) (q:=gY r)
  have s3:bX true 3 (.ptr H.length 0 0 0) (H2++[bT.row 0 [aO (gY r)] 3 true])=some (aO (jM m i)):=by
   rw[bM,bN KT]
   exact dQ _
  have b1:=B5 Hl.2 (Nat.le_of_eq Hl.1)
  have b2:=xX vZ i
  have e3:=MV (gY r) (jM m i) (by omega) (by omega)
  have C2:=AK hr
  by_cases hc:jM m i<gY r
  ·have VE:=XV.2 hc
   rw[if_pos hc] at C2
   have s4:=bO (lo:=lo) (v:=aO (gY r)) (j:=0) (bN (L:=[.row 0 [aO (gY r)] 3 true]) KT) (by exact Nat.zero_lt_one) dP rfl rfl
   rw[List.set_cons_zero] at s4
   simp only[g0,g3,g12,g13,g14,s1,s2,s3,s4,e3,VE,wi,gB,VX,Nat.reduceEqDiff,Nat.reduceAdd,Nat.reduceLeDiff,Nat.reduceLT,Nat.reduceSub]
   exact⟨i+1,by omega,by omega,vW (qW Uz) (Nat.le_refl _),by rw[C2];exact cJ (bN KT),by (repeat' apply And.intro)<;>first | rfl | trivial | assumption⟩
  ·have VE:=mt XV.1 hc
   rw[if_neg hc] at C2
   simp only[g0,g3,g12,g13,g14,s1,s2,s3,e3,VE,wi,gB,VX,Nat.reduceEqDiff,Nat.reduceAdd,Nat.reduceLeDiff,Nat.reduceLT,Nat.reduceSub]
   exact⟨i+1,by omega,by omega,qW Uz,by rw[C2];exact bN KT,by (repeat' apply And.intro)<;>first | rfl | trivial | assumption⟩
 ·have mT:i=m.length:=by omega
  subst mT
  have e0:∀K,lG false [.slice none 0 0] 0 [] K=some (.ref K.length 0 0 0 0,K++[.row 0 [] 1 true]):=fun K=>jH rfl
  have e3:=hv.len _ (qW (L:=[.row 0 [] 1 true]) hp)
  simp only[CD,g0,g3,g12,g13,g14,cS,e0,e3,gB,VX,Nat.reduceEqDiff,Nat.reduceAdd,Nat.reduceLeDiff,Nat.reduceLT,Nat.reduceSub]
  have NT:aF H1 H.length 0=some ([aO (gG m)],3,true):=NT
  have bm:=xX vZ m.length
  rw[←gG] at bm
  refine aU (fun(i:Nat) ρ H2=>i≤m.length∧H <+: H2∧aF H2 H.length 0=some ([aO (gG m)],3,true)∧(∃rs,rs.length=i∧rs.map (·.xs)=(uE m).take i∧MG aO 3 H1.length H2.length H1.length i H2 rs)∧ρ 3 = .ptr H.length 0 0 0∧ρ 7 = .ref H1.length i 0 i i∧ρ 27=v∧ρ 28=VI m.length∧ρ 29=VI i) (fun i=>m.length-i) 0
   ⟨Nat.zero_le _,qW hp,bN NT,⟨[],rfl,rfl,fW,Nat.le_refl _,by simp,by simp,by simp⟩,by (repeat' apply And.intro)<;>first | rfl | trivial | assumption⟩ ?_
  clear g0 g3 g12 g13 g14 cS
  rintro i ρ H2 ⟨hi,Uz,KT,⟨rs,B2,Uo,hM⟩,g3,g7,g27,g28,g29⟩
  by_cases cS:(i:Int)<(m.length:Int)
  ·obtain⟨r,hr⟩:∃r,m[i]? = some r:=⟨_,List.getElem?_eq_getElem (by omega)⟩
   have Hl:=hb r (List.mem_of_getElem? hr)
   obtain⟨p,w,a1,a2,hw⟩:=hv.get H2 Uz i r hr
   have wi:IntKind.i64.wrap ((i:Int)+1)=((i+1:Nat):Int):=wrapN (i+1) (by omega) (by omega)
   have hbh:=hM.bhi
   have s3:bX true 3 (.ptr H.length 0 0 0) H2=some (aO (gG m)):=by
    rw[bM,KT]
    exact dQ _
   simp only[B6,g3,g7,g27,g28,g29,cS,a1,a2,s3,gB,VX,Nat.reduceEqDiff,Nat.reduceAdd,Nat.reduceLeDiff,Nat.reduceLT,Nat.reduceSub]
   refine oU rfl (Ob (H:=H2) r (gG m) hd hw (by omega) (by omega) (fun q hq=>by have:=Hl.2 q hq;omega) (by omega)) fun x L3 hx => ?_
   obtain⟨bp,gp,cp,k1,k2,rfl,k3,k4⟩:=hx
   have hM3:=hM.pre (List.prefix_append H2 L3)
   have aBi:=bN (L:=L3) KT
   have hp3:=qW (L:=L3) Uz
   have hl3:H2.length≤(H2++L3).length:=by rw[List.length_append];omega
   generalize H2++L3=H3 at *
   have e4:TC 64 [VI 1] (aO 1):=sO 1 (by decide) (by decide)
   have qb:=OM Hl.2 bm
   have ahX:(r.map (· / gG m)).length*(B+(n*(B+1)+1)+1+1)≤100*(B+(n*(B+1)+1)+1+1):=Nat.mul_le_mul_right _ (by rw[List.length_map];omega)
   simp only[e4,gB,VX,Nat.reduceEqDiff,Nat.reduceAdd,Nat.reduceLeDiff,Nat.reduceLT,Nat.reduceSub]
   refine oU rfl (Mk (H:=H3) (v := .ref bp gp 0 r.length cp) (r.map (· / gG m)) (Rd.row k4 (List.length_map ..).symm) (by omega) qb (by omega) (by omega) (by rw[List.length_map];omega)) fun x L4 hx => ?_
   subst hx
   have hM4:=hM3.pre (List.prefix_append H3 L4)
   have aAq:=bN (L:=L4) aBi
   have hp4:=qW (L:=L4) hp3
   have hl4:H3.length≤(H3++L4).length:=by rw[List.length_append];omega
   have k5:=bN (L:=L4) k4
   generalize H3++L4=H4 at *
   have b3:=B5 (n:=n) qb (Nat.le_of_eq (by rw[List.length_map];exact Hl.1))
   have aCn:n*(B+(n*(B+1)+1)+1+1)≤100*(B+(n*(B+1)+1)+1+1):=Nat.mul_le_mul_right _ hn
   have e5:=NI 1 (gY (r.map (· / gG m))) (by rw[I2];omega) (by omega)
   have a3:=bD (o:=0) (n:=r.length) (c:=cp) (i:=i) (k := .i64) k5 (by omega)
   rw[Nat.zero_add] at a3
   have s5:=fA (lo:=lo) (f:=aO) (x:=1-gY (r.map (· / gG m))) (j:=i) k5 (by rw[List.length_map];omega) (by omega) rfl rfl
   have hM5:=hM4.cG (H':=H4.set bp (.row gp ((rL (gG m) i r).map aO) 3 true)) (dD.set (by omega))
   have k6:=cJ (g:=gp) (e:=3) (w:=true) (es:=(rL (gG m) i r).map aO) k5
   have hel:(rL (gG m) i r).length=r.length:=by rw[rL,List.length_set,List.length_map]
   have hk6:=fE k6
   obtain⟨ap,hM6⟩:=hM5.snoc (kE:=lo) B2.symm (by omega) (by omega) ⟨bp,gp,cp,rL (gG m) i r⟩ k1 (by simp only[hel];rw[List.length_map] at k3;exact k3) k6
   simp only[hel] at ap
   have eL:∀K,lG false [.slice none 0 0] 1 [(0,.ref bp gp 0 r.length cp)] K=some (.tree [.ref bp gp 0 r.length cp] (.cl 1),K):=fun K=>gW rfl rfl rfl
   have eS:∀K,cW 1 (.tree [.ref bp gp 0 r.length cp] (.cl 1)) K=some [.ref bp gp 0 r.length cp]:=fun K=>dZ rfl rfl
   have s5':bI lo 3 (.ptr bp gp i 0) (aO (1-gY (r.map (· / gG m)))) H4=some (H4.set bp (.row gp ((rL (gG m) i r).map aO) 3 true)):=s5
   simp only[g7,e5,a3,s5',eL,eS,ap,wi,g29,gB,VX,Nat.reduceEqDiff,Nat.reduceAdd,Nat.reduceLeDiff,Nat.reduceLT,Nat.reduceSub]
   refine⟨i+1,by omega,by omega,vW (vW hp4 (by omega)) (by omega),bF (by omega) (bF (by omega) aAq),⟨rs++[⟨bp,gp,cp,rL (gG m) i r⟩],by rw[List.length_append,B2];rfl,?_,?_⟩,by (repeat' apply And.intro)<;>first | rfl | trivial | assumption⟩
   ·have uC:(uE m)[i]? = some (rL (gG m) i r):=by
     rw[uE,EN (by omega),List.getD_eq_getElem?_getD,hr]
     rfl
    rw[iD uC,List.map_append,Uo]
    rfl
   ·exact hM6.wide (Nat.le_refl _) (by simp)
  ·have mT:i=m.length:=by omega
   subst mT
   rw[List.take_of_length_le (by rw[uE,AG];exact Nat.le_refl _)] at Uo
   simp only[B6,g3,g7,g27,g28,g29,cS,gB,VX,Nat.reduceEqDiff,Nat.reduceAdd,Nat.reduceLeDiff,Nat.reduceLT,Nat.reduceSub]
   have hel:(uE m).length=m.length:=by rw[uE,AG]
   exact⟨Uz,H1.length,m.length,m.length,rs,by rw[hel],by rw[hel];exact Nat.le_refl _,hM.wide hp.length_le (Nat.le_refl _),Uo⟩
end Go.PM
namespace Go.PM
open Go.Lib
theorem akG {lo hi:Nat} {H:aA}:CG [] lo hi H (.agg [.tree [] .nil]):=⟨_,rfl,.inl ⟨rfl,rfl⟩⟩
abbrev AF:bT := .row 0 [.tree [] .nil] 1 true
theorem WD {n t:Nat} {F:Nat} {args iQ:List VV} {bK:List (List ByteArray)} {ok:Bool} {H:aA} {K:VV→aA→Prop} (h:FC F iQ (YZ (CG bK) ok)) (Ag:Eo.contains F=true) (hf:args.mapM (PM.fz depth H)=some iQ) (hr:aF H t 0=some ([.tree [] .nil],1,true)) (hnt:n≤t)
  (hk:∀v H2 H3,bI n 1 (.ptr t 0 0 0) v H2=some H3→bX true 1 (.ptr t 0 0 0) H3=some v→(∃L',HB H3 (List.replicate n .dead++L')∧eG n (.dR [v,.sc (.bool ok)])=true∧dS n L'=true∧YZ (CG bK) ok n (.dR [v,.sc (.bool ok)]) L')→K (.dR [v,.sc (.bool ok)]) H2) :
  cV F args n H K:=by
 refine h.TP Ag hf ?_
 rintro r L ⟨v,rfl,hv⟩ Fy hL
 have hv:=hv.cG dD.move
 rw[←List.length_append] at hv
 have ht:=fE hr
 obtain⟨c,rfl,h1,h2,h3⟩:=hv.own (n:=n) (by omega)
 have hL':dS n L=true:=HK (by omega) hL
 refine hk (.agg [c]) _ ((H++L).set t (.row 0 [.agg [c]] 1 true)) ?_ ?_ ?_
 ·rw[bO (bN hr) (by exact Nat.zero_lt_one) hnt rfl (by simp[aB,h1])]
  rfl
 ·rw[bM,cJ (bN hr)]
  rfl
 ·exact aoK (k:=H.length) (lo:=H.length) (hi:=(H++L).length) (by omega) (by rw[List.length_set,List.length_append];omega) ((zM.start.asD hL').set (by omega)) (by simp[eG,nY,h3]) CG.cG CG.wide (hv.cG (dD.set (by omega))) (Nat.le_refl _) (by rw[List.length_set];exact Nat.le_refl _)
theorem Qc {n t:Nat} {H:aA} {bK:Option (List (List ByteArray))} (hr:aF H t 0=some ([.tree [] .nil],1,true)) (hnt:n≤t) (hv:bK=none) :
  bI n 1 (.ptr t 0 0 0) (.agg [.tree [] .nil]) H=some (H.set t (.row 0 [.agg [.tree [] .nil]] 1 true))∧bX true 1 (.ptr t 0 0 0) (H.set t (.row 0 [.agg [.tree [] .nil]] 1 true))=some (.agg [.tree [] .nil]) ∧
  ∃L,HB (H.set t (.row 0 [.agg [.tree [] .nil]] 1 true)) (List.replicate n .dead++L)∧eG n (.dR [.agg [.tree [] .nil],.sc (.bool false)])=true∧dS n L=true∧YZ (CG (bK.getD [])) bK.isSome n (.dR [.agg [.tree [] .nil],.sc (.bool false)]) L:=by
 subst hv
 refine⟨?_,?_,_,Bj (by rw[List.length_set];have:=fE hr;omega),rfl,Bt,_,rfl,akG⟩
 ·rw[bO hr (by exact Nat.zero_lt_one) hnt rfl rfl]
  rfl
 ·rw[bM,cJ hr]
  rfl
theorem Jt {a:Nat} (h:a≤12):a*(665+1)+1≤7993:=by omega
theorem Uk {qs:List Rat} (h:∀q∈qs,0≤q):0≤gY qs:=by
 have key:∀i,i≤qs.length→0≤gY (qs.take i):=by
  intro i
  induction i with
  | zero=>intro _;show (0:Rat)≤0;exact Rat.le_refl
  |
   succ i ih =>
   intro hi
   have hq:qs[i]? = some qs[i]:=List.getElem?_eq_getElem (by omega)
   rw[EV hq]
   have h1:=ih (by omega)
   have h2:=h _ (List.getElem_mem (by omega:i<qs.length))
   grind
 have:=key qs.length (Nat.le_refl _)
 rwa [List.take_length] at this
theorem Mu {m:List (List Rat)} (h:∀r∈m,0≤gY r):∀i,0≤jM m i∧0≤gY ((m.map gY).take i)∧(gY ((m.map gY).take i)=0↔jM m i=0)∧(((m.take i).any fun r => !decide (gY r=0)) = !decide (jM m i=0))
 | 0=>⟨Rat.le_refl,Rat.le_refl,⟨fun _=>rfl,fun _=>rfl⟩,rfl⟩
 |
  i+1=>by
  obtain⟨h1,h2,h3,h4⟩:=Mu h i
  cases hr:m[i]? with
  |
   none =>
   have e1:jM m (i+1)=jM m i:=by unfold jM;rw[List.take_add_one,hr];simp
   have e2:(m.map gY).take (i+1)=(m.map gY).take i:=by rw[List.take_add_one,List.getElem?_map,hr];simp
   have e3:m.take (i+1)=m.take i:=by rw[List.take_add_one,hr];simp
   rw[e1,e2,e3]
   exact⟨h1,h2,h3,h4⟩
  |
   some r =>
   have h0:=h r (List.mem_of_getElem? hr)
   have Fy:(m.map gY)[i]? = some (gY r):=by rw[List.getElem?_map,hr];rfl
   rw[AK hr,EV Fy,iD hr,List.any_append,h4]
   simp only[List.any_cons,List.any_nil,Bool.or_false]
   by_cases hc:jM m i<gY r
   ·rw[if_pos hc]
    have hp:¬gY r=0:=by grind
    have hs:¬gY ((m.map gY).take i)+gY r=0:=by grind
    refine⟨h0,by grind,⟨fun h=>absurd h hs,fun h=>absurd h hp⟩,by simp[hp]⟩
   ·rw[if_neg hc]
    refine⟨h1,by grind,?_,?_⟩
    ·constructor
     ·intro h;exact h3.1 (by grind)
     ·intro h;have:=h3.2 h;grind
    ·by_cases hz:jM m i=0
     ·have:gY r=0:=by grind
      simp[hz,this]
     ·simp[hz]
theorem Iq {m:List (List Rat)} {n B:Nat} (hm:m.length=n) (hb:∀r∈m,r.length=n∧∀q∈r,bP q≤B) (hn:n≤100) (hB:B≤1000000):(uE m).length=n∧∀r∈uE m,r.length=n∧∀q∈r,bP q≤100000000000:=by
 refine⟨by rw[uE,AG,hm],fun r hr => ?_⟩
 obtain⟨i,hi,rfl⟩:=Hy.1 hr
 have hgi:m[i]? = some m[i]:=List.getElem?_eq_getElem hi
 have Hl:=hb _ (List.getElem_mem hi)
 rw[List.getD_eq_getElem?_getD,hgi,Option.getD_some]
 have bm:=xX (n:=n) (B:=B) (fun r hr=>⟨Nat.le_of_eq (hb r hr).1,(hb r hr).2⟩) m.length
 rw[←gG] at bm
 have qb:=OM Hl.2 bm
 have hl:(m[i].map (· / gG m)).length=n:=by rw[List.length_map];exact Hl.1
 have b3:=B5 qb (Nat.le_of_eq hl)
 have m1:n*(B+1)≤100*(B+1):=Nat.mul_le_mul_right _ hn
 have m2:n*(B+(n*(B+1)+1)+1+1)≤100*(B+(n*(B+1)+1)+1+1):=Nat.mul_le_mul_right _ hn
 have b4:=Ye 1 (gY (m[i].map (· / gG m)))
 rw[I2] at b4
 refine⟨by rw[rL,List.length_set,hl],agD (fun q hq => ?_) (by omega)⟩
 have:=qb q hq
 omega
end Go.PM
namespace Go.PM
abbrev Fil:=Nat×Nat×Rat
def azY (F:Nat→Nat→Rat) (i j:Nat) (q:Rat) (a b:Nat):Rat:=if i≠j∧a=i∧b=j then F a b+q else F a b
def avU (F:Nat→Nat→Rat) (L:List Fil):Nat→Nat→Rat:=L.foldl (fun F t=>azY F t.1 t.2.1 t.2.2) F
def JK (L:List Fil):Nat→Nat→Rat:=avU (fun _ _=>0) L
theorem akT {qs:List Rat} (h:∀q∈qs,0≤q) {q:Rat} (hq:q∈qs):q≤gY qs:=by
 have key:∀i,i≤qs.length→0≤gY (qs.take i)∧∀p∈qs.take i,p≤gY (qs.take i):=by
  intro i
  induction i with
  | zero=>intro _;exact⟨by show (0:Rat)≤0;exact Rat.le_refl,by simp⟩
  |
   succ i ih =>
   intro hi
   have hq:qs[i]? = some qs[i]:=List.getElem?_eq_getElem (by omega)
   obtain⟨h1,h2⟩:=ih (by omega)
   have h3:=h _ (List.getElem_mem (by omega:i<qs.length))
   rw[EV hq]
   refine⟨by grind,fun p hp => ?_⟩
   rw[iD hq] at hp
   rcases List.mem_append.1 hp with hp | hp
   ·have:=h2 p hp
    grind
   ·rw[List.mem_singleton] at hp
    subst hp
    grind
 have:=(key qs.length (Nat.le_refl _)).2
 rw[List.take_length] at this
 exact this q hq
end Go.PM
namespace Go.PM
def GD (F:Nat→Nat→Rat) (i j:Nat) (y:Rat) (a b:Nat):Rat:=if a=i∧b=j then y else F a b
def Tb (f:Rat→VV) (lo hi N M b g:Nat) (F:Nat→Nat→Rat) (H:aA):Prop:=∃rs,MG f 3 lo hi b g H rs∧rs.map (·.xs)=Uq N M F
def aqS (lo hi:Nat) (H H':aA):Prop:=H'.length=H.length∧∀b g x,b<lo∨hi≤b→aF H b g=some x→aF H' b g=some x
theorem aqS.refl {lo hi:Nat} {H:aA}:aqS lo hi H H:=⟨rfl,fun _ _ _ _ h=>h⟩
section
variable {f:Rat→VV} {lo hi N M b g:Nat} {F:Nat→Nat→Rat} {H H':aA}
theorem Tb.cG (h:Tb f lo hi N M b g F H) (hk:dD lo hi H H'):Tb f lo hi N M b g F H':=by
 obtain⟨rs,h1,h2⟩:=h
 exact⟨rs,h1.cG hk,h2⟩
theorem Tb.pre (h:Tb f lo hi N M b g F H) (hh:H <+: H'):Tb f lo hi N M b g F H':=h.cG (dD.pre hh)
theorem Tb.congr {G:Nat→Nat→Rat} (h:Tb f lo hi N M b g F H) (hF:∀a c,a<N→c<M→F a c=G a c):Tb f lo hi N M b g G H:=by
 obtain⟨rs,h1,h2⟩:=h
 exact⟨rs,h1,h2.trans (Pp hF)⟩
theorem Tb.lt (h:Tb f lo hi N M b g F H):lo≤b∧b<hi∧b<H.length:=by
 obtain⟨rs,h1,_⟩:=h
 exact⟨h1.blo,h1.bhi,fE h1.out⟩
theorem Tb.addr {c i:Nat} (h:Tb f lo hi N M b g F H) (oQ:i<N):bQ 1 (.ref b g 0 N c) (VI i) H=some (.ptr b g i 0):=by
 obtain⟨rs,h1,_⟩:=h
 exact h1.addr oQ
theorem Tb.len {c:Nat} (h:Tb f lo hi N M b g F H):oS (.ref b g 0 N c) H=some (VI N):=by
 obtain⟨rs,h1,_⟩:=h
 exact h1.len
theorem Tb.fz {d c:Nat} (h:Tb f lo hi N M b g F H) (hc:N≤c) (hp:∀x,aY (f x)=true):PM.fz (d+3) H (.ref b g 0 N c)=some (aK (aK f) (Uq N M F)):=by
 obtain⟨rs,h1,h2⟩:=h
 have hl:=congrArg List.length h2
 rw[List.length_map,K1] at hl
 rw[←h2,←hl]
 exact h1.fz (by omega) hp
theorem TabIs.tb {v:VV} (h:TabIs f 3 (Uq N M F) lo hi H v):∃b g c,v = .ref b g 0 N c∧N≤c∧Tb f lo hi N M b g F H:=by
 obtain⟨b,g,c,rs,h1,h2,h3,h4⟩:=h
 rw[K1] at h1 h2
 exact⟨b,g,c,h1,h2,rs,h3,h4⟩
theorem Tb.spot {i j:Nat} (h:Tb f lo hi N M b g F H) (oQ:i<N) (hj:j<M) (hfs:∀x,(aB (f x)).length=3) (hfa:∀x,(aB (f x)).all bY=true) :
  ∃rb rg rc,bX false 1 (.ptr b g i 0) H=some (.ref rb rg 0 M rc)∧bQ 3 (.ref rb rg 0 M rc) (VI j) H=some (.ptr rb rg j 0)∧(∀ag,bX ag 3 (.ptr rb rg j 0) H=dF ag 3 (f (F i j)) 0) ∧
  ∀kE y,kE≤lo→∃H',bI kE 3 (.ptr rb rg j 0) (f y) H=some H'∧aqS lo hi H H'∧Tb f lo hi N M b g (GD F i j y) H'∧∀k,bX false 1 (.ptr b g k 0) H'=bX false 1 (.ptr b g k 0) H:=by
 obtain⟨rs,hM,hx⟩:=h
 have hl:=congrArg List.length hx
 rw[List.length_map,K1] at hl
 obtain⟨r,hr⟩:∃r,rs[i]? = some r:=⟨_,List.getElem?_eq_getElem (by omega)⟩
 have NV:r.xs=vec M (F i):=by
  have h1:(rs.map (·.xs))[i]? = some r.xs:=by rw[List.getElem?_map,hr];rfl
  rw[hx,WM oQ] at h1
  exact(Option.some.inj h1).symm
 have B2:r.xs.length=M:=by rw[NV,AG]
 have hgj:r.xs[j]? = some (F i j):=by rw[NV,EN hj]
 refine⟨r.b,r.g,r.c,?_,hM.at hr hj,fun ag=>hM.get hr hgj,fun kE y dP => ?_⟩
 ·have:=hM.cell hr
  rw[B2] at this
  exact this
 ·have h1:=hM.put (j:=j) (kE:=kE) (y:=y) hr (by omega) dP (hfs y) (hfa y)
  have h2:=hM.set (ys:=r.xs.set j y) hr (by rw[List.length_set])
  have Hl:=hM.rows.row r (List.mem_of_getElem? hr)
  refine⟨_,h1,⟨by rw[List.length_set],fun b' g' x vZ QI=>bF (by have h7:=Hl.1;have h8:=Hl.2.1;omega) QI⟩,⟨_,h2,?_⟩,fun k => ?_⟩
  ·have e:(rs.set i { r with xs:=r.xs.set j y }).map (fun r:xO Rat=>r.xs)=(rs.map (fun r:xO Rat=>r.xs)).set i (r.xs.set j y):=List.map_set
   rw[e,hx,NV,Qw,ahU]
   exact Pp fun a c _ _=>by unfold GD;by_cases ha:a=i<;>by_cases hc:c=j<;>simp[ha,hc]
  ·rw[bM,bM,bF Hl.2.2.1 hM.out,hM.out]
end
theorem TD {N:Nat}:List.replicate N (List.replicate N (0:Rat))=Uq N N fun _ _=>0:=YS
end Go.PM
namespace Go.PM
open Go.Lib
end Go.PM
namespace Go.PM
def hJ (s:ES):Option (List Rat×List Rat):=if (1≤s.u.length∧s.u.length≤20)∧s.d.length=s.u.length then
  match Al s.u,Al s.d with
  | some u,some d=>if (u.any fun q=>decide (q≤0))=false∧(d.any fun q=>decide (q≤0))=false then some (u,d) else none
  | _,_=>none
 else none
def KY (s:ES):VV:=match hJ s with
 | some x => .dR [.agg [aK aO x.1,aK aO x.2],VB true]
 | none => .dR [.agg [.tree [] .op,.tree [] .op],VB false]
theorem Ny (s:ES):aY (A3 s)=true:=by
 show aP [fH s.u,fH s.d]=true
 exact rO (fB _) (fB _)
theorem aeL (s:ES):hC (KY s)=true:=by
 unfold KY
 split
 ·refine wC ?_ rfl
  show qD [aK aO _,aK aO _]=true
  simp only[qD,E1,Bool.and_self]
 ·exact wC (by decide) rfl
theorem aeX {H:aA}:PM.fz depth H (.dR [.agg [.tree [] .nil,.tree [] .nil],VB false])=some (.dR [.agg [.tree [] .op,.tree [] .op],VB false]):=by
 refine bZ (d:=6) (QD (d:=5) ?_) (aM (v:=VB false) rfl)
 rw[List.mapM_cons,Ri,List.mapM_cons,Ri]
 rfl
set_option maxHeartbeats 4000000 in
theorem On (s:ES) (hu:∀x∈s.u,x.size≤1000000000) (hd:∀x∈s.d,x.size≤1000000000) (hn:s.u.length≤1000000000∧s.d.length≤1000000000):TC 84 [A3 s] (KY s):=by
 refine TC.walk ⟨true,false⟩ N3 rfl (Nat.le_of_ble_eq_true rfl) (Gp (Ny _)) (aeL _) ?_
 have bad:hJ s=none→∀K,PM.fz depth K (.dR [.agg [.tree [] .nil,.tree [] .nil],VB false])=some (KY s):=fun h K=>by
  have:KY s = .dR [.agg [.tree [] .op,.tree [] .op],VB false]:=by unfold KY;rw[h]
  rw[this]
  exact aeX
 have st:∀a b,bI 0 2 (.ptr 0 0 0 0) (.agg [.tree a .op,.tree b .op]) [.row 0 [.agg [.tree [] .nil,.tree [] .nil]] 2 true]=some [.row 0 [.agg [.tree a .op,.tree b .op]] 2 true]:=fun a b=>by
  rw[bO (e:=2) aQ (by exact Nat.zero_lt_one) (Nat.le_refl _) rfl rfl]
  rfl
 have Kv:bI 0 2 (.ptr 0 0 0 0) (.agg [.tree [] .nil,.tree [] .nil]) [.row 0 [.agg [.tree [] .nil,.tree [] .nil]] 2 true]=some [.row 0 [.agg [.tree [] .nil,.tree [] .nil]] 2 true]:=by
  rw[bO (e:=2) aQ (by exact Nat.zero_lt_one) (Nat.le_refl _) rfl rfl]
  rfl
 have ld:∀a b k,bX true 2 (.ptr 0 0 0 0) [.row 0 [.agg [.tree a k,.tree b k]] 2 true]=some (.agg [.tree a k,.tree b k]):=fun a b k=>by
  rw[bM,aQ]
  rfl
 by_cases h1:(s.u.length:Int)<1
 ·have bad:=bad (by unfold hJ;exact if_neg (by omega))
  simp only[jT,gC,A3,h1,Kv,ld,kA,List.getElem?_cons_zero,List.getElem?_cons_succ,Nat.zero_add,List.nil_append,List.length_nil,gB,VX,Nat.reduceEqDiff,Nat.reduceAdd,Nat.reduceLeDiff,Nat.reduceLT,Nat.reduceSub]
  exact bad _
 by_cases h6:(20:Int)<(s.u.length:Int)
 ·have bad:=bad (by unfold hJ;exact if_neg (by omega))
  simp only[jT,gC,A3,h1,h6,Kv,ld,kA,List.getElem?_cons_zero,List.getElem?_cons_succ,Nat.zero_add,List.nil_append,List.length_nil,gB,VX,Nat.reduceEqDiff,Nat.reduceAdd,Nat.reduceLeDiff,Nat.reduceLT,Nat.reduceSub]
  exact bad _
 by_cases he:(s.d.length:Int)=(s.u.length:Int)
 case neg =>
  have bad:=bad (by unfold hJ;exact if_neg (by omega))
  simp only[jT,gC,A3,h1,h6,he,Kv,ld,kA,List.getElem?_cons_zero,List.getElem?_cons_succ,Nat.zero_add,List.nil_append,List.length_nil,ne_eq,not_false_eq_true,decide_true,gB,VX,Nat.reduceEqDiff,Nat.reduceAdd,Nat.reduceLeDiff,Nat.reduceLT,Nat.reduceSub]
  exact bad _
 have zY:(1≤s.u.length∧s.u.length≤20)∧s.d.length=s.u.length:=by omega
 have e1:=JC s.u hn.1 hu
 have e2:=JC s.d hn.2 hd
 cases R0:Al s.u with
 |
  none =>
  rw[R0,Gy] at e1
  have bad:=bad (by unfold hJ;rw[if_pos zY,R0])
  cases wV:Al s.d with
  |
   none =>
   rw[wV,Gy] at e2
   simp only[jT,gC,A3,h1,h6,he,e1,e2,Kv,ld,kA,List.getElem?_cons_zero,List.getElem?_cons_succ,Nat.zero_add,List.nil_append,List.length_nil,ne_eq,not_true_eq_false,decide_false,gB,VX,Nat.reduceEqDiff,Nat.reduceAdd,Nat.reduceLeDiff,Nat.reduceLT,Nat.reduceSub]
   exact bad _
  |
   some d =>
   rw[wV,Gg] at e2
   simp only[jT,gC,A3,h1,h6,he,e1,e2,Kv,ld,kA,List.getElem?_cons_zero,List.getElem?_cons_succ,Nat.zero_add,List.nil_append,List.length_nil,ne_eq,not_true_eq_false,decide_false,gB,VX,Nat.reduceEqDiff,Nat.reduceAdd,Nat.reduceLeDiff,Nat.reduceLT,Nat.reduceSub]
   exact bad _
 |
  some u =>
  rw[R0,Gg] at e1
  obtain⟨hub,Pl,ayL⟩:=uT R0
  cases wV:Al s.d with
  |
   none =>
   rw[wV,Gy] at e2
   have bad:=bad (by unfold hJ;rw[if_pos zY,R0,wV])
   simp only[jT,gC,A3,h1,h6,he,e1,e2,Kv,ld,kA,List.getElem?_cons_zero,List.getElem?_cons_succ,Nat.zero_add,List.nil_append,List.length_nil,ne_eq,not_true_eq_false,decide_false,gB,VX,Nat.reduceEqDiff,Nat.reduceAdd,Nat.reduceLeDiff,Nat.reduceLT,Nat.reduceSub]
   exact bad _
  |
   some d =>
   rw[wV,Gg] at e2
   obtain⟨hdb,Uv,avV⟩:=uT wV
   have e3:=qG u 158 (fun q=>decide (q≤0)) (fun q _=>Ed q) (by omega)
   have e4:=qG d 158 (fun q=>decide (q≤0)) (fun q _=>Ed q) (by omega)
   cases hau:u.any (fun q=>decide (q≤0)) with
   |
    true =>
    rw[hau] at e3
    have bad:=bad (by unfold hJ;rw[if_pos zY,R0,wV];exact if_neg (fun h=>by rw[hau] at h;cases h.1))
    simp only[jT,gC,A3,h1,h6,he,e1,e2,e3,Kv,ld,kA,List.getElem?_cons_zero,List.getElem?_cons_succ,Nat.zero_add,List.nil_append,List.length_nil,ne_eq,not_true_eq_false,decide_false,gB,VX,Nat.reduceEqDiff,Nat.reduceAdd,Nat.reduceLeDiff,Nat.reduceLT,Nat.reduceSub]
    exact bad _
   |
    false =>
    rw[hau] at e3
    cases had:d.any (fun q=>decide (q≤0)) with
    |
     true =>
     rw[had] at e4
     have bad:=bad (by unfold hJ;rw[if_pos zY,R0,wV];exact if_neg (fun h=>by rw[had] at h;cases h.2))
     simp only[jT,gC,A3,h1,h6,he,e1,e2,e3,e4,Kv,ld,kA,List.getElem?_cons_zero,List.getElem?_cons_succ,Nat.zero_add,List.nil_append,List.length_nil,ne_eq,not_true_eq_false,decide_false,gB,VX,Nat.reduceEqDiff,Nat.reduceAdd,Nat.reduceLeDiff,Nat.reduceLT,Nat.reduceSub]
     exact bad _
    |
     false =>
     rw[had] at e4
     have uU:KY s = .dR [.agg [aK aO u,aK aO d],VB true]:=by
      have:hJ s=some (u,d):=by unfold hJ;rw[if_pos zY,R0,wV];exact if_pos ⟨hau,had⟩
      unfold KY
      rw[this]
     rw[uU]
     simp only[jT,gC,A3,h1,h6,he,e1,e2,e3,e4,st,ld,kA,List.getElem?_cons_zero,List.getElem?_cons_succ,Nat.zero_add,List.nil_append,List.length_nil,ne_eq,not_true_eq_false,decide_false,gB,VX,Nat.reduceEqDiff,Nat.reduceAdd,Nat.reduceLeDiff,Nat.reduceLT,Nat.reduceSub]
     exact aL (rO (rO (lJ u) (lJ d)) rfl)
theorem CV (u d:List Rat):TC 85 [.agg [aK aO u,aK aO d]] (VI u.length):=by
 refine TC.walk ⟨true,false⟩ HG rfl (Nat.le_of_ble_eq_true rfl) (Gp (rO (lJ u) (lJ d))) rfl ?_
 simp only[CF,AH,kA,List.getElem?_cons_zero,gB,VX,Nat.reduceEqDiff,Nat.reduceAdd,Nat.reduceLeDiff,Nat.reduceLT,Nat.reduceSub]
 exact aL rfl
end Go.PM
namespace Go.PM
open Go.Lib
theorem aaO (d:Nat) (h:d≤9223372036854775807):TC 219 [VI (d:Int)] (bC (decDigits d)):=by
 have:=N8 (d:Int) (by omega) (by omega)
 rw[if_neg (by omega),List.nil_append,Int.natAbs_natCast] at this
 exact this
theorem adU {n i:Nat} (hi:i+1=(aC 1000000000 n).length):n / 1000000000^i=n / 1000000000^i % 1000000000:=by
 have h1:=Yy (b:=1000000000) (by decide) n (i+1)
 rw[List.drop_of_length_le (by omega)] at h1
 have h2:=(lU (b:=1000000000) (by decide)).1 h1.symm
 rw[sL] at h2
 rcases Nat.div_eq_zero_iff.1 h2 with h | h
 ·exact absurd h (by decide)
 ·exact(Nat.mod_eq_of_lt h).symm
theorem J4 (l:List UInt8) (a b:Nat):(⟨l.toArray⟩:ByteArray).extract a b=⟨((l.drop a).take (b-a)).toArray⟩:=by
 rw[ByteArray.ext_iff,ByteArray.data_extract]
 simp[List.extract_toArray,List.extract_eq_take_drop]
theorem aaC (l:List UInt8) {a b:Nat} (h:a≤b) (hb:b≤l.length):wE (bC l) (some (VI (a:Int))) (some (VI (b:Int)))=some (bC ((l.drop a).take (b-a))):=by
 have hs:(⟨l.toArray⟩:ByteArray).size=l.length:=by simp[ByteArray.size]
 have e1:(0:Int)≤b∧(b:Int)≤(l.length:Int):=by omega
 have e2:(0:Int)≤a∧(a:Int)≤(b:Int):=by omega
 simp only[wE,Gx,Ax,hs,eV,e1,e2,and_self,if_true,Int.toNat_natCast,J4]
theorem PA (l:List UInt8) {a:Nat} (h:a≤l.length):wE (bC l) (some (VI (a:Int))) none=some (bC (l.drop a)):=by
 have hs:(⟨l.toArray⟩:ByteArray).size=l.length:=by simp[ByteArray.size]
 have e2:(0:Int)≤a∧(a:Int)≤(l.length:Int):=by omega
 simp only[wE,Gx,Ax,hs,eV,e2,and_self,if_true,Int.toNat_natCast,J4]
 rw[List.take_of_length_le (by simp)]
theorem avY (l:List UInt8) (h:1≤l.length):wE (bC l) (some (VI 1)) none=some (bC (l.drop 1)):=PA l h
theorem X8 {a:Nat} (h:a<1000000000):IntKind.i64.wrap ((a:Int)+1000000000)=((a+1000000000:Nat):Int):=wrapN _ (by omega) (by omega)
theorem oJ (n:Nat) (hn:bl n≤2199023255552):TC 208 [cE n] (bC (decDigits n)):=by
 refine TC.walk ⟨true,false⟩ GX rfl (Nat.le_of_ble_eq_true rfl) (by simp[aP,cL]) rfl ?_
 by_cases h0:n=0
 ·subst h0
  have hl:(((aC 1000000000 0).length:Nat):Int)=0:=by rw[cH];rfl
  simp only[wK,tQ,cN,hl,VX,Nat.reduceEqDiff,Nat.reduceAdd]
  rw[iS (by decide)]
  exact aL rfl
 have hl:¬(((aC 1000000000 n).length:Nat):Int)=0:=by have:=(qT (n:=n)).2 h0;omega
 obtain⟨L,hL⟩:∃L,(aC 1000000000 n).length=L+1:=⟨(aC 1000000000 n).length-1,by omega⟩
 have Eh:=oZ (n:=n) (by omega)
 have hlT:=alB n
 have Uv:=Bb n
 have w1:IntKind.i64.wrap (((L+1:Nat):Int)-1)=(L:Int):=wrapN _ (by omega) (by omega)
 have w2:IntKind.i64.wrap (((L+1:Nat):Int)-2)=(L:Int)-1:=by rw[wrap64 (by omega) (by omega)];omega
 have at':∀i,i≤L→bQ 1 (cE n) (VI (i:Int)) []=some (.cT (tV (n / 1000000000^i % 1000000000)) 0):=fun i hi=>aJ (f:=tV) (t := .op) (H:=[]) (size:=1) (k := .i64) (Ml (b:=1000000000) (by decide) (n:=n) (i:=i) (by omega)) rfl
 have eL:=at' L (Nat.le_refl _)
 have acS:=adU (n:=n) (i:=L) (by omega)
 rw[←acS] at eL
 have Ry:n / 1000000000^L≠0:=(EU (b:=1000000000) (by decide)).1 (by omega)
 have hqT:n / 1000000000^L<1000000000:=by rw[acS];exact Nat.mod_lt _ (by decide)
 have c1:=aaO (n / 1000000000^L) (by omega)
 rw[hL] at hl
 simp only[wK,tQ,cN,hL,hl,w1,w2,eL,c1,VX,Nat.reduceEqDiff,Nat.reduceAdd]
 refine aU (fun(j:Nat) ρ H=>j≤L∧H=[]∧ρ 0=cE n∧ρ 3=bC (decDigits (n / 1000000000^j))∧ρ 4=VI ((j:Int)-1)) (fun j=>j) L ⟨Nat.le_refl _,rfl,rfl,rfl,rfl⟩ ?_
 rintro j ρ H ⟨hj,rfl,g0,g3,g4⟩
 by_cases hz:(0:Int)≤(j:Int)-1
 ·obtain⟨i,rfl⟩:∃i,j=i+1:=⟨j-1,by omega⟩
  have GI:((i+1:Nat):Int)-1=(i:Int):=by omega
  rw[GI] at g4 hz
  have e1:=at' i (by omega)
  have hm:=Nat.mod_lt (n / 1000000000^i) (show 0<1000000000 by decide)
  have hq1:n / 1000000000^(i+1)≠0:=(EU (b:=1000000000) (by decide)).1 (by omega)
  have hdm:=Nat.mod_add_div (n / 1000000000^i) 1000000000
  rw[←sL] at hdm
  have hch:=Jh (Nat.pos_of_ne_zero hq1) hm
  have hle:n / 1000000000^i≤n:=Nat.div_le_self _ _
  have hdi:=Bb (n / 1000000000^i)
  have hbi:=kP hle
  rw[show n / 1000000000^(i+1)*1000000000+n / 1000000000^i % 1000000000=n / 1000000000^i by omega] at hch
  generalize hAA:n / 1000000000^i=A at *
  generalize n / 1000000000^(i+1)=B at *
  have w4:IntKind.i64.wrap ((i:Int)-1)=(i:Int)-1:=wrap64 (by omega) (by omega)
  have c2:=aaO (A % 1000000000+1000000000) (by omega)
  rw[aiL hm] at c2
  have e2:=avY (d10 1::Dm 9 (A % 1000000000)) (by simp)
  rw[List.drop_succ_cons,List.drop_zero] at e2
  have hlen:=congrArg List.length hch
  rw[List.length_append] at hlen
  have a1:=rC (decDigits B) (Dm 9 (A % 1000000000)) (by omega)
  rw[←hch] at a1
  have ayZ:i≤L:=by omega
  have hmu:i<i+1:=by omega
  have w3:=X8 hm
  simp only[rY,g0,g3,g4,hz,e1,w3,w4,c2,e2,a1,VX,Nat.reduceEqDiff,Nat.reduceAdd]
  refine⟨i,hmu,ayZ,?_⟩
  rw[hAA]
  exact⟨rfl,rfl⟩
 ·have Wh:j=0:=by omega
  subst Wh
  rw[Nat.pow_zero,Nat.div_one] at g3
  simp only[rY,g0,g3,g4,hz,VX,Nat.reduceEqDiff,Nat.reduceAdd]
  exact aL rfl
theorem ME (q:Rat) (hk:bP q≤1099511627776):TC 188 [aH q] (VB (wX q)):=by
 refine TC.walk ⟨true,false⟩ Nt rfl (Nat.le_of_ble_eq_true rfl) (by simp[aP,nQ]) rfl ?_
 have la:=uS hk
 have lb:=vB hk
 have t1:=oJ q.num.natAbs (by omega)
 have t2:=oJ q.den (by omega)
 have hf:wX q=(decide (((decDigits q.num.natAbs).length:Int)≤200)&&decide (((decDigits q.den).length:Int)≤200)):=by
  unfold wX
  congr 1<;>exact decide_eq_decide.2 (by omega)
 rw[hf]
 by_cases hl:((decDigits q.num.natAbs).length:Int)≤200
 ·simp only[Ci,yY,t1,t2,hl,bU,cC,fT,gL,gP,aN,iJ,Nat.reduceLeDiff,Nat.reduceLT,Nat.reduceSub,VX,Nat.reduceEqDiff,Nat.reduceAdd]
  exact aL rfl
 ·simp only[Ci,yY,t1,t2,hl,bU,cC,fT,gL,gP,aN,iJ,Nat.reduceLeDiff,Nat.reduceLT,Nat.reduceSub,VX,Nat.reduceEqDiff,Nat.reduceAdd]
  exact aL rfl
theorem MF (q:Rat) (hk:bP q≤1099511627776):TC 189 [aH q] (bC (FV q)):=by
 refine TC.walk ⟨true,false⟩ Mr rfl (Nat.le_of_ble_eq_true rfl) (by simp[aP,nQ]) rfl ?_
 have la:=uS hk
 have lb:=vB hk
 have t1:=oJ q.num.natAbs (by omega)
 have t2:=oJ q.den (by omega)
 have d1:=Bb q.num.natAbs
 have d2:=Bb q.den
 have c1:∀lo H K,_:=fun lo H K=>K9 (n:=q.den) (lo:=lo) (H:=H) (K:=K) (Nat.le_of_lt (oZ (by omega)))
 have a1:dG .add (.string ⟨#[45]⟩) (.string ⟨(decDigits q.num.natAbs).toArray⟩)=some (.string ⟨(45::decDigits q.num.natAbs).toArray⟩):=rC [45] _ (by simp only[List.length_cons,List.length_nil];omega)
 have a2:dG .add (.string ⟨#[47]⟩) (.string ⟨(decDigits q.den).toArray⟩)=some (.string ⟨(47::decDigits q.den).toArray⟩):=rC [47] (decDigits q.den) (by simp only[List.length_cons,List.length_nil];omega)
 have a3:=rC (45::decDigits q.num.natAbs) (47::decDigits q.den) (by simp only[List.length_cons];omega)
 have a4:=rC (decDigits q.num.natAbs) (47::decDigits q.den) (by simp only[List.length_cons];omega)
 have hs:FV q=(if q.num<0 then (45::decDigits q.num.natAbs) else decDigits q.num.natAbs)++(if q.den=1 then [] else 47::decDigits q.den):=by
  unfold FV
  by_cases hn:q.num<0
  ·rw[if_pos hn,if_pos hn];rfl
  ·rw[if_neg hn,if_neg hn];rfl
 rw[hs]
 by_cases hd:eZ q.den 1=0
 ·rw[if_pos (BH.1 hd),List.append_nil]
  by_cases hn:q.num<0
  all_goals
   simp only[B3,zA,t1,t2,a1,a2,a3,a4,c1,hd,hn,dV,cC,fT,gL,gP,aN,iJ,Nat.reduceLeDiff,Nat.reduceLT,Nat.reduceSub,VX,Nat.reduceEqDiff,Nat.reduceAdd]
   exact aL rfl
 ·rw[if_neg (mt BH.2 hd)]
  by_cases hn:q.num<0
  all_goals
   simp only[B3,zA,t1,t2,a1,a2,a3,a4,c1,hd,hn,dV,cC,fT,gL,gP,aN,iJ,Nat.reduceLeDiff,Nat.reduceLT,Nat.reduceSub,VX,Nat.reduceEqDiff,Nat.reduceAdd]
   exact aL rfl
theorem M9 (q:Rat) (hk:bP q≤1099511627776):TC 171 [aH q] (Td q):=by
 refine TC.walk ⟨true,false⟩ Na rfl (Nat.le_of_ble_eq_true rfl) (by simp[aP,nQ]) (Y0 q) ?_
 have t1:=ME q hk
 have t2:=MF q hk
 unfold Td
 by_cases h:wX q=true
 ·rw[h] at t1
  rw[if_pos h]
  simp only[CC,yV,t1,t2,cC,iM,lE,aN,iJ,Nat.reduceLeDiff,Nat.reduceLT,Nat.reduceSub,VX,Nat.reduceEqDiff,Nat.reduceAdd]
  exact aL rfl
 ·have h':wX q=false:=by simpa using h
  rw[h'] at t1
  rw[if_neg h]
  simp only[CC,yV,t1,cC,iM,lE,aN,iJ,Nat.reduceLeDiff,Nat.reduceLT,Nat.reduceSub,VX,Nat.reduceEqDiff,Nat.reduceAdd]
  exact aL rfl
end Go.PM