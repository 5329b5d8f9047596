/- Texts of a claim, in one: part 10. -/
import Derived.KernelRfl
import Derived.Test.YtodamlihdkalfaaGreatDoorKTi
set_option linter.unusedSimpArgs false
set_option linter.unusedVariables false
namespace Go.PM
open Go.Lib
theorem BD (l:List UInt8) {i:Nat} (h:i<l.length):E0 (.string ⟨l.toArray⟩) (.int .i64 (i:Int))=some (.int .u8 ((l.getD i 0).toNat:Int)):=by
 have hs:(⟨l.toArray⟩:ByteArray).size=l.length:=by simp[ByteArray.size]
 have e1:(0:Int)≤i∧(i:Int)<(l.length:Int):=by omega
 simp only[E0,hs,e1,and_self,if_true,Int.toNat_natCast]
theorem FU (l:List UInt8) (h:0<l.length):E0 (.string ⟨l.toArray⟩) (.int .i64 0)=some (.int .u8 ((l.getD 0 0).toNat:Int)):=BD l h
theorem EV (l:List UInt8) (a b:Nat):(⟨l.toArray⟩:ByteArray).extract a b=⟨((l.drop a).take (b-a)).toArray⟩:=by
 rw[ByteArray.ext_iff,ByteArray.data_extract]
 simp[List.extract_toArray,List.extract_eq_take_drop]
theorem DJ (l:List UInt8) {a:Nat} (h:a≤l.length):sE (aQ l) (some (VI (a:Int))) none=some (aQ (l.drop a)):=by
 have hs:(⟨l.toArray⟩:ByteArray).size=l.length:=by simp[ByteArray.size]
 have e2:(0:Int)≤a∧(a:Int)≤(l.length:Int):=by omega
 simp only[sE,D5,xJ,hs,eA,e2,and_self,if_true,Int.toNat_natCast,EV]
 rw[List.take_of_length_le (by simp)]
theorem Ju (l:List UInt8) {b:Nat} (hb:b≤l.length):sE (aQ l) none (some (VI (b:Int)))=some (aQ (l.take b)):=by
 have hs:(⟨l.toArray⟩:ByteArray).size=l.length:=by simp[ByteArray.size]
 have e1:(0:Int)≤b∧(b:Int)≤(l.length:Int):=by omega
 simp only[sE,D5,xJ,hs,eA,e1,and_self,if_true,Int.toNat_natCast,EV]
 rw[List.drop_zero,Nat.sub_zero]
theorem Px (l:List UInt8):cV .eql (.string ⟨l.toArray⟩) (.string ⟨#[]⟩)=some (.bool (decide (l=[]))):=TV l []
theorem GD (l:List UInt8):cV .neq (.string ⟨l.toArray⟩) (.string ⟨#[]⟩)=some (.bool (!decide (l=[]))):=MV l []
theorem OQ (l:List UInt8):TC 229 [aQ l,aQ [45]] (VB (isNeg l)):=by
 refine TC.walk ⟨true,false⟩ pX rfl (Nat.le_of_ble_eq_true rfl) rfl rfl ?_
 have e1:yK (.string ⟨#[45]⟩)=some (.int .i64 1):=rfl
 by_cases h:(1:Int)≤(l.length:Int)
 ·have e2:=Ju l (b:=1) (by omega)
  have e2:sE (aQ l) none (some (VI 1))=some (aQ (l.take 1)):=e2
  have e3:cV .eql (.string ⟨(l.take 1).toArray⟩) (.string ⟨#[45]⟩)=some (.bool (decide (l.take 1=[45]))):=TV (l.take 1) [45]
  have e4:isNeg l=decide (l.take 1=[45]):=by
   cases l with
   | nil=>exact absurd h (by decide)
   | cons c l=>rw[DF];simp
  rw[e4]
  simp only[gG,fR,bC,e1,ge_iff_le,h,e2,e3,VX,Nat.reduceEqDiff,Nat.reduceAdd]
  exact aI rfl
 ·have e4:isNeg l=false:=by unfold isNeg;rw[decide_eq_false (by omega)];rfl
  rw[e4]
  simp only[gG,fR,bC,e1,ge_iff_le,h,VX,Nat.reduceEqDiff,Nat.reduceAdd]
  exact aI rfl
theorem Nc (l:List UInt8):TC 216 [aQ l,aQ [45]] (.dS [aQ (if isNeg l then l.drop 1 else l),VB (isNeg l)]):=by
 refine TC.walk ⟨true,false⟩ qB rfl (Nat.le_of_ble_eq_true rfl) rfl rfl ?_
 have e0:=OQ l
 have e1:yK (.string ⟨#[45]⟩)=some (.int .i64 1):=rfl
 cases h:isNeg l with
 |
  true =>
  rw[h] at e0
  have hl:1≤l.length:=by
   cases l with
   | nil=>cases h
   | cons c l=>simp
  have e2:sE (aQ l) (some (VI 1)) none=some (aQ (l.drop 1)):=DJ l (a:=1) hl
  simp only[gC,fM,e0,e1,e2,VX,Nat.reduceEqDiff,Nat.reduceAdd]
  exact aI rfl
 |
  false =>
  rw[h] at e0
  simp only[gC,fM,e0,Bool.false_eq_true,if_false,VX,Nat.reduceEqDiff,Nat.reduceAdd]
  exact aI rfl
theorem O9 (l:List UInt8):TC 168 [aQ l,aQ [45]] (.dS [aQ (if isNeg l then l.drop 1 else l),VB (isNeg l)]):=by
 refine TC.walk ⟨true,false⟩ CP rfl (Nat.le_of_ble_eq_true rfl) rfl rfl ?_
 have e0:=Nc l
 simp only[xN,tJ,e0,VX,Nat.reduceEqDiff,Nat.reduceAdd]
 exact aI rfl
theorem agY (l:List UInt8) (hl:l.length≤1000000000000):TC 215 [aQ l,aQ [47]] (.dS [aQ (kL 47 l).1,aQ ((kL 47 l).2.getD []),VB (kL 47 l).2.isSome]):=by
 refine TC.walk ⟨true,false⟩ wB rfl (Nat.le_of_ble_eq_true rfl) rfl rfl ?_
 have e0:=Z8 l 47
 have e1:yK (.string ⟨#[47]⟩)=some (.int .i64 1):=rfl
 cases h:(kL 47 l).2 with
 |
  none =>
  obtain⟨h1,h2,_⟩:=yU h
  rw[h1] at e0
  rw[h2]
  simp only[jT,iV,e0,ge_iff_le,Int.reduceNeg,Int.reduceLE,VX,Nat.reduceEqDiff,Nat.reduceAdd]
  exact aI rfl
 |
  some r =>
  obtain⟨h1,h2,_⟩:=Gl h
  rw[h1] at e0
  generalize (kL 47 l).1=a at *
  subst h2
  rw[List.length_append,List.length_cons] at hl
  have h0:(0:Int)≤(a.length:Int):=by omega
  have e2:=Ju (a++47::r) (b:=a.length) (by simp)
  have e3:=DJ (a++47::r) (a:=a.length+1) (by simp)
  rw[List.take_left] at e2
  have ed:(a++47::r).drop (a.length+1)=r:=by rw[List.drop_append];simp
  rw[ed] at e3
  have w:IntKind.i64.wrap ((a.length:Int)+1)=((a.length+1:Nat):Int):=wrapN _ (by omega) (by omega)
  simp only[jT,iV,e0,e1,ge_iff_le,h0,w,e2,e3,VX,Nat.reduceEqDiff,Nat.reduceAdd]
  exact aI rfl
theorem alH (l:List UInt8) (hl:l.length≤1000000000000):TC 167 [aQ l,aQ [47]] (.dS [aQ (kL 47 l).1,aQ ((kL 47 l).2.getD []),VB (kL 47 l).2.isSome]):=by
 refine TC.walk ⟨true,false⟩ Kv rfl (Nat.le_of_ble_eq_true rfl) rfl rfl ?_
 have e0:=agY l hl
 simp only[GH,Dv,e0,VX,Nat.reduceEqDiff,Nat.reduceAdd]
 exact aI rfl
def yQ (l:List UInt8):VV:=if gI l=true then .dS [bY (bN l),VB true] else .dS [bY 0,VB false]
theorem Vc (l:List UInt8):gA (yQ l)=true:=by
 unfold yQ
 split<;>simp[gA,oS,qF,jW]
theorem aeP {d:Nat}:fz (d+1) [.row 0 [] 1 true] (.ref 0 0 0 0 0)=some (bY 0):=by
 rw[L8]
 cases d with
 | zero=>rfl
 | succ d=>rfl
theorem JP {n:Nat} (hn:n≤9) {lo:Nat} {H:aA} {ρ:dI} {Q:VQ} (h58:ρ 58=VI n) (h59:ρ 59=VI 0) (h9:ρ 9=VK .u64 1) (hQ:∀aS,(∀t,t<9→aS t=ρ t)→aS 9=VK .u64 ((10^n:Nat):Int)→Q .normal aS H):VW ⟨true,false⟩ lo (.loop oH) (xY 4 Q) ρ H:=by
 refine aR (fun(i:Nat) aS H'=>i≤n∧H'=H∧(∀t,t<9→aS t=ρ t)∧aS 58=VI n∧aS 59=VI i∧aS 9=VK .u64 ((10^i:Nat):Int)) (fun i=>n-i) 0 ⟨Nat.zero_le _,rfl,fun _ _=>rfl,h58,h59,h9⟩ ?_
 rintro i aS H' ⟨hi,rfl,hk,g58,g59,g9⟩
 by_cases dD:(i:Int)<(n:Int)
 ·have wi:IntKind.i64.wrap ((i:Int)+1)=((i+1:Nat):Int):=wrapN (i+1) (by omega) (by omega)
  have hp:10^i≤10^8:=Nat.pow_le_pow_right (by decide) (by omega)
  have e8:(10:Nat)^8=100000000:=by decide
  have wp:IntKind.u64.wrap (((10^i:Nat):Int)*10)=((10^(i+1):Nat):Int):=by
   rw[Nat.pow_succ]
   generalize 10^i=p at *
   have:=dQ (p*10) (by omega)
   rw[Int.natCast_mul] at this
   rw[Int.natCast_mul]
   exact this
  simp only[oH,g58,g59,g9,dD,wi,wp,VX,Nat.reduceEqDiff,Nat.reduceAdd]
  refine⟨i+1,by omega,by omega,fun t ht => ?_,rfl,rfl⟩
  try simp only[sN]
  repeat rw[if_neg (by omega)]
  exact hk t ht
 ·have oJ:i=n:=by omega
  subst oJ
  simp only[oH,g58,g59,dD,VX,Nat.reduceEqDiff,Nat.reduceAdd]
  refine hQ _ (fun t ht => ?_) ?_
  ·try simp only[sN]
   repeat rw[if_neg (by omega)]
   exact hk t ht
  ·simp only[g9,VX,Nat.reduceEqDiff,Nat.reduceAdd]
theorem Yv {l:List UInt8} {i:Nat} (h:i<l.length):(l.take (i+1)).all gN=((l.take i).all gN&&gN (l.getD i 0)):=by
 rw[List.take_add_one,List.all_append]
 have:l[i]? = some (l.getD i 0):=by rw[List.getElem?_eq_getElem h,List.getD_eq_getElem?_getD,List.getElem?_eq_getElem h];rfl
 rw[this]
 simp
theorem IS {l:List UInt8} (hl:l.length≤1000000000000) {lo:Nat} {H:aA} {ρ:dI} {Q:VQ} (h0:ρ 0=aQ l) (h29:ρ 29=VI l.length) (h30:ρ 30=VI 0)
  (hR:l.all gN=false→∀aS:dI,aS 2 = .tree [] .nil→aS 3=VB false→Q .ret aS H) (hN:l.all gN=true→∀aS:dI,(∀t,t<5→aS t=ρ t)→Q .normal aS H):VW ⟨true,false⟩ lo (.loop jG) (xY 0 Q) ρ H:=by
 refine aR (fun(i:Nat) aS H'=>i≤l.length∧H'=H∧(l.take i).all gN=true∧(∀t,t<5→aS t=ρ t)∧aS 29=VI l.length∧aS 30=VI i) (fun i=>l.length-i) 0 ⟨Nat.zero_le _,rfl,rfl,fun _ _=>rfl,h29,h30⟩ ?_
 rintro i aS H' ⟨hi,rfl,hd,hk,g29,g30⟩
 have g0:=(hk 0 (by decide)).trans h0
 by_cases dD:(i:Int)<(l.length:Int)
 ·have Rn:i<l.length:=by omega
  have e1:=BD l Rn
  have wi:IntKind.i64.wrap ((i:Int)+1)=((i+1:Nat):Int):=wrapN (i+1) (by omega) (by omega)
  have ht:=Yv Rn
  rw[hd,Bool.true_and] at ht
  have RA:gN (l.getD i 0)=(decide (48≤(l.getD i 0).toNat)&&decide ((l.getD i 0).toNat≤57)):=rfl
  have nF:gN (l.getD i 0)=false→l.all gN=false:=by
   intro h
   rw[h] at ht
   rw[←List.take_append_drop (i+1) l,List.all_append,ht,Bool.false_and]
  generalize (l.getD i 0).toNat=c at *
  by_cases q1:(c:Int)<48
  ·have:=nF (by rw[RA,decide_eq_false (by omega)];rfl)
   simp only[jG,g0,g29,g30,dD,e1,q1,VX,Nat.reduceEqDiff,Nat.reduceAdd]
   exact hR this _ (by simp only[VX,Nat.reduceEqDiff,Nat.reduceAdd]) (by simp only[VX,Nat.reduceEqDiff,Nat.reduceAdd])
  ·by_cases q2:(57:Int)<(c:Int)
   ·have:=nF (by rw[RA,decide_eq_false (show ¬c≤57 by omega),Bool.and_false])
    simp only[jG,g0,g29,g30,dD,e1,q1,q2,VX,Nat.reduceEqDiff,Nat.reduceAdd]
    exact hR this _ (by simp only[VX,Nat.reduceEqDiff,Nat.reduceAdd]) (by simp only[VX,Nat.reduceEqDiff,Nat.reduceAdd])
   ·rw[RA,decide_eq_true (by omega),decide_eq_true (by omega),Bool.and_self] at ht
    simp only[jG,g0,g29,g30,dD,e1,q1,q2,wi,VX,Nat.reduceEqDiff,Nat.reduceAdd]
    refine⟨i+1,by omega,by omega,ht,fun t ht => ?_,rfl⟩
    try simp only[sN]
    repeat rw[if_neg (by omega)]
    exact hk t ht
 ·have oJ:i=l.length:=by omega
  subst oJ
  rw[List.take_length] at hd
  simp only[jG,g29,g30,dD,VX,Nat.reduceEqDiff,Nat.reduceAdd]
  refine hN hd _ fun t ht => ?_
  try simp only[sN]
  repeat rw[if_neg (by omega)]
  exact hk t ht
set_option maxHeartbeats 2000000 in
theorem Kc {l:List UInt8} (hd:l.all gN=true) (hl:l.length≤200) (eV:l≠[]) {ρ:dI} {Q:VQ} (h0:ρ 0=aQ l) (h4:ρ 4 = .ref 0 0 0 0 0)
  (hQ:∀(aS:dI),aS 4=bY (bN l)→Q .normal aS [.row 0 [] 1 false]):VW ⟨true,false⟩ 0 (.loop lD) (xY 2 Q) ρ [.row 0 [] 1 true]:=by
 refine aR (fun(s:List UInt8×List UInt8) aS H'=>l=s.1++s.2∧aS 0=aQ s.2∧((H'=[.row 0 [] 1 true]∧aS 4 = .ref 0 0 0 0 0∧s.1=[])∨(H'=[.row 0 [] 1 false]∧aS 4=bY (bN s.1)))) (fun s=>s.2.length) ([],l) ⟨rfl,h0,.inl ⟨rfl,h4,rfl⟩⟩ ?_
 rintro⟨pre,rest⟩ aS H' ⟨O8,g0,hv⟩
 simp only at O8 g0 hv
 have e1:=GD rest
 by_cases he:rest=[]
 ·subst he
  rw[List.append_nil] at O8
  subst O8
  rcases hv with⟨_,_,h⟩ | ⟨rfl,g4⟩
  ·exact absurd h eV
  have TI:cV .neq (.string ⟨#[]⟩) (.string ⟨#[]⟩)=some (.bool false):=by
   have:=GD []
   rw[decide_eq_true rfl] at this
   exact this
  simp only[lD,g0,TI,VX,Nat.reduceEqDiff,Nat.reduceAdd]
  exact hQ _ (by simp only[g4,VX,Nat.reduceEqDiff,Nat.reduceAdd])
 ·rw[O8,List.all_append,Bool.and_eq_true] at hd
  obtain⟨hd1,hd2⟩:=hd
  rw[O8,List.length_append] at hl
  have jB:0<rest.length:=List.length_pos_iff.2 he
  have TI:cV .neq (.string ⟨rest.toArray⟩) (.string ⟨#[]⟩)=some (.bool true):=by rw[e1,decide_eq_false he];rfl
  have wm:(rest.length:Int).tmod 9=((rest.length % 9:Nat):Int):=by rw[Int.tmod_eq_emod_of_nonneg (by omega)];simp
  have er:cV .rem (.int .i64 (rest.length:Int)) (.int .i64 9)=some (.int .i64 ((rest.length % 9:Nat):Int)):=by
   rw[←wm]
   rfl
  obtain⟨n,hn⟩:∃n,n=if rest.length % 9=0 then 9 else rest.length % 9:=⟨_,rfl⟩
  have hn1:1≤n∧n≤9∧n≤rest.length:=by
   rw[hn]
   split<;>omega
  obtain⟨n1,n9,nl⟩:=hn1
  have e2:=Ju rest nl
  have e3:=DJ rest nl
  have hch:(rest.take n).length=n:=by rw[List.length_take];omega
  have hcd:(rest.take n).all gN=true:=by
   rw[←List.take_append_drop n rest,List.all_append,Bool.and_eq_true] at hd2
   exact hd2.1
  have hp:=abH (rest.take n) (bN (rest.take n)) (by omega) (agV hcd (fun h=>by rw[h] at hch;simp at hch;omega) (by omega))
  have Dg:=Eb hcd
  rw[hch] at Dg
  have hp9:10^n≤10^9:=Nat.pow_le_pow_right (by decide) n9
  have e9:(10:Nat)^9=1000000000:=by decide
  have axK:bN (rest.take n)<1000000000:=by omega
  have c1:=mX (10^n) (by omega)
  have c2:=mX (bN (rest.take n)) (by omega)
  have hbp:bl (bN pre)≤665:=by
   refine Hc (Nat.lt_of_lt_of_le (Eb hd1) ?_)
   exact Nat.le_trans (Nat.pow_le_pow_right (by decide) (by omega:pre.length≤200)) (by decide +kernel)
  have hb9:bl (10^n)≤64:=Hc (by omega)
  have hbm:=aeE (bN pre) (10^n)
  have hbc:bl (bN (rest.take n))≤64:=Hc (by omega)
  have tm:=I7 (bN pre) (10^n) (C3 (by omega)) (C3 (by omega))
  have c4:=Ix (bN pre*10^n) (bN (rest.take n)) (C3 (by omega)) (C3 (by omega))
  have qN:bN pre*10^n+bN (rest.take n)=bN (pre++rest.take n):=by rw[J4,hch]
  rw[qN] at c4
  have fin:(rest.drop n).length<rest.length∧pre++rest=(pre++rest.take n)++rest.drop n:=⟨by rw[List.length_drop];omega,by rw[List.append_assoc,List.take_append_drop]⟩
  obtain⟨v4,g4,c3⟩:∃v4,aS 4=v4∧∀lo K,cM 180 [v4,bY (10^n)] lo H' K=K (bY (bN pre*10^n)) [.row 0 [] 1 false]:=by
   rcases hv with⟨rfl,g4,hp0⟩ | ⟨rfl,g4⟩
   ·refine⟨_,g4,fun lo K => ?_⟩
    subst hp0
    have:=tm.Fi (H:=[.row 0 [] 1 true]) (args:=[.ref 0 0 0 0 0,bY (10^n)]) (lo:=lo) (k:=K) rfl (by simp[aM,bQ]) (fz2 aeP (aH (bQ _))) rfl
    rw[this,show Ip (bY (bN []*10^n))=false from rfl,if_neg (by decide),List.flatMap_cons,List.flatMap_cons,List.flatMap_nil,DY (bQ _),Lj (n:=0) (c:=0) (es:=[]) (e:=1) (w:=true) aV rfl rfl]
    rfl
   ·exact⟨_,g4,fun lo K=>tm lo [.row 0 [] 1 false] K⟩
  clear hv
  obtain⟨P,hP⟩:∃P,P=10^n:=⟨_,rfl⟩
  rw[←hP] at c1 c4 c3
  have hnI:(rest.length % 9:Nat)=0∨¬(rest.length % 9:Nat)=0:=by omega
  rcases hnI with h9 | h9
  ·rw[if_pos h9] at hn
   subst hn
   have q:((rest.length % 9:Nat):Int)=0:=by omega
   have e2':sE (aQ rest) none (some (VI 9))=some (aQ (rest.take 9)):=e2
   have e3':sE (aQ rest) (some (VI 9)) none=some (aQ (rest.drop 9)):=e3
   simp only[lD,g0,g4,TI,bC,er,q,e2',hp,VX,Nat.reduceEqDiff,Nat.reduceAdd]
   refine JP (n:=9) (by decide) ?_ ?_ ?_ fun uA k1 q9 => ?_
   ·simp only[VX,Nat.reduceEqDiff,Nat.reduceAdd];rfl
   ·simp only[VX,Nat.reduceEqDiff,Nat.reduceAdd]
   ·simp only[VX,Nat.reduceEqDiff,Nat.reduceAdd]
   rw[←hP] at q9
   have u0:uA 0=aQ rest:=by rw[k1 0 (by decide)];simp only[g0,VX,Nat.reduceEqDiff,Nat.reduceAdd]
   have u4:uA 4=v4:=by rw[k1 4 (by decide)];simp only[g4,VX,Nat.reduceEqDiff,Nat.reduceAdd]
   have u6:uA 6=VI 9:=by rw[k1 6 (by decide)];simp only[VX,Nat.reduceEqDiff,Nat.reduceAdd]
   have u7:uA 7=VK .u64 (bN (rest.take 9)):=by rw[k1 7 (by decide)];simp only[VX,Nat.reduceEqDiff,Nat.reduceAdd]
   simp only[u0,u4,u6,u7,q9,c1,c2,c3,c4,e3',VX,Nat.reduceEqDiff,Nat.reduceAdd]
   exact⟨(pre++rest.take 9,rest.drop 9),fin.1,O8.trans fin.2,rfl,.inr rfl⟩
  ·rw[if_neg h9] at hn
   rw[←hn] at er
   have q:¬(n:Int)=0:=by omega
   simp only[lD,g0,g4,TI,bC,er,q,e2,hp,VX,Nat.reduceEqDiff,Nat.reduceAdd]
   refine JP (n:=n) n9 ?_ ?_ ?_ fun uA k1 q9 => ?_
   ·simp only[VX,Nat.reduceEqDiff,Nat.reduceAdd]
   ·simp only[VX,Nat.reduceEqDiff,Nat.reduceAdd]
   ·simp only[VX,Nat.reduceEqDiff,Nat.reduceAdd]
   rw[←hP] at q9
   have u0:uA 0=aQ rest:=by rw[k1 0 (by decide)];simp only[g0,VX,Nat.reduceEqDiff,Nat.reduceAdd]
   have u4:uA 4=v4:=by rw[k1 4 (by decide)];simp only[g4,VX,Nat.reduceEqDiff,Nat.reduceAdd]
   have u6:uA 6=VI n:=by rw[k1 6 (by decide)];simp only[VX,Nat.reduceEqDiff,Nat.reduceAdd]
   have u7:uA 7=VK .u64 (bN (rest.take n)):=by rw[k1 7 (by decide)];simp only[VX,Nat.reduceEqDiff,Nat.reduceAdd]
   simp only[u0,u4,u6,u7,q9,c1,c2,c3,c4,e3,VX,Nat.reduceEqDiff,Nat.reduceAdd]
   exact⟨(pre++rest.take n,rest.drop n),fin.1,O8.trans fin.2,rfl,.inr rfl⟩
set_option maxHeartbeats 2000000 in
theorem BN (l:List UInt8) (hl:l.length≤1000000000000):TC 169 [aQ l] (yQ l):=by
 refine TC.walk ⟨true,false⟩ IW rfl (Nat.le_of_ble_eq_true rfl) rfl (Vc l) ?_
 have e1:=Px l
 by_cases he:l=[]
 ·have hk:gI l=false:=by rw[he];rfl
  have TI:cV .eql (.string ⟨l.toArray⟩) (.string ⟨#[]⟩)=some (.bool true):=by rw[e1,decide_eq_true he]
  unfold yQ
  rw[hk]
  simp only[nB,kI,TI,Bool.false_eq_true,if_false,VX,Nat.reduceEqDiff,Nat.reduceAdd]
  exact bK (d:=6) xP (aH (v:=VB false) rfl)
 have jB:0<l.length:=List.length_pos_iff.2 he
 by_cases aaQ:(200:Int)<(l.length:Int)
 ·have hk:gI l=false:=by
   cases h:gI l with
   | false=>rfl
   | true=>have:=(iM.1 h).2.2.1;omega
  unfold yQ
  rw[hk]
  simp only[nB,kI,e1,he,decide_false,bC,aaQ,Bool.false_eq_true,if_false,VX,Nat.reduceEqDiff,Nat.reduceAdd]
  exact bK (d:=6) xP (aH (v:=VB false) rfl)
 have e2:=FU l jB
 by_cases hz:(((l.getD 0 0).toNat:Int)=48∧1<(l.length:Int))
 ·obtain⟨Ga,Qx⟩:=hz
  have hk:gI l=false:=by
   cases h:gI l with
   | false=>rfl
   |
    true =>
    rcases(iM.1 h).2.2.2 with h1 | h1
    ·omega
    ·exact absurd (UInt8.toNat_inj.1 (by rw[show (48:UInt8).toNat=48 from rfl];omega)) h1
  unfold yQ
  rw[hk]
  simp only[nB,kI,e1,he,decide_false,bC,aaQ,e2,Ga,Qx,Bool.false_eq_true,if_false,VX,Nat.reduceEqDiff,Nat.reduceAdd]
  exact bK (d:=6) xP (aH (v:=VB false) rfl)
 have akS:l.length=1∨l.getD 0 0≠48:=by
  by_cases h1:l.length=1
  ·exact .inl h1
  ·right
   intro h2
   apply hz
   rw[h2]
   exact⟨rfl,by omega⟩
 have e3:∀lr,jX lr [.int .u32 0] 0 [] []=some (.ref 0 0 0 0 0,[.row 0 [] 1 true]):=fun lr=>iS (H:=[]) (lr:=lr) (z:=[.int .u32 0]) rfl
 have kN:l.all gN=true→gI l=true:=fun h=>iM.2 ⟨h,jB,by omega,akS⟩
 have kF:l.all gN=false→gI l=false:=fun h=>by unfold gI;rw[h];rfl
 have rF:gI l=false→yQ l = .dS [bY 0,VB false]:=fun h=>by unfold yQ;rw[h];rfl
 have rT:gI l=true→yQ l = .dS [bY (bN l),VB true]:=fun h=>if_pos h
 by_cases hA:(((l.getD 0 0).toNat:Int)=48)
 ·have hB:¬1<(l.length:Int):=fun h=>hz ⟨hA,h⟩
  simp only[nB,kI,e1,e3,he,decide_false,bC,aaQ,e2,hA,hB,Bool.false_eq_true,if_false,VX,Nat.reduceEqDiff,Nat.reduceAdd]
  refine IS hl ?_ ?_ ?_ (fun hd uA g2 g3 => ?_) fun hd uA k1 => ?_
  ·simp only[VX,Nat.reduceEqDiff,Nat.reduceAdd]
  ·simp only[VX,Nat.reduceEqDiff,Nat.reduceAdd]
  ·simp only[VX,Nat.reduceEqDiff,Nat.reduceAdd]
  ·rw[rF (kF hd)]
   simp only[g2,g3,VX,Nat.reduceEqDiff,Nat.reduceAdd]
   exact bK (d:=6) xP (aH (v:=VB false) rfl)
  ·rw[rT (kN hd)]
   simp only[VX,Nat.reduceEqDiff,Nat.reduceAdd]
   refine Kc hd (by omega) he ?_ ?_ fun Nd g4 => ?_
   ·rw[k1 0 (by decide)];simp only[VX,Nat.reduceEqDiff,Nat.reduceAdd]
   ·rw[k1 4 (by decide)];simp only[VX,Nat.reduceEqDiff,Nat.reduceAdd]
   ·simp only[g4,VX,Nat.reduceEqDiff,Nat.reduceAdd]
    exact bK (d:=6) (aH (bQ _)) (aH (v:=VB true) rfl)
 ·simp only[nB,kI,e1,e3,he,decide_false,bC,aaQ,e2,hA,Bool.false_eq_true,if_false,VX,Nat.reduceEqDiff,Nat.reduceAdd]
  refine IS hl ?_ ?_ ?_ (fun hd uA g2 g3 => ?_) fun hd uA k1 => ?_
  ·simp only[VX,Nat.reduceEqDiff,Nat.reduceAdd]
  ·simp only[VX,Nat.reduceEqDiff,Nat.reduceAdd]
  ·simp only[VX,Nat.reduceEqDiff,Nat.reduceAdd]
  ·rw[rF (kF hd)]
   simp only[g2,g3,VX,Nat.reduceEqDiff,Nat.reduceAdd]
   exact bK (d:=6) xP (aH (v:=VB false) rfl)
  ·rw[rT (kN hd)]
   simp only[VX,Nat.reduceEqDiff,Nat.reduceAdd]
   refine Kc hd (by omega) he ?_ ?_ fun Nd g4 => ?_
   ·rw[k1 0 (by decide)];simp only[VX,Nat.reduceEqDiff,Nat.reduceAdd]
   ·rw[k1 4 (by decide)];simp only[VX,Nat.reduceEqDiff,Nat.reduceAdd]
   ·simp only[g4,VX,Nat.reduceEqDiff,Nat.reduceAdd]
    exact bK (d:=6) (aH (bQ _)) (aH (v:=VB true) rfl)
def Fa:VV := .agg [VB false,bY 0,bY 0]
def Cf (l:List UInt8):VV:=match vQ l with
 | some q => .dS [bD q,VB true]
 | none => .dS [Fa,VB false]
theorem UX:aN Fa=true:=by simp[Fa,aN,aM,bQ,jW]
theorem J0:gA Fa=true:=by simp[Fa,gA,oS,qF,jW]
theorem Q2 (l:List UInt8):gA (Cf l)=true:=by
 unfold Cf
 split<;>simp[gA,oS,Ew,J0,jW]
theorem fP {d:Nat} {H:aA}:fz (d+2) H (.agg [VB false,.tree [] .nil,.tree [] .nil])=some Fa:=pP (aH (v:=VB false) rfl) xP xP
theorem JD {neg:Bool} {t b:Nat} (hb:b≠0) (hg:Nat.gcd t b=1) (hn:¬(neg=true∧t=0)):bD (mkRat (Gh neg t) b) = .agg [VB neg,bY t,bY b]:=by
 obtain⟨e1,e2⟩:=Hv (neg:=neg) hb hg
 refine SY ?_ (by rw[e1,CB]) e2
 rw[e1]
 cases neg with
 | false=>unfold Gh;simp
 |
  true =>
  have:t≠0:=fun h=>hn ⟨rfl,h⟩
  unfold Gh
  simp
  omega
theorem QZ (l:List UInt8):vQ l=mF (isNeg (kL 47 l).1) (if isNeg (kL 47 l).1 then (kL 47 l).1.drop 1 else (kL 47 l).1) (kL 47 l).2:=by
 cases l with
 | nil=>rfl
 |
  cons c r =>
  unfold vQ
  by_cases h47:c=47
  ·subst h47
   rfl
  ·have e:kL 47 (c::r)=(c::(kL 47 r).1,(kL 47 r).2):=by rw[kL,if_neg h47]
   by_cases h45:c=45
   ·subst h45
    rw[e]
    rfl
   ·rw[e,DF,DF,decide_eq_false h45]
    simp only[Bool.false_eq_true,if_false,e]
theorem PD {c:UInt8}:∀ {l:List UInt8},(kL c l).1.length≤l.length∧∀t,(kL c l).2=some t→t.length≤l.length:=by
 intro l
 cases h:(kL c l).2 with
 | none=>rw[(yU h).2.1];exact⟨Nat.le_refl _,fun t ht=>by cases ht⟩
 |
  some r =>
  have:=congrArg List.length (Gl h).2.1
  rw[List.length_append,List.length_cons] at this
  exact⟨by omega,fun t ht=>by cases ht;omega⟩
theorem La {n:Nat}:(((aC 4294967296 n).length:Nat):Int)=0↔n=0:=by
 rw[←kD (b:=4294967296) (n:=n) (by decide),←List.length_eq_zero_iff]
 omega
set_option maxRecDepth 100000 in
set_option maxHeartbeats 4000000 in
theorem I1 (l:List UInt8) (hl:l.length≤1000000000000):TC 89 [aQ l] (Cf l):=by
 refine TC.walk ⟨true,false⟩ IL rfl (Nat.le_of_ble_eq_true rfl) rfl (Q2 l) ?_
 have e1:=alH l hl
 obtain⟨l1,l2⟩:=PD (c:=47) (l:=l)
 have hq:=QZ l
 unfold Cf
 rw[hq]
 clear hq
 generalize (kL 47 l).1=f at *
 generalize (kL 47 l).2=s2 at *
 have e2:=O9 f
 have ld:(if isNeg f=true then f.drop 1 else f).length≤f.length:=by split<;>simp
 generalize (if isNeg f=true then f.drop 1 else f)=d at *
 generalize isNeg f=neg at *
 have e3:=BN d (by omega)
 have c1:TC 101 [.sc (.int .u64 1)] (bY 1):=mX 1 (by decide)
 cases hd:gI d with
 |
  false =>
  have hp:mF neg d s2=none:=if_pos (.inl hd)
  rw[hp]
  unfold yQ at e3
  rw[hd,if_neg (by decide)] at e3
  simp only[eE,cZ,e1,e2,e3,aO,qT,Nat.reduceLeDiff,Nat.reduceLT,Nat.reduceSub,VX,Nat.reduceEqDiff,Nat.reduceAdd]
  exact bK (d:=6) fP (aH (v:=VB false) rfl)
 |
  true =>
  unfold yQ at e3
  rw[hd,if_pos rfl] at e3
  by_cases hz:neg=true∧bN d=0
  ·have hp:mF neg d s2=none:=if_pos (.inr hz)
   rw[hp]
   obtain⟨rfl,DX⟩:=hz
   rw[DX] at e3
   have wR:(((aC 4294967296 0).length:Nat):Int)=0:=La.2 rfl
   simp only[eE,cZ,e1,e2,e3,fQ,wR,aO,qT,Nat.reduceLeDiff,Nat.reduceLT,Nat.reduceSub,VX,Nat.reduceEqDiff,Nat.reduceAdd]
   exact bK (d:=6) fP (aH (v:=VB false) rfl)
  ·have hbt:=vP hd
   have wR:neg=true→¬(((aC 4294967296 (bN d)).length:Nat):Int)=0:=fun h h0=>hz ⟨h,La.1 h0⟩
   cases s2 with
   |
    none =>
    have hp:mF neg d none=some (mkRat (Gh neg (bN d)) 1):=if_neg (by rw[hd];rintro(h | h);exact absurd h (by decide);exact hz h)
    rw[hp]
    simp only[]
    rw[JD (by decide) (Nat.gcd_one_right _) hz]
    cases neg with
    |
     false =>
     simp only[eE,cZ,e1,e2,e3,c1,Option.isSome_none,Option.getD_none,aO,cY,cW,cH,qT,Nat.reduceLeDiff,Nat.reduceLT,Nat.reduceSub,VX,Nat.reduceEqDiff,Nat.reduceAdd]
     exact bK (d:=6) (pP (aH (v:=VB false) rfl) (aH (bQ _)) (aH (bQ _))) (aH (v:=VB true) rfl)
    |
     true =>
     have wR:=wR rfl
     simp only[eE,cZ,e1,e2,e3,c1,fQ,wR,Option.isSome_none,Option.getD_none,aO,cY,cW,cH,qT,Nat.reduceLeDiff,Nat.reduceLT,Nat.reduceSub,VX,Nat.reduceEqDiff,Nat.reduceAdd]
     exact bK (d:=6) (pP (aH (v:=VB true) rfl) (aH (bQ _)) (aH (bQ _))) (aH (v:=VB true) rfl)
   |
    some t =>
    have e4:=BN t (by have:=l2 t rfl;omega)
    have hp:mF neg d (some t)=if gI t=true∧1<bN t∧Nat.gcd (bN d) (bN t)=1 then some (mkRat (Gh neg (bN d)) (bN t)) else none:=if_neg (by rw[hd];rintro(h | h);exact absurd h (by decide);exact hz h)
    rw[hp]
    cases ht:gI t with
    |
     false =>
     rw[if_neg (fun h=>absurd h.1 (by decide))]
     unfold yQ at e4
     rw[ht,if_neg (by decide)] at e4
     cases neg with
     |
      false =>
      simp only[eE,cZ,e1,e2,e3,e4,c1,Option.isSome_some,Option.getD_some,aO,cY,cW,cH,qT,Nat.reduceLeDiff,Nat.reduceLT,Nat.reduceSub,VX,Nat.reduceEqDiff,Nat.reduceAdd]
      exact bK (d:=6) fP (aH (v:=VB false) rfl)
     |
      true =>
      have wR:=wR rfl
      simp only[eE,cZ,e1,e2,e3,e4,c1,fQ,wR,Option.isSome_some,Option.getD_some,aO,cY,cW,cH,qT,Nat.reduceLeDiff,Nat.reduceLT,Nat.reduceSub,VX,Nat.reduceEqDiff,Nat.reduceAdd]
      exact bK (d:=6) fP (aH (v:=VB false) rfl)
    |
     true =>
     have I9:=vP ht
     unfold yQ at e4
     rw[ht,if_pos rfl] at e4
     have c2:=wO (bN t) 1 (C3 (by omega)) (C3 (Nat.le_trans (Hc (n:=1) (k:=1) (by decide)) (by decide)))
     have c3:=IV (bN d) (bN t) (C3 (by omega)) (C3 (by omega))
     by_cases h1:lF (bN t) 1≤0
     ·have hle:¬1<bN t:=fun h=>by unfold lF at h1;rw[if_neg (by omega),if_neg (by omega)] at h1;exact absurd h1 (by decide)
      rw[if_neg (fun h=>hle h.2.1)]
      cases neg with
      |
       false =>
       simp only[eE,cZ,e1,e2,e3,e4,c1,c2,h1,Option.isSome_some,Option.getD_some,aO,cY,cW,cH,qT,Nat.reduceLeDiff,Nat.reduceLT,Nat.reduceSub,VX,Nat.reduceEqDiff,Nat.reduceAdd]
       exact bK (d:=6) fP (aH (v:=VB false) rfl)
      |
       true =>
       have wR:=wR rfl
       simp only[eE,cZ,e1,e2,e3,e4,c1,c2,h1,fQ,wR,Option.isSome_some,Option.getD_some,aO,cY,cW,cH,qT,Nat.reduceLeDiff,Nat.reduceLT,Nat.reduceSub,VX,Nat.reduceEqDiff,Nat.reduceAdd]
       exact bK (d:=6) fP (aH (v:=VB false) rfl)
     ·have aU:1<bN t:=by
       rcases Nat.lt_or_ge 1 (bN t) with h | h
       ·exact h
       ·exfalso
        apply h1
        unfold lF
        split
        ·decide
        ·rw[if_pos (by omega)];decide
      have hgl:bl (Nat.gcd (bN d) (bN t))≤665:=Nat.le_trans (Cg (Nat.le_of_dvd (by omega) (Nat.gcd_dvd_right _ _))) I9
      have c4:=wO (Nat.gcd (bN d) (bN t)) 1 (C3 (by omega)) (C3 (Nat.le_trans (Hc (n:=1) (k:=1) (by decide)) (by decide)))
      by_cases hg:Nat.gcd (bN d) (bN t)=1
      ·have h4:lF (Nat.gcd (bN d) (bN t)) 1=0:=by rw[hg];rfl
       rw[if_pos ⟨rfl,aU,hg⟩]
       simp only[]
       rw[JD (by omega) hg hz]
       cases neg with
       |
        false =>
        simp only[eE,cZ,e1,e2,e3,e4,c1,c2,c3,c4,h1,h4,Option.isSome_some,Option.getD_some,aO,cY,cW,cH,qT,Nat.reduceLeDiff,Nat.reduceLT,Nat.reduceSub,VX,Nat.reduceEqDiff,Nat.reduceAdd]
        exact bK (d:=6) (pP (aH (v:=VB false) rfl) (aH (bQ _)) (aH (bQ _))) (aH (v:=VB true) rfl)
       |
        true =>
        have wR:=wR rfl
        simp only[eE,cZ,e1,e2,e3,e4,c1,c2,c3,c4,h1,h4,fQ,wR,Option.isSome_some,Option.getD_some,aO,cY,cW,cH,qT,Nat.reduceLeDiff,Nat.reduceLT,Nat.reduceSub,VX,Nat.reduceEqDiff,Nat.reduceAdd]
        exact bK (d:=6) (pP (aH (v:=VB true) rfl) (aH (bQ _)) (aH (bQ _))) (aH (v:=VB true) rfl)
      ·have h4:¬lF (Nat.gcd (bN d) (bN t)) 1=0:=by
        unfold lF
        split<;>(try split)<;>first | decide | omega
       rw[if_neg (fun h=>hg h.2.2)]
       cases neg with
       |
        false =>
        simp only[eE,cZ,e1,e2,e3,e4,c1,c2,c3,c4,h1,h4,Option.isSome_some,Option.getD_some,aO,cY,cW,cH,qT,Nat.reduceLeDiff,Nat.reduceLT,Nat.reduceSub,VX,Nat.reduceEqDiff,Nat.reduceAdd]
        exact bK (d:=6) fP (aH (v:=VB false) rfl)
       |
        true =>
        have wR:=wR rfl
        simp only[eE,cZ,e1,e2,e3,e4,c1,c2,c3,c4,h1,h4,fQ,wR,Option.isSome_some,Option.getD_some,aO,cY,cW,cH,qT,Nat.reduceLeDiff,Nat.reduceLT,Nat.reduceSub,VX,Nat.reduceEqDiff,Nat.reduceAdd]
        exact bK (d:=6) fP (aH (v:=VB false) rfl)
end Go.PM
namespace Go.PM
open Go.Lib
theorem O3 {l:List UInt8} {q:Rat} (h:vQ l=some q):Cf l = .dS [bD q,VB true]:=by unfold Cf;rw[h]
theorem PC {l:List UInt8} (h:vQ l=none):Cf l = .dS [Fa,VB false]:=by unfold Cf;rw[h]
theorem B7:aB Fa=[VB false,bY 0,bY 0]:=rfl
theorem DD:isAny Fa=false:=rfl
theorem IU:dP true 3 Fa 0=some Fa:=rfl
end Go.PM
namespace Go.PM
open Go.Lib
end Go.PM
namespace Go.PM
open Go.Lib
theorem Ou {α:Type} {f:α→VV} {d e b g c:Nat} {xs:List α} {H:aA} {w:Bool} (hp:∀x,aN (f x)=true) (h:aF H b g=some (xs.map f,e,w)) (hc:xs.length≤c):fz (d+2) H (.ref b g 0 xs.length c)=some (bH f xs):=by
 have:aN (.ref b g 0 xs.length c)=false:=rfl
 unfold PM.fz
 simp only[this,h,Bool.false_eq_true,if_false]
 rw[if_pos ⟨by simp,hc⟩,List.drop_zero,List.take_of_length_le (by simp),mapM_pure (eH hp)]
 rfl
theorem aaR {d:Nat} {H:aA}:fz (d+1) H (.tree [] .nil)=some (.tree [] .op):=by
 unfold PM.fz
 have:aN (.tree [] .nil)=false:=by simp[aN]
 simp[this]
theorem Nq {H:aA}:fz depth H (.dS [.tree [] .nil,VB false])=some (.dS [.tree [] .op,VB false]):=bK (d:=6) aaR (aH (v:=VB false) rfl)
theorem BX {u v:VV} (hu:gA u=true) (hv:gA v=true):gA (.dS [u,v])=true:=by simp only[gA,oS,hu,hv,Bool.and_self]
theorem uC {u v:VV} (hu:aN u=true) (hv:aN v=true):aN (.dS [u,v])=true:=by simp only[aN,aM,hu,hv,Bool.and_self]
theorem Mv {u:VV} (hu:aN u=true):aM [u]=true:=by simp only[aM,hu,Bool.and_self]
theorem Gs {u v:VV} (hu:aN u=true) (hv:aN v=true):aM [u,v]=true:=by simp only[aM,hu,hv,Bool.and_self]
def pQ (s:ByteArray):Option Rat:=vQ s.data.toList
theorem XP (s:ByteArray):sV s=aQ s.data.toList:=rfl
def uX (xs:List ByteArray):Option (List Rat):=if xs.length≤300 then xs.mapM pQ else none
def Qc (o:Option (List Rat)):VV:=match o with
 | some qs => .dS [bH bD qs,VB true]
 | none => .dS [bH bD [],VB false]
theorem KV (q:Rat):(aB (bD q)).length=3:=rfl
theorem uS (qs:List Rat):aN (bH bD qs)=true:=jH KV lH
theorem UZ (q:Rat):yB (bD q)=true:=by simp[yB,bD,bY]
theorem Lo (qs:List Rat):gA (bH bD qs)=true:=BZ KV Ew UZ
theorem VG (o:Option (List Rat)):gA (Qc o)=true:=by
 unfold Qc
 split
 ·exact BX (Lo _) rfl
 ·exact BX (Lo []) rfl
theorem CH {α β:Type} {f:α→Option β} {xs:List α} {ys:List β} {x:α} {y:β} (h:xs.mapM f=some ys) (hx:f x=some y):(xs++[x]).mapM f=some (ys++[y]):=by
 rw[List.mapM_append,h]
 simp[hx]
theorem mapM_none {α β:Type} {f:α→Option β} {x:α} (hx:f x=none):∀ {xs:List α},x∈xs→xs.mapM f=none
 | [],h=>by cases h
 |
  y::xs,h=>by
  rw[List.mapM_cons]
  cases hy:f y with
  | none=>rfl
  |
   some z =>
   rcases List.mem_cons.1 h with rfl | h
   ·rw[hx] at hy;cases hy
   ·show ((xs.mapM f).bind fun zs=>some (z::zs))=none
    rw[mapM_none hx h];rfl
theorem mapM_mem {α β:Type} {f:α→Option β} {P:β→Prop} (hP:∀x y,f x=some y→P y):∀ {xs:List α} {ys:List β},xs.mapM f=some ys→∀y∈ys,P y
 | [],ys,h,y,hy=>by simp at h;subst h;cases hy
 |
  x::xs,ys,h,y,hy=>by
  rw[List.mapM_cons] at h
  cases hx:f x with
  | none=>rw[hx] at h;cases h
  |
   some z =>
   rw[hx] at h
   cases hs:xs.mapM f with
   | none=>rw[hs] at h;cases h
   |
    some zs =>
    rw[hs] at h
    cases h
    rcases List.mem_cons.1 hy with rfl | hy
    ·exact hP _ _ hx
    ·exact mapM_mem hP hs _ hy
theorem nJ {α:Type} {xs:List α} {i:Nat} {x:α} (h:xs[i]? = some x):xs.take (i+1)=xs.take i++[x]:=by rw[List.take_add_one,h];rfl
theorem JK {xs:List ByteArray} {qs:List Rat} (h:uX xs=some qs):(∀q∈qs,fS q≤665)∧qs.length≤300∧qs.length=xs.length:=by
 unfold uX at h
 split at h
 ·rename_i hl
  have:=mM h
  exact⟨mapM_mem (fun _ _ h=>RB h) h,by omega,this⟩
 ·cases h
end Go.PM
namespace Go.PM
open Go.Lib
theorem OJ {α:Type} {l:List α} (h:l.Nodup) {i j:Nat} {x:α} (hi:l[i]? = some x) (hj:l[j]? = some x):i=j:=by
 obtain⟨hi,nO⟩:=List.getElem?_eq_some_iff.1 hi
 obtain⟨hj,hj'⟩:=List.getElem?_eq_some_iff.1 hj
 have h:=List.pairwise_iff_getElem.1 h
 rcases Nat.lt_trichotomy i j with aU | heq | hgt
 ·exact absurd (nO.trans hj'.symm) (h i j hi hj aU)
 ·exact heq
 ·exact absurd (hj'.trans nO.symm) (h j i hj hi hgt)
section
variable {α:Type} {f:α→VV} {e lo hi:Nat} {H H':aA} {v:VV}
def cJ (lo hi:Nat) (H H':aA):Prop:=∀b g x,lo≤b→b<hi→aF H b g=some x→aF H' b g=some x
theorem cJ.pre (h:H <+: H'):cJ lo hi H H':=fun _ _ _ _ _=>bL h
theorem cJ.refl:cJ lo hi H H:=fun _ _ _ _ _ h=>h
theorem cJ.trans {H'':aA} (h:cJ lo hi H H') (h':cJ lo hi H' H''):cJ lo hi H H'':=fun b g x h1 h2 h3=>h' b g x h1 h2 (h b g x h1 h2 h3)
theorem cJ.sub {l h':Nat} (h:cJ lo hi H H') (hl:lo≤l) (hh:h'≤hi):cJ l h' H H':=fun b g x h1 h2=>h b g x (by omega) (by omega)
theorem cJ.set {b:Nat} {x:bM} (hb:b<lo∨hi≤b):cJ lo hi H (H.set b x):=fun _ _ _ h1 h2=>aL (by omega)
theorem cJ.move {L:aA}:cJ H.length hi (List.replicate H.length .dead++L) (H++L):=fun _ _ _ h1 _=>Vy h1
def M8 (f:α→VV) (e:Nat) (aY:List α) (lo hi:Nat) (H:aA) (v:VV):Prop :=
 (v = .tree [] .nil∧aY=[])∨∃b g c,lo≤b∧b<hi∧v = .ref b g 0 aY.length c∧aY.length≤c∧aF H b g=some (aY.map f,e,true)
theorem M8.bO {aY:List α} (h:M8 f e aY lo hi H v) (hk:cJ lo hi H H'):M8 f e aY lo hi H' v:=by
 rcases h with h | ⟨b,g,c,h1,h2,h3,h4,h5⟩
 ·exact .inl h
 ·exact .inr ⟨b,g,c,h1,h2,h3,h4,hk _ _ _ h1 h2 h5⟩
theorem M8.wide {aY:List α} {jF nO:Nat} (h:M8 f e aY lo hi H v) (hl:jF≤lo) (hh:hi≤nO):M8 f e aY jF nO H v:=by
 rcases h with h | ⟨b,g,c,h1,h2,h3⟩
 ·exact .inl h
 ·exact .inr ⟨b,g,c,by omega,by omega,h3⟩
theorem Cx {d b g c:Nat} {xs:List α} {w:Bool} (hp:∀x,aN (f x)=true) (h:aF H b g=some (xs.map f,e,w)) (hc:xs.length≤c):fz (d+2) H (.ref b g 0 xs.length c)=some (bH f xs):=by
 have:aN (.ref b g 0 xs.length c)=false:=rfl
 show PM.fz ((d+1)+1) H _=_
 unfold PM.fz
 simp only[this,h,Bool.false_eq_true,if_false]
 rw[if_pos ⟨by simp,hc⟩,List.drop_zero,List.take_of_length_le (by simp),mapM_pure (n:=d) (eH hp)]
 rfl
theorem M8.fz {d:Nat} {aY:List α} (h:M8 f e aY lo hi H v) (hp:∀x,aN (f x)=true):PM.fz (d+2) H v=some (bH f aY):=by
 rcases h with⟨rfl,rfl⟩ | ⟨b,g,c,h1,h2,rfl,h4,h5⟩
 ·exact IK
 ·exact Cx hp h5 h4
structure wU (α:Type) where
 b:Nat
 g:Nat
 c:Nat
 xs:List α
def nN (r:wU α):VV := .ref r.b r.g 0 r.xs.length r.c
structure LH (f:α→VV) (e lo hi b:Nat) (H:aA) (rs:List (wU α)):Prop where
 nd:(rs.map (·.b)).Nodup
 row:∀r∈rs,lo≤r.b∧r.b<hi∧r.b≠b∧r.xs.length≤r.c∧aF H r.b r.g=some (r.xs.map f,e,true)
def RG (f:α→VV) (e:Nat) (aY:List (List α)) (lo hi:Nat) (H:aA) (v:VV):Prop :=
 (v = .tree [] .nil∧aY=[])∨∃b g c rs,lo≤b∧b<hi∧v = .ref b g 0 aY.length c∧aY.length≤c∧aF H b g=some (rs.map nN,1,true)∧rs.map (·.xs)=aY∧LH f e lo hi b H rs
theorem RG.bO {aY:List (List α)} (h:RG f e aY lo hi H v) (hk:cJ lo hi H H'):RG f e aY lo hi H' v:=by
 rcases h with h | ⟨b,g,c,rs,h1,h2,h3,h4,h5,h6,h7⟩
 ·exact .inl h
 ·exact .inr ⟨b,g,c,rs,h1,h2,h3,h4,hk _ _ _ h1 h2 h5,h6,h7.nd,fun r hr=>by
   obtain⟨k1,k2,k3,k4,k5⟩:=h7.row r hr
   exact⟨k1,k2,k3,k4,hk _ _ _ k1 k2 k5⟩⟩
theorem RG.wide {aY:List (List α)} {jF nO:Nat} (h:RG f e aY lo hi H v) (hl:jF≤lo) (hh:hi≤nO):RG f e aY jF nO H v:=by
 rcases h with h | ⟨b,g,c,rs,h1,h2,h3,h4,h5,h6,h7⟩
 ·exact .inl h
 ·exact .inr ⟨b,g,c,rs,by omega,by omega,h3,h4,h5,h6,h7.nd,fun r hr=>by
   obtain⟨k1,k2,k3,k4,k5⟩:=h7.row r hr
   exact⟨by omega,by omega,k3,k4,k5⟩⟩
theorem Sp {d b g c lo hi:Nat} {rs:List (wU α)} {w:Bool} (hp:∀x,aN (f x)=true) (h:aF H b g=some (rs.map nN,1,w)) (hc:rs.length≤c) (hR:LH f e lo hi b H rs) :
  fz (d+3) H (.ref b g 0 rs.length c)=some (bH (bH f) (rs.map (·.xs))):=by
 have:aN (.ref b g 0 rs.length c)=false:=rfl
 show PM.fz ((d+2)+1) H _=_
 unfold PM.fz
 simp only[this,h,Bool.false_eq_true,if_false]
 rw[if_pos ⟨by simp,hc⟩,List.drop_zero,List.take_of_length_le (by simp),mapM_map (f:=nN) (f':=fun r=>bH f r.xs) fun r hr=>Cx hp (hR.row r hr).2.2.2.2 (hR.row r hr).2.2.2.1]
 simp[bH,List.map_map]
theorem RG.fz {d:Nat} {aY:List (List α)} (h:RG f e aY lo hi H v) (hp:∀x,aN (f x)=true):PM.fz (d+3) H v=some (bH (bH f) aY):=by
 rcases h with⟨rfl,rfl⟩ | ⟨b,g,c,rs,h1,h2,rfl,h4,h5,rfl,h7⟩
 ·exact IK
 ·rw[List.length_map] at h4 ⊢
  exact Sp hp h5 h4 h7
theorem Ii {d:Nat} {us DM:List VV} (h:us.mapM (PM.fz (d+1) H)=some DM):PM.fz (d+2) H (.agg us)=some (.agg DM):=by
 have e:PM.fz (d+2) H (.agg us)=if aN (.agg us)=true then some (.agg us) else (us.mapM (PM.fz (d+1) H)).map .agg:=rfl
 rw[e]
 by_cases hq:aN (.agg us)=true
 ·rw[if_pos hq]
  have:us.mapM (PM.fz (d+1) H)=some us:=mapM_pure hq
  rw[this] at h
  cases h
  rfl
 ·rw[if_neg hq,h]
  rfl
def QA (P:Nat→Nat→aA→VV→Prop) (ok:Bool) (n:Nat) (r:VV) (L:aA):Prop :=
 ∃v,r = .dS [v,.sc (.bool ok)]∧P n (n+L.length) (List.replicate n .dead++L) v
theorem Jh {F lo:Nat} {args gR:List VV} {P:Nat→Nat→aA→VV→Prop} {ok:Bool} {H:aA} {K:VV→aA→Prop} (h:FC F gR (QA P ok)) (rH:Au.contains F=true) (hf:args.mapM (PM.fz depth H)=some gR)
  (hP:∀ {lo hi H H' v},P lo hi H v→cJ lo hi H H'→P lo hi H' v) (hk:∀v H',H <+: H'→P H.length H'.length H' v→K (.dS [v,.sc (.bool ok)]) H'):cM F args lo H K:=by
 refine h.call rH hf ?_
 rintro r L ⟨v,rfl,hv⟩
 refine hk v _ (List.prefix_append _ _) ?_
 rw[List.length_append]
 exact hP hv cJ.move
end
def E5 (T:VV) (lo hi:Nat) (H:aA) (v:VV):Prop:=∀H',cJ lo hi H H'→fz depth H' v=some T
theorem E5.bO {T:VV}:∀ {lo hi H H' v},E5 T lo hi H v→cJ lo hi H H'→E5 T lo hi H' v:=fun h hk _ h'=>h _ (hk.trans h')
theorem E5.now {T v:VV} {lo hi:Nat} {H:aA} (h:E5 T lo hi H v):fz depth H v=some T:=h H cJ.refl
def CG (aY:List (List ByteArray)) (lo hi:Nat) (H:aA) (v:VV):Prop:=∃c,v = .agg [c]∧RG sV 1 aY lo hi H c
theorem CG.bO {aY:List (List ByteArray)}:∀ {lo hi H H' v},CG aY lo hi H v→cJ lo hi H H'→CG aY lo hi H' v:=by
 rintro lo hi H H' v ⟨c,h1,h2⟩ hk
 exact⟨c,h1,h2.bO hk⟩
theorem CG.fz {aY:List (List ByteArray)} {lo hi:Nat} {H:aA} {v:VV} (h:CG aY lo hi H v):PM.fz depth H v=some (chV aY):=by
 obtain⟨c,rfl,h⟩:=h
 refine Ii (d:=6) ?_
 rw[List.mapM_cons,h.fz (d:=4) fun _=>rfl]
 rfl
theorem CG.seen {aY:List (List ByteArray)} {lo hi:Nat} {H:aA} {v:VV} (h:CG aY lo hi H v):E5 (chV aY) lo hi H v:=fun _ hk=>(h.bO hk).fz
def Hm (s:CE) (lo hi:Nat) (H:aA) (v:VV):Prop:=∃a b c m1 m2,v = .agg [a,b,c]∧lo≤m1∧m1≤m2∧m2≤hi∧M8 sV 1 s.b lo m1 H a∧RG sV 1 s.g m1 m2 H b∧M8 sV 1 s.e m2 hi H c
theorem Hm.bO {s:CE}:∀ {lo hi H H' v},Hm s lo hi H v→cJ lo hi H H'→Hm s lo hi H' v:=by
 rintro lo hi H H' v ⟨a,b,c,m1,m2,h1,k1,k2,k3,h2,h3,h4⟩ hk
 exact⟨a,b,c,m1,m2,h1,k1,k2,k3,h2.bO (hk.sub (by omega) (by omega)),h3.bO (hk.sub (by omega) (by omega)),h4.bO (hk.sub (by omega) (by omega))⟩
theorem RQ {s:CE} {l1 h1 l2 h2 l3 h3:Nat} {H:aA} {a b c:VV} (ha:M8 sV 1 s.b l1 h1 H a) (hb:RG sV 1 s.g l2 h2 H b) (hc:M8 sV 1 s.e l3 h3 H c):PM.fz depth H (.agg [a,b,c])=some (N4 s):=by
 refine Ii (d:=6) ?_
 rw[List.mapM_cons,ha.fz (d:=5) fun _=>rfl]
 rw[List.mapM_cons,hb.fz (d:=4) fun _=>rfl]
 rw[List.mapM_cons,hc.fz (d:=5) fun _=>rfl]
 rfl
theorem Hm.fz {s:CE} {lo hi:Nat} {H:aA} {v:VV} (h:Hm s lo hi H v):PM.fz depth H v=some (N4 s):=by
 obtain⟨a,b,c,m1,m2,rfl,k1,k2,k3,h2,h3,h4⟩:=h
 exact RQ h2 h3 h4
theorem Hm.seen {s:CE} {lo hi:Nat} {H:aA} {v:VV} (h:Hm s lo hi H v):E5 (N4 s) lo hi H v:=fun _ hk=>(h.bO hk).fz
theorem M8.seen {aY:List ByteArray} {lo hi:Nat} {H:aA} {v:VV} (h:M8 sV 1 aY lo hi H v):E5 (fC aY) lo hi H v:=fun _ hk=>(h.bO hk).fz (d:=6) fun _=>rfl
def QD (k:Int):ByteArray:=⟨(109::(if k≤0 then [48] else decDigits k.toNat)).toArray⟩
theorem AZ (k:Int) (hk:0≤k∧k≤1000000000):TC 130 [VI k] (.sc (.string (QD k))):=by
 refine TC.walk ⟨true,false⟩ HD rfl (Nat.le_of_ble_eq_true rfl) rfl rfl ?_
 by_cases h0:k≤0
 ·have e:QD k=⟨#[109,48]⟩:=by unfold QD;rw[if_pos h0]
  rw[e]
  simp only[xX,sZ,h0,VX,Nat.reduceEqDiff,Nat.reduceAdd]
  exact aI rfl
 obtain⟨n,rfl⟩:∃n:Nat,k=n:=⟨k.toNat,by omega⟩
 have e1:∀(x:UInt8) (H:aA),jX false [.int .u8 0] 1 [(0,bV x)] H=some (.tree [bV x] (.cl 1),H):=fun x H=>fY rfl rfl rfl
 simp only[xX,sZ,h0,VX,Nat.reduceEqDiff,Nat.reduceAdd]
 refine aR (fun(s:Nat×List UInt8) ρ H=>s.1≤n∧H=[]∧ρ 0=VI s.1∧ρ 3=aQ s.2∧decDigits n=kK s.1++s.2) (fun s=>s.1) (n,[]) ⟨Nat.le_refl _,rfl,rfl,rfl,by rw[List.append_nil,kK,if_neg (by omega)]⟩ ?_
 rintro⟨r,bs⟩ ρ H ⟨hr,rfl,g0,g3,hd⟩
 simp only at hr hd g0 g3
 have wQ:bs.length≤11:=by
  have h1:=vC n 10 (by omega)
  rw[hd,List.length_append] at h1
  omega
 by_cases hz:(0:Int)<(r:Int)
 ·have em:=OV (r:Int)
  have eq:=acQ (r:Int) (by omega) (by omega)
  have m1:((r:Int)).tmod 10=((r % 10:Nat):Int):=by rw[Int.tmod_eq_emod_of_nonneg (by omega)];omega
  have m2:((r:Int)).tdiv 10=((r / 10:Nat):Int):=by rw[Int.tdiv_eq_ediv_of_nonneg (by omega)];omega
  rw[m1] at em
  rw[m2] at eq
  have w1:IntKind.i64.wrap (48+((r % 10:Nat):Int))=((48+r % 10:Nat):Int):=wrapN _ (by omega) (by omega)
  have w2:IntKind.u8.wrap ((48+r % 10:Nat):Int)=((d10 (r % 10)).toNat:Int):=by
   rw[Lq (Nat.mod_lt _ (by decide))]
   simp[IntKind.wrap,IntKind.bits,IntKind.signed]
   omega
  have bs2:=fun aS (h:dW aS (.tmp 12) = .tree [bV (d10 (r % 10))] (.cl 1))=>(D2.tree (bs:=[d10 (r % 10)]) (k := .cl 1) (H:=[])).str (fl:=⟨true,false⟩) (lo:=0) h
  have Zg:decDigits n=kK (r / 10)++d10 (r % 10)::bs:=by
   refine Gy ?_
   rw[hd,kK,if_neg (by omega)]
  have ea:=oN [d10 (r % 10)] bs (by have:=wQ;simp only[List.length_cons,List.length_nil];omega)
  simp only[rL,g0,g3,hz,em,eq,w1,w2,e1,Nl,VX,Nat.reduceEqDiff,Nat.reduceAdd]
  rw[bs2 _ rfl]
  simp only[g0,g3,em,eq,ea,VX,Nat.reduceEqDiff,Nat.reduceAdd]
  exact⟨(r / 10,d10 (r % 10)::bs),by simp only;omega,by simp only;omega,rfl,rfl,Zg⟩
 ·have Bx:r=0:=by omega
  subst Bx
  simp only[rL,g0,hz,VX,Nat.reduceEqDiff,Nat.reduceAdd]
  have hb:bs=decDigits n:=by rw[hd,kK,if_pos rfl,List.nil_append]
  have e:QD (n:Int)=⟨(109::bs).toArray⟩:=by
   unfold QD
   rw[if_neg h0,Int.toNat_natCast,hb]
  have ea:=oN [109] bs (by simp only[List.length_cons,List.length_nil];omega)
  have ea:cV .add (.string ⟨#[109]⟩) (.string ⟨bs.toArray⟩)=some (.string ⟨(109::bs).toArray⟩):=ea
  rw[e]
  simp only[g3,ea,VX,Nat.reduceEqDiff,Nat.reduceAdd]
  exact aI rfl
theorem aaF (k:Int):cV .neq (.string (QD k)) (.string (QD k))=some (.bool false):=by
 unfold QD
 rw[MV]
 simp
abbrev iG (k:Int) (n:Nat):List ByteArray:=(iota k n).map QD
theorem oX (k:Int) (n:Nat):(iG k n).length=n:=by rw[List.length_map,Oj]
theorem QP {k:Int} {n i:Nat} (h:i<n):(iG k n)[i]? = some (QD (k+i)):=by
 rw[List.getElem?_map]
 simp[iota,List.getElem?_range,h]
theorem oU {lo b g n c:Nat} {H:aA} (xs:List ByteArray) (k:Int) (hr:aF H b g=some (xs.map sV,1,true)) (hn:n≤xs.length) (eI:lo≤b) (hk:0≤k∧k≤100000000) (hn':n≤100000000) :
  iY 50 [.ref b g 0 n c,VI k] lo H fun r H'=>r=VI (k+n)∧H'=H.set b (.row g ((iG k n++xs.drop n).map sV) 1 true):=by
 refine iY.walk ⟨true,false⟩ uY (Nat.le_of_ble_eq_true rfl) ?_
 have hb:b<H.length:=(List.getElem?_eq_some_iff.1 (cD.1 hr)).1
 have h00:H=H.set b (.row g ((iG k 0++xs.drop 0).map sV) 1 true):=by
  have h':=cD.1 hr
  obtain⟨aU,Cb⟩:=List.getElem?_eq_some_iff.1 h'
  have:iG k 0++xs.drop 0=xs:=by simp[iota]
  rw[this,←Cb,List.set_getElem_self]
 simp only[rC,pB,VX,Nat.reduceEqDiff,Nat.reduceAdd]
 refine aR (fun(i:Nat) ρ H1=>i≤n∧H1=H.set b (.row g ((iG k i++xs.drop i).map sV) 1 true)∧ρ 0 = .ref b g 0 n c∧ρ 1=VI (k+i)∧ρ 5=VI i) (fun i=>n-i) 0 ⟨Nat.zero_le _,h00,rfl,by simp only[VX,Nat.reduceEqDiff,Nat.reduceAdd];simp,rfl⟩ ?_
 rintro i ρ H1 ⟨hi,rfl,h0,h1,h5⟩
 have hR:aF (H.set b (.row g ((iG k i++xs.drop i).map sV) 1 true)) b g=some ((iG k i++xs.drop i).map sV,1,true):=cD.2 (List.getElem?_set_self hb)
 have hlen:(iG k i++xs.drop i).length=xs.length:=by rw[List.length_append,oX,List.length_drop];omega
 have el:=dR (o:=0) (n:=n) (c:=c) hR
 by_cases dD:(i:Int)<(n:Int)
 ·have e1:=aP (o:=0) (n:=n) (c:=c) (i:=i) (k := .i64) hR (by omega)
  have e2:=dF (f:=sV) (e:=1) (x:=QD (k+i)) (j:=i) (lo:=lo) hR (by omega) eI rfl rfl
  have e3:=AZ (k+i) (by omega)
  have hs:(iG k i++xs.drop i).set i (QD (k+i))=iG k (i+1)++xs.drop (i+1):=by
   obtain⟨x,hx⟩:∃x,xs[i]? = some x:=⟨_,List.getElem?_eq_getElem (by omega)⟩
   have hd:xs.drop i=x::xs.drop (i+1):=by
    have aU:=List.getElem?_eq_some_iff.1 hx
    rw[List.drop_eq_getElem_cons aU.1,aU.2]
   rw[List.set_append_right _ _ (by rw[oX];exact Nat.le_refl _),oX,Nat.sub_self,hd,List.set_cons_zero]
   have:iG k (i+1)=iG k i++[QD (k+i)]:=by
    show (iota k (i+1)).map QD=(iota k i).map QD++[QD (k+i)]
    unfold iota
    rw[List.range_succ,List.map_append,List.map_append]
    rfl
   rw[this,List.append_assoc]
   rfl
  rw[List.set_set,hs] at e2
  have w1:IntKind.i64.wrap (k+i+1)=k+((i+1:Nat):Int):=by rw[wrap64 (by omega) (by omega)];omega
  have wi:IntKind.i64.wrap ((i:Int)+1)=((i+1:Nat):Int):=wrapN (i+1) (by omega) (by omega)
  simp only[jY,h0,h1,h5,dD,el,e1,e2,e3,w1,wi,VX,Nat.reduceEqDiff,Nat.reduceAdd]
  exact⟨i+1,by omega,by omega,by (repeat' apply And.intro)<;>first | rfl | trivial⟩
 ·have oJ:i=n:=by omega
  subst oJ
  simp only[jY,h0,h1,h5,dD,el,VX,Nat.reduceEqDiff,Nat.reduceAdd]
theorem Bm {lo:Nat} {H:aA} (k:Int):iY 50 [.tree [] .nil,VI k] lo H fun r H'=>r=VI k∧H'=H:=by
 refine iY.walk ⟨true,false⟩ uY (Nat.le_of_ble_eq_true rfl) ?_
 simp only[rC,pB,VX,Nat.reduceEqDiff,Nat.reduceAdd]
 refine aR (fun(_:Unit) ρ H1=>H1=H∧ρ 0 = .tree [] .nil∧ρ 1=VI k∧ρ 5=VI 0) (fun _=>0) () ⟨rfl,rfl,rfl,rfl⟩ ?_
 rintro _ ρ H1 ⟨rfl,h0,h1,h5⟩
 simp only[jY,h0,h1,h5,List.length_nil,Int.natCast_zero,Int.lt_irrefl,Int.reduceLT,VX,Nat.reduceEqDiff,Nat.reduceAdd]
theorem pD (k:Int) (n:Nat) (hk:0≤k∧k≤100000000) (hn:n≤100000000):TC 57 [fC (iG k n),VI k] (VI (k+n)):=by
 refine TC.walk ⟨true,false⟩ D1 rfl (Nat.le_of_ble_eq_true rfl) (Gs (gF _) rfl) rfl ?_
 simp only[zA,wD,VX,Nat.reduceEqDiff,Nat.reduceAdd]
 refine aR (fun(i:Nat) ρ H=>i≤n∧H=[]∧ρ 0=fC (iG k n)∧ρ 1=VI (k+i)∧ρ 5=VI i) (fun i=>n-i) 0 ⟨Nat.zero_le _,rfl,rfl,by simp only[VX,Nat.reduceEqDiff,Nat.reduceAdd];simp,rfl⟩ ?_
 rintro i ρ H ⟨hi,rfl,h0,h1,h5⟩
 have hlen:=oX k n
 by_cases dD:(i:Int)<(n:Int)
 ·have hx:=QP (k:=k) (n:=n) (i:=i) (by omega)
  have e1:=aJ (f:=sV) (t := .op) (H:=[]) (size:=1) (k := .i64) hx rfl
  have e3:=AZ (k+i) (by omega)
  have w1:IntKind.i64.wrap (k+i+1)=k+((i+1:Nat):Int):=by rw[wrap64 (by omega) (by omega)];omega
  have wi:IntKind.i64.wrap ((i:Int)+1)=((i+1:Nat):Int):=wrapN (i+1) (by omega) (by omega)
  simp only[nU,h0,h1,h5,dD,hlen,e1,e3,w1,wi,aaF,VX,Nat.reduceEqDiff,Nat.reduceAdd]
  exact⟨i+1,by omega,by omega,by (repeat' apply And.intro)<;>first | rfl | trivial⟩
 ·have oJ:i=n:=by omega
  subst oJ
  simp only[nU,h0,h1,h5,dD,hlen,VX,Nat.reduceEqDiff,Nat.reduceAdd]
  exact aI rfl
theorem TD {lo hi jF:Nat} {aY:List ByteArray} {H:aA} {v:VV} {k:Int} {K:VV→aA→Prop} (hv:M8 sV 1 aY lo hi H v) (eI:jF≤lo) (hk:0≤k∧k≤100000000) (hn:aY.length≤100000000)
  (hK:∀H',H'.length=H.length→M8 sV 1 (iG k aY.length) lo hi H' v→(∀b g x,b<lo∨hi≤b→aF H b g=some x→aF H' b g=some x)→K (VI (k+aY.length)) H') :
  cM 50 [v,VI k] jF H K:=by
 rcases hv with⟨rfl,rfl⟩ | ⟨b,g,c,h1,h2,rfl,h4,h5⟩
 ·refine dL rfl ((Bm k).mono ?_)
  rintro r H' ⟨rfl,rfl⟩
  have:=hK H' rfl (.inl ⟨rfl,rfl⟩) fun _ _ _ _ h=>h
  simpa using this
 ·refine dL rfl ((oU aY k h5 (Nat.le_refl _) (Nat.le_trans eI h1) hk hn).mono ?_)
  rintro r H' ⟨rfl,rfl⟩
  refine hK _ (by simp) (.inr ⟨b,g,c,h1,h2,by rw[oX],by rw[oX];exact h4,?_⟩) fun b' g' x oC h=>aL (by omega) h
  rw[List.drop_length,List.append_nil]
  exact dE h5
theorem UU {lo b:Nat} {xs:List ByteArray} {H:aA} {k:Int} {K:VV→aA→Prop} (h:aF H b 0=some ((fL jV xs).map sV,1,true)) (eI:lo≤b) (hk:0≤k∧k≤100000000) (hn:xs.length≤100000000)
  (hK:∀x,K (VI (k+xs.length)) (H.set b x)):cM 50 [.ref b 0 0 xs.length (xs.length+room xs.length),VI k] lo H K:=by
 refine dL rfl ((oU (fL jV xs) k h (by rw[Hf];omega) eI hk hn).mono ?_)
 rintro r H' ⟨rfl,rfl⟩
 exact hK _
end Go.PM
namespace Go.PM
section
variable {α:Type} {f:α→VV} {e:Nat}
structure Rd (f:α→VV) (e:Nat) (xs:List α) (H:aA) (v:VV):Prop where
 len:∀H',H <+: H'→nR v H'=some (VI xs.length)
 get:∀H',H <+: H'→∀(i:Nat) x,xs[i]? = some x→∃p,bJ e v (VI i) H'=some p∧∀ag,cQ ag e p H'=dP ag e (f x) 0
 cell:aB v=[v]∧aZ v=true∧isAny v=false
theorem Rd.pre {xs:List α} {H H':aA} {v:VV} (h:Rd f e xs H v) (hh:H <+: H'):Rd f e xs H' v:=⟨fun H2 h2=>h.len H2 (hh.trans h2),fun H2 h2=>h.get H2 (hh.trans h2),h.cell⟩
theorem Rd.tree {xs:List α} {H:aA} {t:TK} (hs:∀x,(aB (f x)).length=e):Rd f e xs H (.tree (xs.map f) t) :=
 ⟨fun _ _=>fI,fun _ _ i x hx=>⟨_,aJ hx (hs x),fun ag=>Nz⟩,rfl,rfl,rfl⟩
theorem Rd.row {xs:List α} {H:aA} {b g n c:Nat} {w:Bool} (h:aF H b g=some (xs.map f,e,w)) (hn:n=xs.length):Rd f e xs H (.ref b g 0 n c):=by
 subst hn
 refine⟨fun H' hh=>dR (bL hh h),fun H' hh i x hx => ?_,rfl,rfl,rfl⟩
 have hi:=(List.getElem?_eq_some_iff.1 hx).1
 have e1:=aP (o:=0) (n:=xs.length) (c:=c) (i:=i) (k := .i64) (bL hh h) hi
 rw[Nat.zero_add] at e1
 exact⟨_,e1,fun ag=>pI (f:=f) (bL hh h) hx⟩
structure MG (f:α→VV) (e lo hi b g:Nat) (H:aA) (rs:List (wU α)):Prop where
 out:aF H b g=some (rs.map nN,1,true)
 blo:lo≤b
 bhi:b<hi
 rows:LH f e lo hi b H rs
variable {lo hi b g:Nat} {H H':aA} {rs:List (wU α)}
theorem MG.bO (h:MG f e lo hi b g H rs) (hk:cJ lo hi H H'):MG f e lo hi b g H' rs :=
 ⟨hk _ _ _ h.blo h.bhi h.out,h.blo,h.bhi,h.rows.nd,fun r hr=>by
  obtain⟨k1,k2,k3,k4,k5⟩:=h.rows.row r hr
  exact⟨k1,k2,k3,k4,hk _ _ _ k1 k2 k5⟩⟩
theorem MG.pre (h:MG f e lo hi b g H rs) (hh:H <+: H'):MG f e lo hi b g H' rs:=h.bO (cJ.pre hh)
theorem MG.len {n c:Nat} (h:MG f e lo hi b g H rs):nR (.ref b g 0 n c) H=some (VI n):=dR h.out
theorem MG.addr {i n c:Nat} (h:MG f e lo hi b g H rs) (hi:i<n):bJ 1 (.ref b g 0 n c) (VI i) H=some (.ptr b g i 0):=by
 have:=aP (o:=0) (n:=n) (c:=c) (i:=i) (k := .i64) h.out hi
 rwa [Nat.zero_add] at this
theorem MG.cell {i:Nat} {r:wU α} (h:MG f e lo hi b g H rs) (hr:rs[i]? = some r):cQ false 1 (.ptr b g i 0) H=some (.ref r.b r.g 0 r.xs.length r.c):=by
 rw[pI (f:=nN) h.out hr]
 rfl
theorem MG.row {i:Nat} {r:wU α} (h:MG f e lo hi b g H rs) (hr:rs[i]? = some r):aF H r.b r.g=some (r.xs.map f,e,true):=(h.rows.row r (List.mem_of_getElem? hr)).2.2.2.2
theorem MG.at {i j n c:Nat} {r:wU α} (h:MG f e lo hi b g H rs) (hr:rs[i]? = some r) (hj:j<n):bJ e (.ref r.b r.g 0 n c) (VI j) H=some (.ptr r.b r.g j 0):=by
 have:=aP (o:=0) (n:=n) (c:=c) (i:=j) (k := .i64) (h.row hr) hj
 rwa [Nat.zero_add] at this
theorem MG.get {i j:Nat} {ag:Bool} {r:wU α} {x:α} (h:MG f e lo hi b g H rs) (hr:rs[i]? = some r) (hx:r.xs[j]? = some x):cQ ag e (.ptr r.b r.g j 0) H=dP ag e (f x) 0:=pI (f:=f) (h.row hr) hx
theorem MG.inj {i j:Nat} {r s:wU α} (h:MG f e lo hi b g H rs) (hr:rs[i]? = some r) (hs:rs[j]? = some s) (he:r.b=s.b):i=j:=by
 have h1:(rs.map (·.b))[i]? = some r.b:=by simp[hr]
 have h2:(rs.map (·.b))[j]? = some r.b:=by simp[hs,he]
 exact OJ h.rows.nd h1 h2
theorem JY {β γ:Type} {F:β→γ} {l:List β} {i:Nat} {x y:β} (hx:l[i]? = some x) (he:F y=F x):(l.set i y).map F=l.map F:=by
 apply List.ext_getElem?
 intro j
 rw[List.getElem?_map,List.getElem?_map,List.getElem?_set]
 split
 ·rename_i QW
  subst QW
  split
  ·rw[hx,Option.map_some,Option.map_some,he]
  ·rename_i hn
   rw[(List.getElem?_eq_none (by omega))] at hx
   cases hx
 ·rfl
theorem MG.set {i:Nat} {r:wU α} {ys:List α} (h:MG f e lo hi b g H rs) (hr:rs[i]? = some r) (hl:ys.length=r.xs.length):MG f e lo hi b g (H.set r.b (.row r.g (ys.map f) e true)) (rs.set i { r with xs:=ys }):=by
 have Tn:=h.rows.row r (List.mem_of_getElem? hr)
 refine⟨?_,h.blo,h.bhi,?_,fun s hs => ?_⟩
 ·rw[JY hr (by simp[nN,hl])]
  exact aL Tn.2.2.1 h.out
 ·rw[JY (F:=fun r:wU α=>r.b) (y:={ r with xs:=ys }) hr rfl]
  exact h.rows.nd
 ·obtain⟨j,hj⟩:=List.getElem?_of_mem hs
  rw[List.getElem?_set] at hj
  split at hj
  ·rename_i QW
   split at hj
   ·cases hj
    exact⟨Tn.1,Tn.2.1,Tn.2.2.1,by rw[hl];exact Tn.2.2.2.1,dE Tn.2.2.2.2⟩
   ·cases hj
  ·rename_i QW
   have NH:=h.rows.row s (List.mem_of_getElem? hj)
   exact⟨NH.1,NH.2.1,NH.2.2.1,NH.2.2.2.1,aL (fun he=>QW (h.inj hr hj he)) NH.2.2.2.2⟩
theorem MG.put {i j jF:Nat} {r:wU α} {y:α} (h:MG f e lo hi b g H rs) (hr:rs[i]? = some r) (hj:j<r.xs.length) (eI:jF≤lo) (hv:(aB (f y)).length=e) (hs:(aB (f y)).all aZ=true) :
  bX jF e (.ptr r.b r.g j 0) (f y) H=some (H.set r.b (.row r.g ((r.xs.set j y).map f) e true)) :=
 dF (f:=f) (h.row hr) hj (Nat.le_trans eI (h.rows.row r (List.mem_of_getElem? hr)).1) hv hs
theorem MG.lt {i:Nat} {r:wU α} (h:MG f e lo hi b g H rs) (hr:rs[i]? = some r):lo≤r.b∧r.b<hi∧r.b<H.length:=⟨(h.rows.row r (List.mem_of_getElem? hr)).1,(h.rows.row r (List.mem_of_getElem? hr)).2.1,jA (h.row hr)⟩
theorem MG.aY {c:Nat} (h:MG f e lo hi b g H rs) (hc:rs.length≤c):RG f e (rs.map (·.xs)) lo hi H (.ref b g 0 rs.length c) := .inr ⟨b,g,c,rs,h.blo,h.bhi,by rw[List.length_map],by rw[List.length_map];exact hc,h.out,rfl,h.rows⟩
theorem MG.fz {d c:Nat} (h:MG f e lo hi b g H rs) (hc:rs.length≤c) (hp:∀x,aN (f x)=true):PM.fz (d+3) H (.ref b g 0 rs.length c)=some (bH (bH f) (rs.map (·.xs))):=Sp hp h.out hc h.rows
theorem MG.wide {jF nO:Nat} (h:MG f e lo hi b g H rs) (hl:jF≤lo) (hh:hi≤nO):MG f e jF nO b g H rs:=⟨h.out,by have:=h.blo;omega,by have:=h.bhi;omega,h.rows.nd,fun r hr=>by
 obtain⟨k1,k2,k3,k4,k5⟩:=h.rows.row r hr
 exact⟨by omega,by omega,k3,k4,k5⟩⟩
end
theorem gX:type_of% (And.intro @rG<|And.intro @vA<|And.intro @lQ.eq_1<|And.intro @oL.eq_1<|And.intro @oL.eq_2<|And.intro @Dl.eq_1<|And.intro @Dl.eq_2<|And.intro @vZ.eq_1<|And.intro @vZ.eq_2<|And.intro @E7<|And.intro @Ao<|And.intro @Ci<|And.intro @Cr<|And.intro @List.take_zero.{0}<|And.intro @List.take_succ_cons.{0}<|And.intro @List.take_nil.{0}<|And.intro @List.drop_zero.{0}<|And.intro @List.drop_succ_cons.{0}<|And.intro @List.drop_nil.{0}<|And.intro @List.append_nil.{0} <| @Nat.le_refl):=And.intro @rG<|And.intro @vA<|And.intro @lQ.eq_1<|And.intro @oL.eq_1<|And.intro @oL.eq_2<|And.intro @Dl.eq_1<|And.intro @Dl.eq_2<|And.intro @vZ.eq_1<|And.intro @vZ.eq_2<|And.intro @E7<|And.intro @Ao<|And.intro @Ci<|And.intro @Cr<|And.intro @List.take_zero.{0}<|And.intro @List.take_succ_cons.{0}<|And.intro @List.take_nil.{0}<|And.intro @List.drop_zero.{0}<|And.intro @List.drop_succ_cons.{0}<|And.intro @List.drop_nil.{0}<|And.intro @List.append_nil.{0} <| @Nat.le_refl
def Su (P:Nat→Nat→aA→VV→Prop) (H:aA) (r:VV) (H':aA):Prop:=H <+: H'∧P H.length H'.length H' r
theorem Ak {F lo:Nat} {args:List VV} {P:Nat→Nat→aA→VV→Prop} {H:aA} {K:VV→aA→Prop} (rH:Au.contains F=true) (h:iY F args lo H (Su P H)) (hk:∀r L,P H.length (H++L).length (H++L) r→K r (H++L)):cM F args lo H K:=by
 refine dL rH (h.mono ?_)
 rintro r H' ⟨⟨L,rfl⟩,hP⟩
 exact hk r L hP
end Go.PM
namespace Go.PM
open Go.Lib
abbrev cell0:bM := .row 0 [.agg [VB false,.tree [] .nil,.tree [] .nil]] 3 true
set_option maxHeartbeats 1000000 in
abbrev rz:VV := .agg [VB false,.tree [] .nil,.tree [] .nil]
theorem JF {H H1:aA} {b:Nat} {x:bM} (h:H <+: H1) (hb:H.length≤b):H <+: H1.set b x:=by
 obtain⟨L,rfl⟩:=h
 rw[List.set_append_right _ _ hb]
 exact List.prefix_append _ _
theorem Yq {H H1 L:aA} (h:H <+: H1):H <+: H1++L:=h.trans (List.prefix_append _ _)
theorem WT {lo:Nat} {H:aA} {q:Rat} (h:lo≤H.length):bX lo 3 (.ptr H.length 0 0 0) (bD q) (H++[cell0])=some (H++[.row 0 [bD q] 3 true]):=by
 rw[dG (g:=0) (e:=3) (j:=0) dZ (by exact Nat.zero_lt_one) h rfl rfl,zU]
 rfl
theorem aaT {H K:aA} {q:Rat}:cQ true 3 (.ptr H.length 0 0 0) (H ++ .row 0 [bD q] 3 true::K)=some (bD q):=by
 rw[cG,CF,aV]
 exact vI _
theorem K2 {q:Rat}:0<C6 q↔0<q:=by
 have e:0<q.num↔0<q:=by
  constructor
  ·intro h
   have h1:0≤q:=Rat.num_nonneg.1 (by omega)
   have h2:q≠0:=fun h'=>by rw[h'] at h;exact absurd h (by decide)
   grind
  ·intro h
   have h1:0≤q.num:=Rat.num_nonneg.2 (by grind)
   have h2:q.num≠0:=fun h'=>by rw[Rat.num_eq_zero] at h';rw[h'] at h;exact absurd h (by decide)
   omega
 rw[←e]
 rcases Int.lt_trichotomy q.num 0 with h | h | h
 ·rw[ZZ h];omega
 ·rw[ZR h];omega
 ·rw[Z1 h];omega
theorem RZ:Qc none = .dS [bH bD [],VB false]:=rfl
theorem Rr (qs:List Rat):Qc (some qs) = .dS [bH bD qs,VB true]:=rfl
end Go.PM
namespace Go.PM
open Go.Lib
end Go.PM
namespace Go.PM
def yC:aE:=(LS [LO 10 (.bin .lss (LT 9) (LT 8))] (.seq (.cond (LT 10) .skip (.exit 0)) (.seq (.block 1 (LS [LM 11 9,LM 4 11] (.eG [LM 12 3,LM 13 4,LO 14 (.call 97 [(LI 0)]),LO 15 (.lit [(.bool false),(.slice none 0 0),(.slice none 0 0)] 1 [(0,(LT 14))]),LM 16 0,LO 17 (.call 202 [(LT 15),(LT 16)]),LO 18 (.iaddr 1 (LT 12) (LT 13)),LN (.store 1 (LT 18) (LT 17))]))) (.eG [LO 19 (.bin .add (LT 9) (LI 1)),LM 9 19]))))
def Et:aE:=(LS [LO 2 (.mv (.const (.slice none 0 0)))] (LS [LM 5 0,LO 6 (.make [(.slice none 0 0)] 24 (LT 5) (LT 5)),LM 3 6] (.seq (LS [LM 7 3,LO 8 (.len (LT 7)),LO 9 (.mv (LI 0))] (.block 0 (.loop yC))) (LS [LM 20 3,LM 2 20] .ret))))
def Iw:aT:=⟨21,[(.tmp 2)],Et⟩
theorem Nh:hC 128=some Iw:=by kernel_rfl
def qK:aE:=(LS [LO 13 (.bin .lss (LT 12) (LT 11))] (.seq (.cond (LT 13) .skip (.exit 0)) (.seq (.block 1 (LS [LO 14 (.iaddr 1 (LT 10) (LT 12)),LO 15 (LL 14),LM 6 15] (LS [LM 17 6,LO 18 (.call 111 [(LT 17)]),LM 16 18,LO 19 (LX 16 0),LO 20 (LX 16 1),LM 7 19,LM 8 20] (.seq (LS [LM 21 8,LO 22 (.un .not (LT 21))] (.cond (LT 22) (LS [LO 23 (.build [(.slice none 0 0)] [(0,1)] []),LN (.store 1 (LT 2) (LT 23)),LO 3 (.mv LF)] .ret) .skip)) (.eG [LO 24 (LA 0 4),LO 25 (LL 24),LM 26 7,LO 27 (.lit [(.slice none 0 0)] 1 [(0,(LT 26))]),LO 28 (.app 1 24 (LT 25) (LT 27)),LO 29 (LA 0 4),LN (.store 1 (LT 29) (LT 28))]))))) (.eG [LO 30 (.bin .add (LT 12) (LI 1)),LM 12 30]))))
def zX:aE:=(LS [LO 2 (.new [(.slice none 0 0)]),LO 3 (.mv LF)] (LS [LO 9 (.build [(.slice none 0 0)] [(0,1)] []),LO 4 (.new [(.slice none 0 0)]),LN (.store 1 (LT 4) (LT 9))] (.seq (LS [LM 10 0,LO 11 (.len (LT 10)),LO 12 (.mv (LI 0))] (.block 0 (.loop qK))) (LS [LO 31 (.load true 1 (LT 4)),LN (.store 1 (LT 2) (LT 31)),LO 3 (.mv LG)] .ret))))
def BJ:aT:=⟨32,[(.cell 2 true 1),(.tmp 3)],zX⟩
theorem FY:hC 149=some BJ:=by kernel_rfl
end Go.PM
namespace Go.PM
open Go.Lib
theorem Ud (x:List Rat):(aB (bH bD x)).length=1:=rfl
theorem WN (m:List (List Rat)):aN (bH (bH bD) m)=true:=jH Ud uS
end Go.PM
namespace Go.PM
theorem M9 (n:Nat) (h:n<18446744073709551616):cV .and (.int .u64 (n:Int)) (.int .u64 4294967295)=some (.int .u64 ((n % 4294967296:Nat):Int)):=by
 simp only[cV,if_true]
 have h1:(BitVec.ofInt IntKind.u64.bits (n:Int) &&& BitVec.ofInt IntKind.u64.bits 4294967295).toNat=n % 4294967296:=by
  rw[BitVec.toNat_and]
  have e1:(BitVec.ofInt IntKind.u64.bits (n:Int)).toNat=n:=by
   rw[BitVec.toNat_ofInt]
   simp only[IntKind.bits]
   omega
  have e2:(BitVec.ofInt IntKind.u64.bits 4294967295).toNat=2^32-1:=by
   rw[BitVec.toNat_ofInt]
   simp only[IntKind.bits]
   omega
  rw[e1,e2,Nat.and_two_pow_sub_one_eq_mod]
 rw[h1,dQ _ (by omega)]
end Go.PM
namespace Go.PM
def Kk (cs:List iZ) (i:Nat):Int:=((cs[i]?).map (·.t)).getD 0
def V5 (cs:List iZ) (i:Nat):Int:=((cs[i]?).map (·.w)).getD 0
def klC (cs:List iZ) (i:Nat):Int:=((cs[i]?).map (·.k)).getD 0
def FB (st:List Int) (i:Nat):Int:=(st[i]?).getD 0
theorem Rh {cs:List iZ} {i:Nat} {x:iZ} (h:cs[i]? = some x):Kk cs i=x.t:=by simp[Kk,h]
theorem afY {cs:List iZ} {i:Nat} {x:iZ} (h:cs[i]? = some x):V5 cs i=x.w:=by simp[V5,h]
theorem Ze {st:List Int} {i:Nat} {x:Int} (h:st[i]? = some x):FB st i=x:=by simp[FB,h]
def ZM (cs:List iZ) (st:List Int) (t:Int) (i:Nat):Bool:=decide (0≤FB st i)&&decide (FB st i≤t)&&decide (t<FB st i+V5 cs i)
def bz (cs:List iZ) (st:List Int) (t:Int):Nat:=(List.range cs.length).countP (ZM cs st t)
def isW (cs:List iZ) (st:List Int) (t:Int) (i:Nat):Bool:=decide (FB st i<0)&&decide (Kk cs i≤t)
def wt (cs:List iZ) (st:List Int) (t:Int):List Nat:=(List.range cs.length).filter (isW cs st t)
def HW (bZ:Int) (cs:List iZ) (i k:Nat):Bool :=
 if bZ=1 then true else if bZ=2 then decide (V5 cs i<V5 cs k) else if bZ=3 then decide (klC cs i<klC cs k) else false
def xQ (bZ:Int) (cs:List iZ) (b:Option Nat) (i:Nat):Option Nat:=match b with
 | none=>some i
 | some k=>if HW bZ cs i k then some i else some k
def Zu (bZ:Int) (cs:List iZ) (st:List Int) (t:Int):Option Nat:=(wt cs st t).foldl (xQ bZ cs) none
def fill (bZ pW:Int) (cs:List iZ) (t:Int):Nat→List Int→List Int
 | 0,st=>st
 |
  n+1,st=>if (bz cs st t:Int)<pW then (match Zu bZ cs st t with
  | none=>st
  | some k=>fill bZ pW cs t n (st.set k t)) else st
def full (bZ pW:Int) (cs:List iZ) (st:List Int) (t:Int):Prop:=pW≤(bz cs st t:Int)∨Zu bZ cs st t=none
def runT (bZ pW:Int) (cs:List iZ):Int→Nat→List Int→List Int
 | _,0,st=>st
 | t,n+1,st=>runT bZ pW cs (t+1) n (fill bZ pW cs t cs.length st)
def stL (bZ pW:Int) (cs:List iZ):List Int:=runT bZ pW cs 0 100000 (List.replicate cs.length (-1))
section
variable {bZ pW:Int} {cs:List iZ} {st:List Int} {t:Int}
theorem uB (h:full bZ pW cs st t) (n:Nat):fill bZ pW cs t n st=st:=by
 cases n with
 | zero=>rfl
 |
  succ n =>
  rw[fill]
  rcases h with h | h
  ·rw[if_neg (by omega)]
  ·split
   ·rw[h]
   ·rfl
theorem KQ (m:Nat):∀(t:Int) (n:Nat),(∀u,t≤u→u<t+m→full bZ pW cs st u)→m≤n→runT bZ pW cs t n st=runT bZ pW cs (t+m) (n-m) st:=by
 induction m with
 | zero=>intro t n _ _;simp
 |
  succ m ih =>
  intro t n h hm
  obtain⟨n,rfl⟩:∃k,n=k+1:=⟨n-1,by omega⟩
  rw[runT,uB (h t (Int.le_refl _) (by omega)),ih (t+1) n (fun u h1 h2=>h u (by omega) (by omega)) (by omega)]
  congr 1
  ·omega
  ·omega
theorem UL (n:Nat):∀(t:Int),(∀u,t≤u→full bZ pW cs st u)→runT bZ pW cs t n st=st:=by
 intro t h
 rw[KQ n t n (fun u h1 _=>h u h1) (Nat.le_refl _),Nat.sub_self]
 rfl
theorem TQ {a b:Int} (ha:0≤a) (Io:a≤b) (hb:b≤100000) (h:∀u,a≤u→u<b→full bZ pW cs st u):runT bZ pW cs a (100000-a).toNat st=runT bZ pW cs b (100000-b).toNat st:=by
 rw[KQ (b-a).toNat a _ (fun u h1 h2=>h u h1 (by omega)) (by omega)]
 congr 1
 ·omega
 ·omega
theorem Wn {a:Int} (ha:0≤a) (hb:a<100000):runT bZ pW cs a (100000-a).toNat st=runT bZ pW cs (a+1) (100000-(a+1)).toNat (fill bZ pW cs a cs.length st):=by
 rw[show (100000-a).toNat=(100000-(a+1)).toNat+1 by omega,runT]
theorem Ld {ws:List Nat} {k:Nat}:∃j,(ws.foldl (xQ bZ cs) (some k))=some j∧(j=k∨j∈ws):=by
 induction ws generalizing k with
 | nil=>exact⟨k,rfl,.inl rfl⟩
 |
  cons i ws ih =>
  rw[List.foldl_cons]
  have:∃q,xQ bZ cs (some k) i=some q∧(q=k∨q=i):=by
   unfold xQ
   simp only
   split
   ·exact⟨i,rfl,.inr rfl⟩
   ·exact⟨k,rfl,.inl rfl⟩
  obtain⟨q,hq,hqq⟩:=this
  rw[hq]
  obtain⟨j,h1,h2⟩:=ih (k:=q)
  refine⟨j,h1,?_⟩
  rcases h2 with rfl | h2
  ·rcases hqq with rfl | rfl
   ·exact .inl rfl
   ·exact .inr List.mem_cons_self
  ·exact .inr (List.mem_cons_of_mem _ h2)
theorem wM:Zu bZ cs st t=none↔wt cs st t=[]:=by
 unfold Zu
 cases h:wt cs st t with
 | nil=>exact⟨fun _=>rfl,fun _=>rfl⟩
 |
  cons i ws =>
  refine⟨fun h2 => ?_,fun h2=>(by cases h2)⟩
  rw[List.foldl_cons] at h2
  obtain⟨j,h3,_⟩:=Ld (bZ:=bZ) (cs:=cs) (ws:=ws) (k:=i)
  rw[show xQ bZ cs none i=some i from rfl,h3] at h2
  cases h2
theorem MQ {k:Nat} (h:Zu bZ cs st t=some k):k∈wt cs st t:=by
 unfold Zu at h
 cases hw:wt cs st t with
 | nil=>rw[hw] at h;cases h
 |
  cons i ws =>
  rw[hw,List.foldl_cons] at h
  obtain⟨j,h3,h4⟩:=Ld (bZ:=bZ) (cs:=cs) (ws:=ws) (k:=i)
  rw[show xQ bZ cs none i=some i from rfl,h3] at h
  injection h with h
  subst h
  rcases h4 with rfl | h4
  ·exact List.mem_cons_self
  ·exact List.mem_cons_of_mem _ h4
theorem I6 {k:Nat}:k∈wt cs st t↔k<cs.length∧FB st k<0∧Kk cs k≤t:=by
 simp[wt,isW]
theorem Zh:(wt cs st t).Nodup:=List.Pairwise.filter _ List.nodup_range
theorem EF {k i:Nat} (hk:k<st.length):FB (st.set k t) i=if i=k then t else FB st i:=by
 unfold FB
 rw[List.getElem?_set]
 by_cases h:i=k
 ·subst h
  simp[hk]
 ·rw[if_neg (fun h'=>h h'.symm),if_neg h]
theorem M4 {p q:Nat→Bool} {k:Nat} (hp:p k=false) (h:∀i,i≠k→q i=p i):∀n,(List.range n).countP q=(List.range n).countP p+if k<n∧q k=true then 1 else 0:=by
 intro n
 induction n with
 | zero=>simp
 |
  succ n ih =>
  rw[List.range_succ,List.countP_append,List.countP_append,ih]
  by_cases hk:n=k
  ·subst hk
   simp only[List.countP_singleton,hp]
   cases hq:q n<;>simp
  ·rw[List.countP_singleton,List.countP_singleton,h n hk]
   have:(k<n+1∧q k=true)↔(k<n∧q k=true):=by
    constructor
    ·rintro⟨h1,h2⟩;exact⟨by omega,h2⟩
    ·rintro⟨h1,h2⟩;exact⟨by omega,h2⟩
   simp only[this]
   omega
theorem agS {k:Nat} {u:Int} (hk:k<cs.length) (hl:st.length=cs.length) (hs:FB st k<0) (h0:0≤t):bz cs (st.set k t) u=bz cs st u+if t≤u∧u<t+V5 cs k then 1 else 0:=by
 unfold bz
 rw[M4 (p:=ZM cs st u) (q:=ZM cs (st.set k t) u) (k:=k)]
 ·congr 1
  have:(k<cs.length∧ZM cs (st.set k t) u k=true)↔(t≤u∧u<t+V5 cs k):=by
   simp only[ZM,EF (t:=t) (i:=k) (by omega:k<st.length),if_true,Bool.and_eq_true,decide_eq_true_eq]
   constructor
   ·rintro⟨_,⟨_,h1⟩,h2⟩;exact⟨h1,h2⟩
   ·rintro⟨h1,h2⟩;exact⟨hk,⟨h0,h1⟩,h2⟩
  simp only[this]
 ·simp only[ZM]
  rw[decide_eq_false (by omega)]
  rfl
 ·intro i hi
  simp only[ZM,EF (t:=t) (i:=i) (by omega:k<st.length),if_neg hi]
theorem adQ {k:Nat} {u:Int} (hl:st.length=cs.length) (hk:k<cs.length) (h0:0≤t):wt cs (st.set k t) u=(wt cs st u).filter (· != k):=by
 unfold wt
 rw[List.filter_filter]
 refine List.filter_congr fun i hi => ?_
 simp only[isW,EF (t:=t) (i:=i) (by omega:k<st.length)]
 by_cases h:i=k
 ·subst h
  simp
  omega
 ·simp[h]
def DN (st:List Int):Nat:=st.countP (fun s=>decide (s<0))
theorem zY {k:Nat} (hk:k<st.length) (hs:FB st k<0) (h0:0≤t):DN (st.set k t)+1=DN st:=by
 unfold DN
 rw[List.countP_set hk]
 have hx:st[k]=FB st k:=by
  rw[Ze (x:=st[k]) (List.getElem?_eq_getElem hk)]
 have h1:decide (st[k]<0)=true:=by rw[hx];exact decide_eq_true hs
 have h2:decide (t<0)=false:=decide_eq_false (by omega)
 have h3:0<st.countP (fun s=>decide (s<0)):=by
  rw[List.countP_pos_iff]
  exact⟨st[k],List.getElem_mem hk,h1⟩
 simp only[h1,h2,if_true,Bool.false_eq_true,if_false]
 omega
theorem Va (hl:st.length=cs.length) (h0:0≤t):∀(n m:Nat),DN st≤n→DN st≤m→fill bZ pW cs t n st=fill bZ pW cs t m st:=by
 intro n
 induction n generalizing st with
 |
  zero =>
  intro m hn hm
  have hf:full bZ pW cs st t:=by
   right
   rw[wM]
   cases hw:wt cs st t with
   | nil=>rfl
   |
    cons i ws =>
    have h1:i∈wt cs st t:=by rw[hw];exact List.mem_cons_self
    obtain⟨h2,h3,_⟩:=I6.1 h1
    have:=zY (t:=t) (by omega:i<st.length) h3 h0
    omega
  rw[uB hf,uB hf]
 |
  succ n ih =>
  intro m hn hm
  cases m with
  |
   zero =>
   have hf:full bZ pW cs st t:=by
    right
    rw[wM]
    cases hw:wt cs st t with
    | nil=>rfl
    |
     cons i ws =>
     have h1:i∈wt cs st t:=by rw[hw];exact List.mem_cons_self
     obtain⟨h2,h3,_⟩:=I6.1 h1
     have:=zY (t:=t) (by omega:i<st.length) h3 h0
     omega
   rw[uB hf,uB hf]
  |
   succ m =>
   rw[fill,fill]
   split
   ·split
    ·rfl
    ·rename_i k hk
     obtain⟨h2,h3,_⟩:=I6.1 (MQ hk)
     have:=zY (t:=t) (by omega:k<st.length) h3 h0
     exact ih (by simp[hl]) m (by omega) (by omega)
   ·rfl
theorem SU:DN st≤st.length:=List.countP_le_length
theorem Vm {k:Nat} (hl:st.length=cs.length) (h0:0≤t) (hb:(bz cs st t:Int)<pW) (hk:Zu bZ cs st t=some k):fill bZ pW cs t cs.length (st.set k t)=fill bZ pW cs t cs.length st:=by
 obtain⟨h2,h3,_⟩:=I6.1 (MQ hk)
 have h4:=zY (t:=t) (by omega:k<st.length) h3 h0
 have h5:=SU (st:=st)
 rw[Va (st:=st) hl h0 cs.length (cs.length+1) (by omega) (by omega)]
 conv=>rhs;rw[fill,if_pos hb,hk]
def evT (cs:List iZ) (st:List Int) (i:Nat):Int:=if 0≤FB st i then FB st i+V5 cs i else Kk cs i
def aeY (cs:List iZ) (st:List Int) (t:Int) (b:Int) (i:Nat):Int:=if t<evT cs st i∧(b<0∨evT cs st i<b) then evT cs st i else b
def later (cs:List iZ) (st:List Int) (t:Int):Int:=(List.range cs.length).foldl (aeY cs st t) (-1)
structure Way (cs:List iZ) (st:List Int) (t:Int):Prop where
 len:st.length=cs.length
 low:∀i,i<cs.length → -1≤FB st i
 high:∀i,i<cs.length→FB st i≤t
 bd:∀i,i<cs.length→FB st i+1000*(DN st:Int)≤10000+1000*(cs.length:Int)
 tm:0≤t∧t+1000*(DN st:Int)≤11000+1000*(cs.length:Int)
theorem Way.set {k:Nat} (h:Way cs st t) (hk:k<cs.length) (hs:FB st k<0):Way cs (st.set k t) t:=by
 have hl:=h.len
 have Wb:=h.tm
 have h4:=zY (t:=t) (by omega:k<st.length) hs Wb.1
 refine⟨by simp[hl],fun i hi => ?_,fun i hi => ?_,fun i hi => ?_,Wb.1,by omega⟩
 all_goals rw[EF (by omega:k<st.length)]
 ·have:=h.low i hi
  split<;>omega
 ·have:=h.high i hi
  split<;>omega
 ·have:=h.bd i hi
  split<;>omega
theorem Way.le (h:Way cs st t) (hc:kT cs):t≤35000∧∀i,i<cs.length→FB st i≤34000:=by
 have hlen:=hc.2
 have Wb:=h.tm
 refine⟨by omega,fun i hi => ?_⟩
 have:=h.bd i hi
 omega
theorem kT.bnd (hc:kT cs) {i:Nat} (hi:i<cs.length):(0≤Kk cs i∧Kk cs i≤10000)∧(1≤V5 cs i∧V5 cs i≤1000):=by
 have hx:cs[i]? = some cs[i]:=List.getElem?_eq_getElem hi
 have:=hc.at hx
 rw[Rh hx,afY hx]
 exact⟨this.1,this.2.1⟩
def IX (bZ:Int) (cs:List iZ) (ws:List Nat):Nat :=
 if bZ=1 then ws.length-1 else if bZ=2∨bZ=3 then (List.range ws.length).foldl (fun b k=>if HW bZ cs (ws.getD k 0) (ws.getD b 0) then k else b) 0 else 0
theorem RF {ws:List Nat} {k:Nat} (h:∀i j,HW bZ cs i j=false):ws.foldl (xQ bZ cs) (some k)=some k:=by
 induction ws with
 | nil=>rfl
 |
  cons i ws ih =>
  rw[List.foldl_cons]
  have:xQ bZ cs (some k) i=some k:=by
   unfold xQ
   simp only[h]
   rfl
  rw[this,ih]
theorem XH {ws:List Nat} (eV:ws≠[]) (hr:0≤bZ∧bZ≤3):IX bZ cs ws<ws.length∧ws[IX bZ cs ws]? = ws.foldl (xQ bZ cs) none:=by
 have hlen:0<ws.length:=List.length_pos_iff.2 eV
 unfold IX
 by_cases h1:bZ=1
 ·rw[if_pos h1]
  rcases List.eq_nil_or_concat ws with rfl | ⟨xs,y,rfl⟩
  ·exact absurd rfl eV
  ·rw[List.concat_eq_append,List.foldl_append]
   refine⟨by simp,?_⟩
   simp only[List.length_append,List.length_cons,List.length_nil,Nat.zero_add,Nat.add_sub_cancel,List.foldl_cons,List.foldl_nil]
   rw[List.getElem?_append_right (Nat.le_refl _),Nat.sub_self]
   unfold xQ
   split
   ·rfl
   ·simp only[HW,if_pos h1,if_true]
    rfl
 ·rw[if_neg h1]
  by_cases h2:bZ=2∨bZ=3
  ·rw[if_pos h2]
   have arC:∀i,HW bZ cs i i=false:=fun i=>by
    unfold HW
    rw[if_neg h1]
    split
    ·exact decide_eq_false (by omega)
    ·split
     ·exact decide_eq_false (by omega)
     ·rfl
   have key:∀n,n<ws.length→(List.range (n+1)).foldl (fun b k=>if HW bZ cs (ws.getD k 0) (ws.getD b 0) then k else b) 0<ws.length ∧
     ws[(List.range (n+1)).foldl (fun b k=>if HW bZ cs (ws.getD k 0) (ws.getD b 0) then k else b) 0]? = (ws.take (n+1)).foldl (xQ bZ cs) none:=by
    intro n
    induction n with
    |
     zero =>
     intro _
     have:(List.range (0+1)).foldl (fun b k=>if HW bZ cs (ws.getD k 0) (ws.getD b 0) then k else b) 0=0:=by
      simp[List.range_succ,arC]
     rw[this]
     refine⟨hlen,?_⟩
     cases ws with
     | nil=>exact absurd rfl eV
     | cons i ws=>rfl
    |
     succ n ih =>
     intro hn
     obtain⟨g1,g2⟩:=ih (by omega)
     rw[List.range_succ,List.foldl_append,List.foldl_cons,List.foldl_nil]
     generalize (List.range (n+1)).foldl (fun b k=>if HW bZ cs (ws.getD k 0) (ws.getD b 0) then k else b) 0=b at *
     obtain⟨x,hx⟩:∃x,ws[n+1]? = some x:=⟨_,List.getElem?_eq_getElem hn⟩
     obtain⟨y,hy⟩:∃y,ws[b]? = some y:=⟨_,List.getElem?_eq_getElem g1⟩
     rw[List.take_add_one,hx,List.foldl_append,←g2,hy]
     simp only[Option.toList_some,List.foldl_cons,List.foldl_nil,List.getD_eq_getElem?_getD,hx,hy,Option.getD_some,xQ]
     split
     ·exact⟨hn,hx⟩
     ·exact⟨g1,hy⟩
   have:=key (ws.length-1) (by omega)
   rw[show ws.length-1+1=ws.length by omega,List.take_of_length_le (Nat.le_refl _)] at this
   exact this
  ·rw[if_neg h2]
   refine⟨hlen,?_⟩
   have hb:∀i j,HW bZ cs i j=false:=fun i j=>by
    unfold HW
    rw[if_neg h1,if_neg (by omega),if_neg (by omega)]
   cases ws with
   | nil=>exact absurd rfl eV
   |
    cons i ws =>
    rw[List.foldl_cons,show xQ bZ cs none i=some i from rfl,RF hb]
    rfl
end
end Go.PM
namespace Go.PM
def Rj (st:List Int) (i:Nat):Bool:=decide (FB st i<0)
def gtB (u e:Int):Bool:=decide (u<e)
section
variable {bZ pW:Int} {cs:List iZ} {st:List Int} {t:Int}
theorem kT.sorted (hc:kT cs):∀ {i j:Nat},i≤j→j<cs.length→Kk cs i≤Kk cs j:=by
 intro i j QW hj
 induction j with
 |
  zero =>
  have:i=0:=by omega
  subst this
  exact Int.le_refl _
 |
  succ j ih =>
  rcases Nat.lt_or_ge i (j+1) with h | h
  ·have h1:=ih (by omega) (by omega)
   have hx:cs[j+1]? = some cs[j+1]:=List.getElem?_eq_getElem hj
   have hy:cs[j]? = some cs[j]:=List.getElem?_eq_getElem (by omega)
   have h2:=(hc.1 (j+1) _ hx).2 _ (by omega) (by rw[Nat.add_sub_cancel];exact hy)
   rw[Rh hx]
   rw[Rh hy] at h1
   omega
  ·have:i=j+1:=by omega
   subst this
   exact Int.le_refl _
theorem Ek {eR:Nat} (ajN:eR≤cs.length) (past:∀i,i<eR→Kk cs i≤t) (fut:∀i,eR≤i→i<cs.length→t<Kk cs i):wt cs st t=(List.range eR).filter (Rj st):=by
 unfold wt
 rw[show cs.length=eR+(cs.length-eR) by omega,List.range_add,List.filter_append]
 have h1:(List.range eR).filter (isW cs st t)=(List.range eR).filter (Rj st):=by
  refine List.filter_congr fun i hi => ?_
  rw[List.mem_range] at hi
  simp[isW,Rj,past i hi]
 have h2:((List.range (cs.length-eR)).map fun x=>eR+x).filter (isW cs st t)=[]:=by
  rw[List.filter_eq_nil_iff]
  intro i hi
  obtain⟨j,hj,rfl⟩:=List.mem_map.1 hi
  rw[List.mem_range] at hj
  have:=fut (eR+j) (by omega) (by omega)
  simp only[isW,Bool.and_eq_true,decide_eq_true_eq]
  omega
 rw[h1,h2,List.append_nil]
structure NF (bZ pW:Int) (cs:List iZ) (st:List Int) (t:Int) (eR:Nat) (ws:List Nat) (ends:List Int):Prop where
 len:st.length=cs.length
 low:∀i,i<cs.length → -1≤FB st i
 high:∀i,i<cs.length→FB st i≤t
 bd:∀i,i<cs.length→FB st i+1000*(DN st:Int)≤10000+1000*(cs.length:Int)
 tm : -1≤t
 Mg:eR≤cs.length
 past:∀i,i<eR→Kk cs i≤t
 fut:∀i,eR≤i→i<cs.length→t<Kk cs i∧FB st i<0
 wsq:ws=wt cs st t
 cnt:∀u,t≤u→ends.countP (gtB u)=bz cs st u
 ef:∀e∈ends,t<e
 eb:∀e∈ends,e+1000*(DN st:Int)≤11000+1000*(cs.length:Int)
 fl:full bZ pW cs st t
 room:ws.length+ends.length≤eR
 es:(ends.length:Int)≤pW
 run:runT bZ pW cs (t+1) (100000-(t+1)).toNat st=stL bZ pW cs
theorem E8 {n i:Nat} (h:i<n):FB (List.replicate n (-1)) i = -1:=Ze (by rw[List.getElem?_replicate,if_pos h])
theorem NF.start (hc:kT cs) (hs:1≤pW):NF bZ pW cs (List.replicate cs.length (-1)) (-1) 0 [] []:=by
 have hw:wt cs (List.replicate cs.length (-1)) (-1)=[]:=by
  rw[Ek (Nat.zero_le _) (fun i hi=>by omega) fun i _ hi=>by have:=hc.bnd hi;omega]
  rfl
 have hu:DN (List.replicate cs.length (-1))=cs.length:=by simp[DN,List.countP_replicate]
 refine⟨by simp,fun i hi=>by rw[E8 hi];decide,fun i hi=>by rw[E8 hi];decide,fun i hi=>by rw[E8 hi,hu];omega,by decide,Nat.zero_le _,fun i hi=>by omega,fun i _ hi=>⟨by have:=hc.bnd hi;omega,by rw[E8 hi];decide⟩,hw.symm,fun u _ => ?_,fun e he=>(by cases he),fun e he=>(by cases he),.inr (wM.2 hw),Nat.le_refl _,by simp;omega,rfl⟩
 unfold bz
 rw[(List.countP_eq_zero (p:=ZM cs (List.replicate cs.length (-1)) u)).2]
 ·rfl
 ·intro i hi
  rw[List.mem_range] at hi
  simp only[ZM,E8 hi,Bool.and_eq_true,decide_eq_true_eq]
  omega
def NM (w:Bool) (b e:Int):Int:=if b<0∨(w=true∧e<b) then e else b
theorem adO {es:List Int} {b:Int} (h:0≤b):es.foldl (NM false) b=b:=by
 induction es with
 | nil=>rfl
 |
  cons e es ih =>
  rw[List.foldl_cons]
  have:NM false b e=b:=by
   unfold NM
   rw[if_neg (by simp;omega)]
  rw[this,ih]
theorem acA:∀ {es:List Int} {b:Int},(∀e∈es,0≤e)→(es.foldl (NM true) b=b∨es.foldl (NM true) b∈es)∧(∀e∈es,es.foldl (NM true) b≤e)∧(0≤b→es.foldl (NM true) b≤b)∧(es≠[]→0≤es.foldl (NM true) b)
 | [],b,_=>⟨.inl rfl,fun e he=>(by cases he),fun _=>Int.le_refl _,fun h=>absurd rfl h⟩
 |
  e::es,b,h=>by
  rw[List.foldl_cons]
  have h1:=h e List.mem_cons_self
  have h2:∀e'∈es,0≤e':=fun e' he=>h e' (List.mem_cons_of_mem _ he)
  have hm:(NM true b e=b∨NM true b e=e)∧NM true b e≤e∧(0≤b→NM true b e≤b)∧0≤NM true b e:=by
   unfold NM
   by_cases hc:b<0∨(true=true∧e<b)
   ·rw[if_pos hc]
    refine⟨.inr rfl,Int.le_refl _,fun hb => ?_,h1⟩
    rcases hc with hc | hc<;>omega
   ·rw[if_neg hc]
    simp at hc
    exact⟨.inl rfl,hc.2,fun _=>Int.le_refl _,hc.1⟩
  obtain⟨m1,m2,m3,m4⟩:=hm
  obtain⟨g1,g2,g3,g4⟩:=acA (es:=es) (b:=NM true b e) h2
  have g3:=g3 m4
  refine⟨?_,?_,fun hb=>by have:=m3 hb;omega,fun _ => ?_⟩
  ·rcases g1 with g1 | g1
   ·rw[g1]
    rcases m1 with m1 | m1
    ·exact .inl m1
    ·rw[m1];exact .inr List.mem_cons_self
   ·exact .inr (List.mem_cons_of_mem _ g1)
  ·intro e' he
   rcases List.mem_cons.1 he with rfl | he
   ·omega
   ·exact g2 e' he
  ·rcases g1 with g1 | g1
   ·rw[g1];exact m4
   ·exact h2 _ g1
def MF (cs:List iZ) (eR:Nat):Int:=if eR<cs.length then Kk cs eR else -1
def J1 (cs:List iZ) (eR:Nat) (ws:List Nat) (ends:List Int):Int:=ends.foldl (NM (decide (0<ws.length))) (MF cs eR)
theorem NF.Xc {eR:Nat} {ws:List Nat} {ends:List Int} (h:NF bZ pW cs st t eR ws ends):ends.length=bz cs st t:=by
 rw[←h.cnt t (Int.le_refl _),List.countP_eq_length.2]
 intro e he
 exact decide_eq_true (h.ef e he)
theorem NF.time {eR:Nat} {ws:List Nat} {ends:List Int} (h:NF bZ pW cs st t eR ws ends) (hc:kT cs) (hs:1≤pW) (hg:eR<cs.length∨0<ws.length) :
  (t<J1 cs eR ws ends∧J1 cs eR ws ends+1000*(DN st:Int)≤11000+1000*(cs.length:Int))∧(∀i,eR≤i→i<cs.length→J1 cs eR ws ends≤Kk cs i) ∧
   (eR<cs.length∧Kk cs eR=J1 cs eR ws ends∨0<ws.length∧J1 cs eR ws ends∈ends)∧runT bZ pW cs (J1 cs eR ws ends) (100000-J1 cs eR ws ends).toNat st=stL bZ pW cs:=by
 have Wb:=h.tm
 have NK:=SU (st:=st)
 have hlen:=h.len
 have he0:∀e∈ends,0≤e:=fun e he=>by have:=h.ef e he;omega
 have atL:=hc.2
 by_cases hw:0<ws.length
 ·have hbz:pW≤(bz cs st t:Int):=by
   rcases h.fl with hf | hf
   ·exact hf
   ·rw[wM,←h.wsq] at hf
    rw[hf] at hw
    simp at hw
  have eV:ends≠[]:=by
   intro he
   have:=h.Xc
   rw[he] at this
   simp at this
   omega
  obtain⟨g1,g2,g3,g4⟩:=acA (es:=ends) (b:=MF cs eR) he0
  have Ul:J1 cs eR ws ends=ends.foldl (NM true) (MF cs eR):=by unfold J1;rw[decide_eq_true hw]
  rw[Ul]
  generalize ends.foldl (NM true) (MF cs eR)=w at *
  have g4:=g4 eV
  have Is:(eR<cs.length∧Kk cs eR=w)∨w∈ends:=by
   rcases g1 with g1 | g1
   ·unfold MF at g1
    split at g1
    ·rename_i lO
     exact .inl ⟨lO,g1.symm⟩
    ·omega
   ·exact .inr g1
  have htw:t<w∧w+1000*(DN st:Int)≤11000+1000*(cs.length:Int):=by
   rcases Is with⟨h1,h2⟩ | h1
   ·have:=h.fut eR (Nat.le_refl _) h1
    have:=hc.bnd h1
    omega
   ·exact⟨h.ef _ h1,h.eb _ h1⟩
  refine⟨htw,fun i h1 h2 => ?_,Is.imp id fun h1=>⟨hw,h1⟩,?_⟩
  ·have h3:=hc.sorted h1 h2
   have h4:=hc.bnd (i:=eR) (by omega)
   have h5:MF cs eR=Kk cs eR:=by unfold MF;rw[if_pos (by omega)]
   have:=g3 (by rw[h5];omega)
   omega
  ·rw[←h.run]
   refine(TQ (by omega) (by omega) (by omega) fun u h1 h2 => .inl ?_).symm
   rw[←h.cnt u (by omega),(List.countP_eq_length (p:=gtB u)).2 fun e he=>decide_eq_true (by have:=g2 e he;omega),h.Xc]
   exact hbz
 ·have lO:eR<cs.length:=by omega
  have h5:MF cs eR=Kk cs eR:=by unfold MF;rw[if_pos lO]
  have h4:=hc.bnd lO
  have hf:=(h.fut eR (Nat.le_refl _) lO).1
  have Ul:J1 cs eR ws ends=Kk cs eR:=by unfold J1;rw[decide_eq_false hw,adO (by rw[h5];omega),h5]
  rw[Ul]
  refine⟨⟨hf,by omega⟩,fun i h1 h2=>hc.sorted h1 h2,.inl ⟨lO,rfl⟩,?_⟩
  rw[←h.run]
  refine(TQ (by omega) (by omega) (by omega) fun u h1 h2 => .inr ?_).symm
  rw[wM,Ek h.Mg (fun i hi=>by have:=h.past i hi;omega) fun i h3 h4=>by have:=hc.sorted h3 h4;omega]
  have e1:=Ek (st:=st) h.Mg h.past fun i h3 h4=>(h.fut i h3 h4).1
  rw[←e1,←h.wsq]
  exact List.eq_nil_of_length_eq_zero (by omega)
theorem NF.done {eR:Nat} {ws:List Nat} {ends:List Int} (h:NF bZ pW cs st t eR ws ends) (ajN:¬eR<cs.length) (hw:¬0<ws.length):st=stL bZ pW cs:=by
 rw[←h.run]
 refine(UL _ _ fun u hu => .inr ?_).symm
 have lO:=h.Mg
 have e1:=Ek (st:=st) h.Mg h.past fun i h3 h4=>(h.fut i h3 h4).1
 rw[wM,Ek h.Mg (fun i hi=>by have:=h.past i hi;omega) fun i h3 h4=>by omega,←e1,←h.wsq]
 exact List.eq_nil_of_length_eq_zero (by omega)
structure Ph4 (bZ pW:Int) (cs:List iZ) (st0:List Int) (now:Int) (eR Zs:Nat) (st:List Int) (ws:List Nat) (ends:List Int):Prop where
 Ur:Way cs st now
 wsq:ws=wt cs st now
 cnt:∀u,now≤u→ends.countP (gtB u)=bz cs st u
 ef:∀e∈ends,now<e
 eb:∀e∈ends,e+1000*(DN st:Int)≤11000+1000*(cs.length:Int)
 fl:fill bZ pW cs now cs.length st=fill bZ pW cs now cs.length st0
 past:∀i,i<eR→Kk cs i≤now
 fut:∀i,eR≤i→i<cs.length→now<Kk cs i∧FB st i<0
 Zs:ws.length+ends.length=Zs
 es:(ends.length:Int)≤pW
theorem AM:∀ {l:List Nat} {i k:Nat},l.Nodup→l[i]? = some k→l.eraseIdx i=l.filter (· != k)
 | [],_,_,_,h=>by cases h
 |
  x::l,0,k,hn,h=>by
  injection h with h
  subst h
  rw[List.nodup_cons] at hn
  rw[List.eraseIdx_cons_zero,List.filter_cons_of_neg (by simp),List.filter_eq_self.2]
  intro y hy
  have:y≠x:=fun he=>hn.1 (he▸hy)
  simpa using this
 |
  x::l,i+1,k,hn,h=>by
  rw[List.nodup_cons] at hn
  rw[List.getElem?_cons_succ] at h
  have hx:x≠k:=fun he=>hn.1 (he▸List.mem_of_getElem? h)
  rw[List.eraseIdx_cons_succ,List.filter_cons_of_pos (by simpa using hx),AM hn.2 h]
theorem Ph4.step {now:Int} {st0:List Int} {eR Zs:Nat} {ws:List Nat} {ends:List Int} (h:Ph4 bZ pW cs st0 now eR Zs st ws ends) (hc:kT cs) (hr:0≤bZ∧bZ≤3) (hb:(ends.length:Int)<pW) (eV:0<ws.length) :
  ∃k,ws[IX bZ cs ws]? = some k∧k<cs.length∧IX bZ cs ws<ws.length∧(0≤now∧now≤35000)∧Ph4 bZ pW cs st0 now eR Zs (st.set k now) (ws.eraseIdx (IX bZ cs ws)) (ends++[now+V5 cs k]):=by
 have Uz:ws≠[]:=fun he=>by rw[he] at eV;simp at eV
 obtain⟨g1,g2⟩:=XH (cs:=cs) Uz hr
 obtain⟨k,hk⟩:∃k,ws[IX bZ cs ws]? = some k:=⟨_,List.getElem?_eq_getElem g1⟩
 have hnx:Zu bZ cs st now=some k:=by
  unfold Zu
  rw[←h.wsq,←g2,hk]
 obtain⟨m1,m2,m3⟩:=I6.1 (MQ hnx)
 have Wb:=h.Ur.tm
 have hle:=(h.Ur.le hc).1
 have hbz:(bz cs st now:Int)=ends.length:=by
  rw[←h.cnt now (Int.le_refl _),(List.countP_eq_length (p:=gtB now)).2 fun e he=>decide_eq_true (h.ef e he)]
 have Rm:k<st.length:=by rw[h.Ur.len];exact m1
 have hus:=zY (t:=now) Rm m2 Wb.1
 have hwk:=(hc.bnd m1).2
 refine⟨k,hk,m1,g1,⟨Wb.1,hle⟩,h.Ur.set m1 m2,?_,?_,?_,?_,?_,h.past,?_,?_,?_⟩
 ·rw[adQ h.Ur.len m1 Wb.1,←h.wsq]
  exact AM (by rw[h.wsq];exact Zh) hk
 ·intro u hu
  rw[List.countP_append,h.cnt u hu,agS m1 h.Ur.len m2 Wb.1,List.countP_singleton]
  congr 1
  simp only[gtB,decide_eq_true_eq]
  by_cases hq:u<now+V5 cs k
  ·rw[if_pos hq,if_pos ⟨hu,hq⟩]
  ·rw[if_neg hq,if_neg fun h'=>hq h'.2]
 ·intro e he
  rcases List.mem_append.1 he with he | he
  ·exact h.ef e he
  ·rw[List.mem_singleton] at he
   omega
 ·intro e he
  rcases List.mem_append.1 he with he | he
  ·have:=h.eb e he
   omega
  ·rw[List.mem_singleton] at he
   omega
 ·rw[Vm h.Ur.len Wb.1 (by rw[hbz];exact hb) hnx,h.fl]
 ·intro i h1 h2
  have h3:=h.fut i h1 h2
  refine⟨h3.1,?_⟩
  rw[EF Rm,if_neg (fun he=>by subst he;omega)]
  exact h3.2
 ·rw[List.length_eraseIdx_of_lt g1,List.length_append,List.length_cons,List.length_nil]
  have:=h.Zs
  omega
 ·rw[List.length_append,List.length_cons,List.length_nil]
  omega
theorem Ph4.done {now:Int} {st0:List Int} {eR Zs:Nat} {ws:List Nat} {ends:List Int} (h:Ph4 bZ pW cs st0 now eR Zs st ws ends) (hc:kT cs) (lO:eR≤cs.length) (ht:Zs≤eR) (hf:pW≤(ends.length:Int)∨ws=[])
  (hr:runT bZ pW cs now (100000-now).toNat st0=stL bZ pW cs):NF bZ pW cs st now eR ws ends:=by
 have Wb:=h.Ur.tm
 have hle:=(h.Ur.le hc).1
 have hbz:(bz cs st now:Int)=ends.length:=by
  rw[←h.cnt now (Int.le_refl _),(List.countP_eq_length (p:=gtB now)).2 fun e he=>decide_eq_true (h.ef e he)]
 have acV:full bZ pW cs st now:=by
  rcases hf with hf | hf
  ·exact .inl (by rw[hbz];exact hf)
  ·exact .inr (wM.2 (by rw[←h.wsq];exact hf))
 refine⟨h.Ur.len,h.Ur.low,h.Ur.high,h.Ur.bd,by omega,lO,h.past,h.fut,h.wsq,h.cnt,h.ef,h.eb,acV,by rw[h.Zs];exact ht,h.es,?_⟩
 have h1:=uB acV cs.length
 rw[h.fl] at h1
 rw[Wn Wb.1 (by omega),h1] at hr
 exact hr
end
end Go.PM
namespace Go.PM
theorem CR (n:Nat) (h:n<4294967296):TC 228 [VK .u64 1,VK .u64 (n:Int)] (.dS [VK .u64 0,VK .u64 (n:Int)]):=by
 refine TC.walk ⟨true,false⟩ Ef rfl (Nat.le_of_ble_eq_true rfl) rfl rfl ?_
 have a1:cV .and (.int .u64 1) (.int .u64 4294967295)=some (.int .u64 1):=M9 1 (by decide)
 have a2:cV .and (.int .u64 (n:Int)) (.int .u64 4294967295)=some (.int .u64 (n:Int)):=by rw[M9 n (by omega),Nat.mod_eq_of_lt h]
 have a0:cV .and (.int .u64 0) (.int .u64 4294967295)=some (.int .u64 0):=M9 0 (by decide)
 have s1:cV .shr (.int .u64 1) (.int .u64 32)=some (.int .u64 0):=lS 1 .u64
 have s0:cV .shr (.int .u64 0) (.int .u64 32)=some (.int .u64 0):=lS 0 .u64
 have s2:cV .shr (.int .u64 (n:Int)) (.int .u64 32)=some (.int .u64 0):=by rw[lS n .u64,Nat.div_eq_of_lt h];rfl
 have w0:IntKind.u64.wrap 0=0:=dQ 0 (by decide)
 have wn:IntKind.u64.wrap (n:Int)=n:=dQ n (by omega)
 simp only[A0,xA,a0,a1,a2,s0,s1,s2,w0,wn,Int.one_mul,Int.zero_mul,Int.mul_zero,Int.add_zero,VX,Nat.reduceEqDiff,Nat.reduceAdd]
 exact aI rfl
theorem EE (n:Nat) (h:n<4294967296):TC 187 [VK .u64 1,VK .u64 (n:Int)] (.dS [VK .u64 0,VK .u64 (n:Int)]):=by
 refine TC.walk ⟨true,false⟩ HG rfl (Nat.le_of_ble_eq_true rfl) rfl rfl ?_
 simp only[De,AU,CR n h,VX,Nat.reduceEqDiff,Nat.reduceAdd]
 exact aI rfl
end Go.PM
namespace Go.PM
section
variable {α:Type} {f:α→VV} {H:aA} {b g e lo:Nat} {X Y:List α}
theorem Pk {o:Nat}:cP (X.map f) o (Y.map f)=(X.take o++Y++X.drop (o+Y.length)).map f:=by
 simp[cP]
theorem Lw {o d cc:Nat} {y:VV} (h:aF H b g=some (X.map f,e,true)) (hy:cN e y H=some (Y.map f)) (eI:lo≤b) (ho:o+(Y.take d).length≤X.length) :
  GU lo e (.ref b g o d cc) y H=some (VI (Y.take d).length,H.set b (.row g ((X.take o++Y.take d++X.drop (o+(Y.take d).length)).map f) e true)):=by
 simp only[GU,hy,h]
 rw[←List.map_take,Pk,if_pos ⟨trivial,eI,by simpa using ho⟩,List.length_map]
end
end Go.PM
namespace Go.PM
def oT:aE:=(LS [LO 51 (.bin .lss (LT 50) (LT 49))] (.seq (.cond (LT 51) .skip (.exit 0)) (.seq (.block 1 (LS [LM 52 50,LM 8 52] (.eG [LO 53 (LA 1 7),LO 54 (LL 53),LM 55 8,LO 56 (.iaddr 1 (LT 54) (LT 55)),LO 57 (LL 56),LM 58 8,LO 59 (.bin .add (LT 58) (LI 1)),LM 60 4,LM 61 8,LO 62 (.iaddr 3 (LT 60) (LT 61)),LO 63 (LK 62),LO 64 (.iaddr 3 (LT 57) (LT 59)),LN (.store 3 (LT 64) (LT 63))]))) (.eG [LO 65 (.bin .add (LT 50) (LI 1)),LM 50 65]))))
def jP:aE:=(LS [LO 2 (.new [(.slice none 0 0),(.slice none 0 0),(.slice none 0 0)]),LO 3 (.mv LF)] (LS [LM 10 0,LO 11 (.call 126 [(LT 10)]),LM 9 11,LO 12 (LX 9 0),LO 13 (LX 9 1),LM 4 12,LM 5 13] (LS [LM 14 4,LO 15 (.len (LT 14)),LM 6 15] (.seq (LS [LM 16 5,LO 17 (.un .not (LT 16)),LM 18 17,LZ 18 19 (.mv (LT 6)),LZ 18 20 (.bin .lss (LT 19) (LI 1)),LO 21 (.pick (LT 18) LG (LT 20)),LM 22 21,LZ 22 23 (.mv (LT 6)),LZ 22 24 (.bin .gtr (LT 23) (LI 6)),LO 25 (.pick (LT 22) LG (LT 24))] (.cond (LT 25) (LS [LO 26 (.build [(.slice none 0 0),(.slice none 0 0),(.slice none 0 0)] [(0,1),(1,1),(2,1)] []),LN (.store 3 (LT 2) (LT 26)),LO 3 (.mv LF)] .ret) .skip)) (LS [LM 27 6,LO 28 (.call 127 [(LT 27)]),LM 29 6,LO 30 (.call 128 [(LT 29)]),LM 31 6,LO 32 (.call 127 [(LT 31)]),LO 33 (.build [(.slice none 0 0),(.slice none 0 0),(.slice none 0 0)] [(0,1),(1,1),(2,1)] [(0,(LT 28)),(1,(LT 30)),(2,(LT 32))]),LO 7 (.new [(.slice none 0 0),(.slice none 0 0),(.slice none 0 0)]),LN (.store 3 (LT 7) (LT 33))] (LS [LO 34 (LA 0 7),LO 35 (LL 34),LO 36 (LA 2 7),LO 37 (LL 36),LM 38 6,LO 39 (.bin .sub (LT 38) (LI 1)),LQ 40 (.call 97 [(LI 1)]),LM 41 4,LM 42 6,LO 43 (.bin .sub (LT 42) (LI 1)),LO 44 (.iaddr 3 (LT 41) (LT 43)),LO 45 (LK 44),LO 46 (.iaddr 3 (LT 35) (LI 0)),⟨none,(.store 3 (LT 46) (LT 40)),none,false,[((LT 36),(LT 46))]⟩,LO 47 (.iaddr 3 (LT 37) (LT 39)),LN (.store 3 (LT 47) (LT 45))] (.seq (LS [LM 48 6,LO 49 (.bin .sub (LT 48) (LI 1)),LO 50 (.mv (LI 0))] (.block 0 (.loop oT))) (LS [LO 66 (LK 7),LO 67 (.call 129 [(LT 66)]),LO 68 (LX 67 0),LO 69 (LX 67 1),LN (.store 3 (LT 2) (LT 68)),LM 3 69] .ret))))))))
def lE:aT:=⟨70,[(.cell 2 true 3),(.tmp 3)],jP⟩
theorem Eg:hC 49=some lE:=by kernel_rfl
def BS:aE:=(LS [LO 2 (.mv (.const (.slice none 0 0)))] (LS [LO 3 (.call 97 [(LI 0)]),LO 4 (.lit [(.bool false),(.slice none 0 0),(.slice none 0 0)] 1 [(0,(LT 3))]),LM 5 0,LO 6 (.call 202 [(LT 4),(LT 5)]),LM 2 6] .ret))
def EM:aT:=⟨7,[(.tmp 2)],BS⟩
theorem Kg:hC 127=some EM:=by kernel_rfl
def vD:aE:=(LS [LO 1 (.box (LT 0)),LO 2 (.new [(.slice none 0 0),(.slice none 0 0),(.slice none 0 0)]),LO 3 (.mv LF)] (LS [LO 11 (LA 0 1),LO 12 (LL 11),LO 13 (.call 111 [(LT 12)]),LM 10 13,LO 14 (LX 10 0),LO 15 (LX 10 1),LM 4 14,LM 5 15] (LS [LO 17 (LA 1 1),LO 18 (LL 17),LO 19 (.call 149 [(LT 18)]),LM 16 19,LO 20 (LX 16 0),LO 21 (LX 16 1),LO 6 (.new [(.slice none 0 0)]),LN (.store 1 (LT 6) (LT 20)),LM 7 21] (LS [LO 23 (LA 2 1),LO 24 (LL 23),LO 25 (.call 111 [(LT 24)]),LM 22 25,LO 26 (LX 22 0),LO 27 (LX 22 1),LM 8 26,LM 9 27] (.seq (LS [LM 28 5,LO 29 (.un .not (LT 28)),LM 30 29,LZ 30 31 (.mv (LT 7)),LZ 30 32 (.un .not (LT 31)),LO 33 (.pick (LT 30) LG (LT 32)),LM 34 33,LZ 34 35 (.mv (LT 9)),LZ 34 36 (.un .not (LT 35)),LO 37 (.pick (LT 34) LG (LT 36)),LM 38 37,LZ 38 39 (LA 0 1),LZ 38 40 (LL 39),LZ 38 41 (.len (LT 40)),LZ 38 42 (.bin .gtr (LT 41) (LI 6)),LO 43 (.pick (LT 38) LG (LT 42))] (.cond (LT 43) (LS [LO 44 (.build [(.slice none 0 0),(.slice none 0 0),(.slice none 0 0)] [(0,1),(1,1),(2,1)] []),LN (.store 3 (LT 2) (LT 44)),LO 3 (.mv LF)] .ret) .skip)) (LS [LM 45 4,LO 46 (LA 0 6),LO 47 (LL 46),LM 48 8,LO 49 (.build [(.slice none 0 0),(.slice none 0 0),(.slice none 0 0)] [(0,1),(1,1),(2,1)] [(0,(LT 45)),(1,(LT 47)),(2,(LT 48))]),LN (.store 3 (LT 2) (LT 49)),LO 3 (.mv LG)] .ret))))))
def zG:aT:=⟨50,[(.cell 2 true 3),(.tmp 3)],vD⟩
theorem Dz:hC 129=some zG:=by kernel_rfl
end Go.PM
namespace Go.PM
open Go.Lib
def G0 {α:Type} (f:α→VV) (e:Nat) (aY:List α) (lo hi:Nat) (H:aA) (v:VV):Prop :=
 ∃b g c,lo≤b∧b<hi∧v = .ref b g 0 aY.length c∧aY.length≤c∧aF H b g=some (aY.map f,e,true)
def TabIs {α:Type} (f:α→VV) (e:Nat) (m:List (List α)) (lo hi:Nat) (H:aA) (v:VV):Prop :=
 ∃b g c rs,v = .ref b g 0 m.length c∧m.length≤c∧MG f e lo hi b g H rs∧rs.map (·.xs)=m
theorem Jg {α:Type} {f:α→VV} {lo b k e bytes:Nat} {H:aA} {xs:List α} {x:α} (h:aF H b k=some (xs.map f,e,true)) (hk:k=xs.length) (eI:lo≤b) (he:1≤e) (hb:1≤bytes) (Bf:(k+1)*bytes≤140737488355328) :
 eK lo e bytes (.ref b k 0 k k) [f x] H=some (.ref b (k+1) 0 (k+1) (k+1),H.set b (.row (k+1) ((xs++[x]).map f) e true)):=iI h hk eI he hb Bf
theorem G0.rd {α:Type} {f:α→VV} {e lo hi:Nat} {aY:List α} {H:aA} {v:VV} (h:G0 f e aY lo hi H v):Rd f e aY H v:=by
 obtain⟨b,g,c,h1,h2,rfl,h3,h4⟩:=h
 exact Rd.row h4 rfl
theorem tL {lo:Nat} {H:aA} (q:Rat) (N:Nat) (hN:N≤1000000) (eI:lo≤H.length) :
  iY 202 [.tree [bD q] (.cl 3),VI N] lo H fun r H'=>r = .ref H.length 0 0 N N∧H'=H++[.row 0 ((List.replicate N q).map bD) 3 true]:=by
 refine iY.walk ⟨true,false⟩ nQ (Nat.le_of_ble_eq_true rfl) ?_
 have eM:=EE N (by omega)
 have c1:IntKind.u64.wrap ((1:Nat):Int)=1:=dQ 1 (by decide)
 have c2:IntKind.u64.wrap (N:Int)=(N:Int):=dQ N (by omega)
 have c3:IntKind.i64.wrap (N:Int)=(N:Int):=wrap64 (by omega) (by omega)
 have g1:¬(N:Int)<0:=by omega
 have g2:¬(0:Int)<0:=by decide
 have g3:¬(9223372036854775807:Int)<(N:Int):=by omega
 have em:=fun H=>pG (H:=H) (f:=id) (x:=rz) (z:=[.bool false,.slice none 0 0,.slice none 0 0]) (bytes:=56) (n:=N) rfl (by omega) (by omega)
 have s1:cN 3 (.tree [bD q] (.cl 3)) (H++[.row 0 ((List.replicate N rz).map id) 3 true])=some ([bD q].map id):=eO (v:=bD q) rfl rfl
 have r1:aF (H++[.row 0 ((List.replicate N rz).map id) 3 true]) H.length 0=some ((List.replicate N rz).map id,3,true):=by rw[CF,aV]
 have s2:=Lw (f:=id) (Y:=[bD q]) (lo:=lo) (o:=0) (d:=N) (cc:=N) (y := .tree [bD q] (.cl 3)) r1 s1 eI (by simp;omega)
 rw[R4] at s2
 simp only[iX,iB,eM,c1,c2,c3,g1,g2,g3,em,s2,gX,VX,Nat.reduceEqDiff,Nat.reduceAdd,Nat.reduceLeDiff,Nat.reduceLT,Nat.reduceSub]
 refine aR (fun(i:Nat) ρ H1=>i≤N∧(i=0→N=0)∧H1=H++[.row 0 ((List.replicate i (bD q)++List.replicate (N-i) rz).map id) 3 true]∧ρ 7 = .ref H.length 0 0 N N∧ρ 8=VI i) (fun i=>N-i) (min 1 N) ?_ ?_
 refine⟨by omega,by omega,?_,rfl,?_⟩
 ·congr 2
  cases N with
  | zero=>rfl
  |
   succ N =>
   have:min 1 (N+1)=1:=by omega
   rw[this]
   simp[List.replicate_succ]
 ·cases N with
  | zero=>rfl
  |
   succ N =>
   have:min 1 (N+1)=1:=by omega
   simp only[this,gX,VX,Nat.reduceEqDiff,Nat.reduceAdd,Nat.reduceLeDiff,Nat.reduceLT,Nat.reduceSub]
   try simp
 rintro i ρ H1 ⟨hi,h0,rfl,h7,h8⟩
 have hr:aF (H++[.row 0 ((List.replicate i (bD q)++List.replicate (N-i) rz).map id) 3 true]) H.length 0=some ((List.replicate i (bD q)++List.replicate (N-i) rz).map id,3,true):=by rw[CF,aV]
 have el:=dR (o:=0) (n:=N) (c:=N) hr
 by_cases dD:(i:Int)<(N:Int)
 ·have hXl:(List.replicate i (bD q)++List.replicate (N-i) rz).length=N:=by simp;omega
  have sT:∀X:List VV,X=List.replicate i (bD q)++List.replicate (N-i) rz→(((X.map id).drop 0).take i).all (fun x=>(aB x).all aZ)=true:=by
   rintro X rfl
   rw[List.map_id,List.drop_zero,List.take_append_of_le_length (by simp),List.take_of_length_le (by simp),List.all_eq_true]
   intro x hx
   rw[List.eq_of_mem_replicate hx]
   rfl
  have q1:=Ko (o:=0) (n:=N) (c:=N) (l:=i) (k1 := .i64) hr hi (Nat.le_refl _)
  have q2:=sM (o:=0) (n:=N) (c:=N) (h:=i) (k2 := .i64) hr hi
  have hY:((List.replicate i (bD q)++List.replicate (N-i) rz).drop 0).take i=List.replicate i (bD q):=by
   rw[List.drop_zero,List.take_append_of_le_length (by simp),List.take_of_length_le (by simp)]
  have q3:cN 3 (.ref H.length 0 0 i N) (H++[.row 0 ((List.replicate i (bD q)++List.replicate (N-i) rz).map id) 3 true])=some ((List.replicate i (bD q)).map id):=by
   have hs:=sT _ rfl
   simp only[cN,hr]
   rw[if_pos ⟨trivial,by rw[List.length_map,hXl];omega,hs⟩,List.map_id,List.map_id,hY]
  have hYd:(List.replicate i (bD q)).take (N-i)=List.replicate (min (N-i) i) (bD q):=List.take_replicate
  have q4:=Lw (f:=id) (lo:=lo) (o:=i) (d:=N-i) (cc:=N-i) hr q3 eI (by rw[hYd,hXl];simp;omega)
  rw[R4,hYd,List.length_replicate,List.take_append_of_le_length (by simp),List.take_of_length_le (by simp)] at q4
  have hX':List.replicate i (bD q)++List.replicate (min (N-i) i) (bD q)++(List.replicate i (bD q)++List.replicate (N-i) rz).drop (i+min (N-i) i)=List.replicate (i+min (N-i) i) (bD q)++List.replicate (N-(i+min (N-i) i)) rz:=by
   rw[List.replicate_append_replicate,List.drop_append,List.drop_of_length_le (by simp),List.nil_append,List.length_replicate,List.drop_replicate]
   congr 2
   omega
  rw[hX'] at q4
  have wi:IntKind.i64.wrap ((i:Int)+((min (N-i) i:Nat):Int))=((i+min (N-i) i:Nat):Int):=wrapN _ (by omega) (by omega)
  simp only[dY,h7,h8,el,dD,q1,q2,q3,q4,wi,gX,VX,Nat.reduceEqDiff,Nat.reduceAdd,Nat.reduceLeDiff,Nat.reduceLT,Nat.reduceSub]
  exact⟨i+min (N-i) i,by omega,by omega,by omega,by (repeat' apply And.intro)<;>first | rfl | trivial | assumption⟩
 ·have oJ:i=N:=by omega
  subst oJ
  simp only[dY,h7,h8,el,dD,gX,VX,Nat.reduceEqDiff,Nat.reduceAdd,Nat.reduceLeDiff,Nat.reduceLT,Nat.reduceSub]
  rw[Nat.sub_self,List.replicate_zero,List.append_nil,List.map_id,List.map_replicate]
theorem BW {lo:Nat} {H:aA} (N:Nat) (hN:N≤1000000) (eI:lo≤H.length) :
  iY 127 [VI N] lo H fun r H'=>r = .ref H.length 0 0 N N∧H'=H++[.row 0 ((List.replicate N (0:Rat)).map bD) 3 true]:=by
 refine iY.walk ⟨true,false⟩ Kg (Nat.le_of_ble_eq_true rfl) ?_
 have e1:TC 97 [VI 0] (bD 0):=Ac 0 (by decide) (by decide)
 have eL:∀H,jX false [.bool false,.slice none 0 0,.slice none 0 0] 1 [(0,bD 0)] H=some (.tree [bD 0] (.cl 3),H):=fun H=>fY rfl rfl rfl
 simp only[EM,BS,e1,eL,gX,VX,Nat.reduceEqDiff,Nat.reduceAdd,Nat.reduceLeDiff,Nat.reduceLT,Nat.reduceSub]
 refine dL rfl ((tL 0 N hN eI).mono ?_)
 rintro r H' ⟨rfl,rfl⟩
 simp only[gX,VX,Nat.reduceEqDiff,Nat.reduceAdd,Nat.reduceLeDiff,Nat.reduceLT,Nat.reduceSub]
theorem QG (a n:Nat):((List.range n).map fun k=>a+k).Nodup:=List.pairwise_map.2 (List.nodup_range.imp fun h=>by omega)
theorem MP {lo:Nat} {H:aA} (N:Nat) (hN:N≤1000) (eI:lo≤H.length) :
  iY 128 [VI N] lo H (Su (TabIs bD 3 (List.replicate N (List.replicate N (0:Rat)))) H):=by
 refine iY.walk ⟨true,false⟩ Nh (Nat.le_of_ble_eq_true rfl) ?_
 have em:=fun H=>pG (H:=H) (f:=id) (x := .tree [] .nil) (z:=[.slice none 0 0]) (bytes:=24) (n:=N) rfl (by omega) (by omega)
 have el0:=dR (H:=H++[.row 0 ((List.replicate N (VV.tree [] .nil)).map id) 1 true]) (b:=H.length) (g:=0) (o:=0) (n:=N) (c:=N) dZ
 simp only[Iw,Et,em,el0,List.length_cons,List.length_nil,Nat.zero_add,gX,VX,Nat.reduceEqDiff,Nat.reduceAdd,Nat.reduceLeDiff,Nat.reduceLT,Nat.reduceSub]
 refine aR (fun(i:Nat) ρ H1=>i≤N∧H1=H ++ .row 0 (((List.range i).map fun k=>VV.ref (H.length+1+k) 0 0 N N)++List.replicate (N-i) (VV.tree [] TK.nil)) 1 true::List.replicate i (.row 0 ((List.replicate N (0:Rat)).map bD) 3 true)∧ρ 0=VI N∧ρ 3 = .ref H.length 0 0 N N∧ρ 8=VI N∧ρ 9=VI i) (fun i=>N-i) 0 ⟨Nat.zero_le _,by simp,rfl,rfl,rfl,rfl⟩ ?_
 rintro i ρ H1 ⟨hi,rfl,g0,g3,g8,g9⟩
 have e1:TC 97 [VI 0] (bD 0):=Ac 0 (by decide) (by decide)
 have eL:∀H,jX false [.bool false,.slice none 0 0,.slice none 0 0] 1 [(0,bD 0)] H=some (.tree [bD 0] (.cl 3),H):=fun H=>fY rfl rfl rfl
 by_cases dD:(i:Int)<(N:Int)
 ·have wi:IntKind.i64.wrap ((i:Int)+1)=((i+1:Nat):Int):=wrapN (i+1) (by omega) (by omega)
  simp only[yC,g0,g3,g8,g9,dD,e1,eL,gX,VX,Nat.reduceEqDiff,Nat.reduceAdd,Nat.reduceLeDiff,Nat.reduceLT,Nat.reduceSub]
  refine dL rfl ((tL 0 N (by omega) (by rw[List.length_append];omega)).mono ?_)
  rintro r H' ⟨rfl,rfl⟩
  have hl:(H++bM.row 0 (((List.range i).map fun k=>VV.ref (H.length+1+k) 0 0 N N)++List.replicate (N-i) (VV.tree [] TK.nil)) 1 true::List.replicate i (.row 0 ((List.replicate N (0:Rat)).map bD) 3 true)).length=H.length+1+i:=by simp;omega
  rw[hl,List.append_assoc,List.cons_append]
  have hr:aF (H++bM.row 0 (((List.range i).map fun k=>VV.ref (H.length+1+k) 0 0 N N)++List.replicate (N-i) (VV.tree [] TK.nil)) 1 true::(List.replicate i (.row 0 ((List.replicate N (0:Rat)).map bD) 3 true)++[.row 0 ((List.replicate N (0:Rat)).map bD) 3 true])) H.length 0=some ((((List.range i).map fun k=>VV.ref (H.length+1+k) 0 0 N N)++List.replicate (N-i) (VV.tree [] TK.nil)),1,true):=by rw[CF,aV]
  have a1:=aP (o:=0) (n:=N) (c:=N) (i:=i) (k := .i64) hr (by omega)
  have a2:=dG (lo:=lo) (v := .ref (H.length+1+i) 0 0 N N) (j:=i) hr (by simp;omega) eI rfl rfl
  rw[R4,List.set_cons_zero] at a2
  have hs:(((List.range i).map fun k=>VV.ref (H.length+1+k) 0 0 N N)++List.replicate (N-i) (VV.tree [] TK.nil)).set i (.ref (H.length+1+i) 0 0 N N)=((List.range (i+1)).map fun k=>VV.ref (H.length+1+k) 0 0 N N)++List.replicate (N-(i+1)) (VV.tree [] TK.nil):=by
   obtain⟨m,hm⟩:∃m,N-i=m+1:=⟨N-i-1,by omega⟩
   have hm':N-(i+1)=m:=by omega
   rw[List.set_append_right _ _ (by simp),hm,hm',List.length_map,List.length_range,Nat.sub_self,List.replicate_succ,List.set_cons_zero,List.range_succ,List.map_append,List.append_assoc]
   rfl
  rw[hs] at a2
  rw[Nat.zero_add] at a1
  simp only[a1,a2,wi,g9,gX,VX,Nat.reduceEqDiff,Nat.reduceAdd,Nat.reduceLeDiff,Nat.reduceLT,Nat.reduceSub]
  exact⟨i+1,by omega,by omega,by rw[List.replicate_succ'],by (repeat' apply And.intro)<;>first | rfl | trivial | assumption⟩
 ·have oJ:i=N:=by omega
  subst oJ
  simp only[yC,g3,g8,g9,dD,gX,VX,Nat.reduceEqDiff,Nat.reduceAdd,Nat.reduceLeDiff,Nat.reduceLT,Nat.reduceSub]
  refine⟨List.prefix_append _ _,H.length,0,i,(List.range i).map fun k=>⟨H.length+1+k,0,i,List.replicate i 0⟩,by rw[List.length_replicate],by rw[List.length_replicate];exact Nat.le_refl _,⟨?_,Nat.le_refl _,by simp,?_,?_⟩,?_⟩
  ·rw[CF,aV,Nat.sub_self,List.replicate_zero,List.append_nil,List.map_map]
   simp[nN,Function.comp_def]
  ·rw[List.map_map]
   exact QG (H.length+1) i
  ·intro r hr
   obtain⟨k,hk,rfl⟩:=List.mem_map.1 hr
   rw[List.mem_range] at hk
   refine⟨by simp only;omega,by simp;omega,by simp only;omega,by simp,?_⟩
   have:H.length+1+k=H.length+(k+1):=by omega
   simp only[this]
   rw[ZX,zF,cD,List.getElem?_replicate,if_pos hk]
  ·rw[List.map_map]
   apply List.ext_getElem?
   intro k
   rw[List.getElem?_map,List.getElem?_replicate]
   by_cases hk:k<i
   ·simp[hk,List.getElem?_range]
   ·simp[hk]
end Go.PM
namespace Go.PM
structure alF (s:CE):Prop where
 b4:s.b.length≤400000000
 e4:s.e.length≤400000000
 g4:s.g.length≤400000000∧∀x∈s.g,x.length≤400000000
 bs:∀x∈s.b,x.size≤1000000000
 es:∀x∈s.e,x.size≤1000000000
 gs:∀x∈s.g,∀y∈x,y.size≤1000000000
theorem alF.g9 {s:CE} (h:alF s):s.g.length≤1000000000∧∀x∈s.g,x.length≤1000000000:=⟨by have:=h.g4.1;omega,fun x hx=>by have:=h.g4.2 x hx;omega⟩
end Go.PM