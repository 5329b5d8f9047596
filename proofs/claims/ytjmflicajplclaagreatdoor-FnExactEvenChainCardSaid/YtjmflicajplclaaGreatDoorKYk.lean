/- Texts of a claim, in one: part 11. -/
import Derived.ChangeMaps5
import Derived.KernelRfl
import Derived.Test.YtjmflicajplclaaGreatDoorKYj
set_option linter.unusedSimpArgs false
set_option linter.unusedVariables false
namespace Go.PM
open Go.Lib
theorem Ds (l:List UInt8) {i:Nat} (h:i<l.length):HF (.string ⟨l.toArray⟩) (.int .i64 (i:Int))=some (.int .u8 ((l.getD i 0).toNat:Int)):=by
 have hs:(⟨l.toArray⟩:ByteArray).size=l.length:=by simp[ByteArray.size]
 have e1:(0:Int)≤i∧(i:Int)<(l.length:Int):=by omega
 simp only[HF,hs,e1,and_self,if_true,Int.toNat_natCast]
theorem Jv (l:List UInt8) (h:0<l.length):HF (.string ⟨l.toArray⟩) (.int .i64 0)=some (.int .u8 ((l.getD 0 0).toNat:Int)):=Ds l h
theorem HA (l:List UInt8) (a b:Nat):(⟨l.toArray⟩:ByteArray).extract a b=⟨((l.drop a).take (b-a)).toArray⟩:=by
 rw[ByteArray.ext_iff,ByteArray.data_extract]
 simp[List.extract_toArray,List.extract_eq_take_drop]
theorem Gj (l:List UInt8) {a:Nat} (h:a≤l.length):wE (bC l) (some (VI (a:Int))) none=some (bC (l.drop a)):=by
 have hs:(⟨l.toArray⟩:ByteArray).size=l.length:=by simp[ByteArray.size]
 have e2:(0:Int)≤a∧(a:Int)≤(l.length:Int):=by omega
 simp only[wE,Gx,Ax,hs,eV,e2,and_self,if_true,Int.toNat_natCast,HA]
 rw[List.take_of_length_le (by simp)]
theorem L7 (l:List UInt8) {b:Nat} (hb:b≤l.length):wE (bC l) none (some (VI (b:Int)))=some (bC (l.take b)):=by
 have hs:(⟨l.toArray⟩:ByteArray).size=l.length:=by simp[ByteArray.size]
 have e1:(0:Int)≤b∧(b:Int)≤(l.length:Int):=by omega
 simp only[wE,Gx,Ax,hs,eV,e1,and_self,if_true,Int.toNat_natCast,HA]
 rw[List.drop_zero,Nat.sub_zero]
theorem R1 (l:List UInt8):dG .eql (.string ⟨l.toArray⟩) (.string ⟨#[]⟩)=some (.bool (decide (l=[]))):=XA l []
theorem Ka (l:List UInt8):dG .neq (.string ⟨l.toArray⟩) (.string ⟨#[]⟩)=some (.bool (!decide (l=[]))):=QC l []
theorem Tq (l:List UInt8):TC 210 [bC l,bC [45]] (VB (isNeg l)):=by
 refine TC.walk ⟨true,false⟩ sN rfl (Nat.le_of_ble_eq_true rfl) rfl rfl ?_
 have e1:Bi (.string ⟨#[45]⟩)=some (.int .i64 1):=rfl
 by_cases h:(1:Int)≤(l.length:Int)
 ·have e2:=L7 l (b:=1) (by omega)
  have e2:wE (bC l) none (some (VI 1))=some (bC (l.take 1)):=e2
  have e3:dG .eql (.string ⟨(l.take 1).toArray⟩) (.string ⟨#[45]⟩)=some (.bool (decide (l.take 1=[45]))):=XA (l.take 1) [45]
  have e4:isNeg l=decide (l.take 1=[45]):=by
   cases l with
   | nil=>exact absurd h (by decide)
   | cons c l=>rw[Gb];simp
  rw[e4]
  simp only[iA,gM,bU,e1,ge_iff_le,h,e2,e3,VX,Nat.reduceEqDiff,Nat.reduceAdd]
  exact aL rfl
 ·have e4:isNeg l=false:=by unfold isNeg;rw[decide_eq_false (by omega)];rfl
  rw[e4]
  simp only[iA,gM,bU,e1,ge_iff_le,h,VX,Nat.reduceEqDiff,Nat.reduceAdd]
  exact aL rfl
theorem Q0 (l:List UInt8):TC 191 [bC l,bC [45]] (.dR [bC (if isNeg l then l.drop 1 else l),VB (isNeg l)]):=by
 refine TC.walk ⟨true,false⟩ tM rfl (Nat.le_of_ble_eq_true rfl) rfl rfl ?_
 have e0:=Tq l
 have e1:Bi (.string ⟨#[45]⟩)=some (.int .i64 1):=rfl
 cases h:isNeg l with
 |
  true =>
  rw[h] at e0
  have hl:1≤l.length:=by
   cases l with
   | nil=>cases h
   | cons c l=>simp
  have e2:wE (bC l) (some (VI 1)) none=some (bC (l.drop 1)):=Gj l (a:=1) hl
  simp only[iF,gQ,e0,e1,e2,VX,Nat.reduceEqDiff,Nat.reduceAdd]
  exact aL rfl
 |
  false =>
  rw[h] at e0
  simp only[iF,gQ,e0,Bool.false_eq_true,if_false,VX,Nat.reduceEqDiff,Nat.reduceAdd]
  exact aL rfl
theorem Ss (l:List UInt8):TC 173 [bC l,bC [45]] (.dR [bC (if isNeg l then l.drop 1 else l),VB (isNeg l)]):=by
 refine TC.walk ⟨true,false⟩ Fj rfl (Nat.le_of_ble_eq_true rfl) rfl rfl ?_
 have e0:=Q0 l
 simp only[Av,xA,e0,VX,Nat.reduceEqDiff,Nat.reduceAdd]
 exact aL rfl
theorem anZ (l:List UInt8) (hl:l.length≤1000000000000):TC 190 [bC l,bC [47]] (.dR [bC (mC 47 l).1,bC ((mC 47 l).2.getD []),VB (mC 47 l).2.isSome]):=by
 refine TC.walk ⟨true,false⟩ zE rfl (Nat.le_of_ble_eq_true rfl) rfl rfl ?_
 have e0:=ajW l 47
 have e1:Bi (.string ⟨#[47]⟩)=some (.int .i64 1):=rfl
 cases h:(mC 47 l).2 with
 |
  none =>
  obtain⟨h1,h2,_⟩:=BK h
  rw[h1] at e0
  rw[h2]
  simp only[lI,kB,e0,ge_iff_le,Int.reduceNeg,Int.reduceLE,VX,Nat.reduceEqDiff,Nat.reduceAdd]
  exact aL rfl
 |
  some r =>
  obtain⟨h1,h2,_⟩:=Ik h
  rw[h1] at e0
  generalize (mC 47 l).1=a at *
  subst h2
  rw[List.length_append,List.length_cons] at hl
  have h0:(0:Int)≤(a.length:Int):=by omega
  have e2:=L7 (a++47::r) (b:=a.length) (by simp)
  have e3:=Gj (a++47::r) (a:=a.length+1) (by simp)
  rw[List.take_left] at e2
  have ed:(a++47::r).drop (a.length+1)=r:=by rw[List.drop_append];simp
  rw[ed] at e3
  have w:IntKind.i64.wrap ((a.length:Int)+1)=((a.length+1:Nat):Int):=wrapN _ (by omega) (by omega)
  simp only[lI,kB,e0,e1,ge_iff_le,h0,w,e2,e3,VX,Nat.reduceEqDiff,Nat.reduceAdd]
  exact aL rfl
theorem asE (l:List UInt8) (hl:l.length≤1000000000000):TC 172 [bC l,bC [47]] (.dR [bC (mC 47 l).1,bC ((mC 47 l).2.getD []),VB (mC 47 l).2.isSome]):=by
 refine TC.walk ⟨true,false⟩ OE rfl (Nat.le_of_ble_eq_true rfl) rfl rfl ?_
 have e0:=anZ l hl
 simp only[JY,FJ,e0,VX,Nat.reduceEqDiff,Nat.reduceAdd]
 exact aL rfl
def BT (l:List UInt8):VV:=if iI l=true then .dR [bS (cD l),VB true] else .dR [bS 0,VB false]
theorem ZL (l:List UInt8):hC (BT l)=true:=by
 unfold BT
 split<;>simp[hC,qD,qX,lF]
theorem apV {d:Nat}:fz (d+1) [.row 0 [] 1 true] (.ref 0 0 0 0 0)=some (bS 0):=by
 rw[ED]
 cases d with
 | zero=>rfl
 | succ d=>rfl
theorem M3 {n:Nat} (hn:n≤9) {lo:Nat} {H:aA} {ρ:dL} {Q:VQ} (h58:ρ 58=VI n) (h59:ρ 59=VI 0) (h9:ρ 9=VK .u64 1) (hQ:∀bL,(∀t,t<9→bL t=ρ t)→bL 9=VK .u64 ((10^n:Nat):Int)→Q .normal bL H):VW ⟨true,false⟩ lo (.loop rH) (AZ 4 Q) ρ H:=by
 refine aU (fun(i:Nat) bL H'=>i≤n∧H'=H∧(∀t,t<9→bL t=ρ t)∧bL 58=VI n∧bL 59=VI i∧bL 9=VK .u64 ((10^i:Nat):Int)) (fun i=>n-i) 0 ⟨Nat.zero_le _,rfl,fun _ _=>rfl,h58,h59,h9⟩ ?_
 rintro i bL H' ⟨hi,rfl,hk,g58,g59,g9⟩
 by_cases cS:(i:Int)<(n:Int)
 ·have wi:IntKind.i64.wrap ((i:Int)+1)=((i+1:Nat):Int):=wrapN (i+1) (by omega) (by omega)
  have hp:10^i≤10^8:=Nat.pow_le_pow_right (by decide) (by omega)
  have e8:(10:Nat)^8=100000000:=by decide
  have wp:IntKind.u64.wrap (((10^i:Nat):Int)*10)=((10^(i+1):Nat):Int):=by
   rw[Nat.pow_succ]
   generalize 10^i=p at *
   have:=eE (p*10) (by omega)
   rw[Int.natCast_mul] at this
   rw[Int.natCast_mul]
   exact this
  simp only[rH,g58,g59,g9,cS,wi,wp,VX,Nat.reduceEqDiff,Nat.reduceAdd]
  refine⟨i+1,by omega,by omega,fun t ht => ?_,rfl,rfl⟩
  try simp only[vO]
  repeat rw[if_neg (by omega)]
  exact hk t ht
 ·have mT:i=n:=by omega
  subst mT
  simp only[rH,g58,g59,cS,VX,Nat.reduceEqDiff,Nat.reduceAdd]
  refine hQ _ (fun t ht => ?_) ?_
  ·try simp only[vO]
   repeat rw[if_neg (by omega)]
   exact hk t ht
  ·simp only[g9,VX,Nat.reduceEqDiff,Nat.reduceAdd]
theorem agU {l:List UInt8} {i:Nat} (h:i<l.length):(l.take (i+1)).all iN=((l.take i).all iN&&iN (l.getD i 0)):=by
 rw[List.take_add_one,List.all_append]
 have:l[i]? = some (l.getD i 0):=by rw[List.getElem?_eq_getElem h,List.getD_eq_getElem?_getD,List.getElem?_eq_getElem h];rfl
 rw[this]
 simp
theorem M6 {l:List UInt8} (hl:l.length≤1000000000000) {lo:Nat} {H:aA} {ρ:dL} {Q:VQ} (h0:ρ 0=bC l) (h29:ρ 29=VI l.length) (h30:ρ 30=VI 0)
  (hR:l.all iN=false→∀bL:dL,bL 2 = .tree [] .nil→bL 3=VB false→Q .ret bL H) (hN:l.all iN=true→∀bL:dL,(∀t,t<5→bL t=ρ t)→Q .normal bL H):VW ⟨true,false⟩ lo (.loop kW) (AZ 0 Q) ρ H:=by
 refine aU (fun(i:Nat) bL H'=>i≤l.length∧H'=H∧(l.take i).all iN=true∧(∀t,t<5→bL t=ρ t)∧bL 29=VI l.length∧bL 30=VI i) (fun i=>l.length-i) 0 ⟨Nat.zero_le _,rfl,rfl,fun _ _=>rfl,h29,h30⟩ ?_
 rintro i bL H' ⟨hi,rfl,hd,hk,g29,g30⟩
 have g0:=(hk 0 (by decide)).trans h0
 by_cases cS:(i:Int)<(l.length:Int)
 ·have Wj:i<l.length:=by omega
  have e1:=Ds l Wj
  have wi:IntKind.i64.wrap ((i:Int)+1)=((i+1:Nat):Int):=wrapN (i+1) (by omega) (by omega)
  have ht:=agU Wj
  rw[hd,Bool.true_and] at ht
  have V7:iN (l.getD i 0)=(decide (48≤(l.getD i 0).toNat)&&decide ((l.getD i 0).toNat≤57)):=rfl
  have kQ:iN (l.getD i 0)=false→l.all iN=false:=by
   intro h
   rw[h] at ht
   rw[←List.take_append_drop (i+1) l,List.all_append,ht,Bool.false_and]
  generalize (l.getD i 0).toNat=c at *
  by_cases q1:(c:Int)<48
  ·have:=kQ (by rw[V7,decide_eq_false (by omega)];rfl)
   simp only[kW,g0,g29,g30,cS,e1,q1,VX,Nat.reduceEqDiff,Nat.reduceAdd]
   exact hR this _ (by simp only[VX,Nat.reduceEqDiff,Nat.reduceAdd]) (by simp only[VX,Nat.reduceEqDiff,Nat.reduceAdd])
  ·by_cases q2:(57:Int)<(c:Int)
   ·have:=kQ (by rw[V7,decide_eq_false (show ¬c≤57 by omega),Bool.and_false])
    simp only[kW,g0,g29,g30,cS,e1,q1,q2,VX,Nat.reduceEqDiff,Nat.reduceAdd]
    exact hR this _ (by simp only[VX,Nat.reduceEqDiff,Nat.reduceAdd]) (by simp only[VX,Nat.reduceEqDiff,Nat.reduceAdd])
   ·rw[V7,decide_eq_true (by omega),decide_eq_true (by omega),Bool.and_self] at ht
    simp only[kW,g0,g29,g30,cS,e1,q1,q2,wi,VX,Nat.reduceEqDiff,Nat.reduceAdd]
    refine⟨i+1,by omega,by omega,ht,fun t ht => ?_,rfl⟩
    try simp only[vO]
    repeat rw[if_neg (by omega)]
    exact hk t ht
 ·have mT:i=l.length:=by omega
  subst mT
  rw[List.take_length] at hd
  simp only[kW,g29,g30,cS,VX,Nat.reduceEqDiff,Nat.reduceAdd]
  refine hN hd _ fun t ht => ?_
  try simp only[vO]
  repeat rw[if_neg (by omega)]
  exact hk t ht
set_option maxHeartbeats 2000000 in
theorem MB {l:List UInt8} (hd:l.all iN=true) (hl:l.length≤200) (fK:l≠[]) {ρ:dL} {Q:VQ} (h0:ρ 0=bC l) (h4:ρ 4 = .ref 0 0 0 0 0)
  (hQ:∀(bL:dL),bL 4=bS (cD l)→Q .normal bL [.row 0 [] 1 false]):VW ⟨true,false⟩ 0 (.loop nK) (AZ 2 Q) ρ [.row 0 [] 1 true]:=by
 refine aU (fun(s:List UInt8×List UInt8) bL H'=>l=s.1++s.2∧bL 0=bC s.2∧((H'=[.row 0 [] 1 true]∧bL 4 = .ref 0 0 0 0 0∧s.1=[])∨(H'=[.row 0 [] 1 false]∧bL 4=bS (cD s.1)))) (fun s=>s.2.length) ([],l) ⟨rfl,h0,.inl ⟨rfl,h4,rfl⟩⟩ ?_
 rintro⟨pre,rest⟩ bL H' ⟨Sn,g0,hv⟩
 simp only at Sn g0 hv
 have e1:=Ka rest
 by_cases he:rest=[]
 ·subst he
  rw[List.append_nil] at Sn
  subst Sn
  rcases hv with⟨_,_,h⟩ | ⟨rfl,g4⟩
  ·exact absurd h fK
  have RB:dG .neq (.string ⟨#[]⟩) (.string ⟨#[]⟩)=some (.bool false):=by
   have:=Ka []
   rw[decide_eq_true rfl] at this
   exact this
  simp only[nK,g0,RB,VX,Nat.reduceEqDiff,Nat.reduceAdd]
  exact hQ _ (by simp only[g4,VX,Nat.reduceEqDiff,Nat.reduceAdd])
 ·rw[Sn,List.all_append,Bool.and_eq_true] at hd
  obtain⟨hd1,hd2⟩:=hd
  rw[Sn,List.length_append] at hl
  have lH:0<rest.length:=List.length_pos_iff.2 he
  have RB:dG .neq (.string ⟨rest.toArray⟩) (.string ⟨#[]⟩)=some (.bool true):=by rw[e1,decide_eq_false he];rfl
  have wm:(rest.length:Int).tmod 9=((rest.length % 9:Nat):Int):=by rw[Int.tmod_eq_emod_of_nonneg (by omega)];simp
  have er:dG .rem (.int .i64 (rest.length:Int)) (.int .i64 9)=some (.int .i64 ((rest.length % 9:Nat):Int)):=by
   rw[←wm]
   rfl
  obtain⟨n,hn⟩:∃n,n=if rest.length % 9=0 then 9 else rest.length % 9:=⟨_,rfl⟩
  have hn1:1≤n∧n≤9∧n≤rest.length:=by
   rw[hn]
   split<;>omega
  obtain⟨n1,n9,nl⟩:=hn1
  have e2:=L7 rest nl
  have e3:=Gj rest nl
  have hch:(rest.take n).length=n:=by rw[List.length_take];omega
  have hcd:(rest.take n).all iN=true:=by
   rw[←List.take_append_drop n rest,List.all_append,Bool.and_eq_true] at hd2
   exact hd2.1
  have hp:=akO (rest.take n) (cD (rest.take n)) (by omega) (anV hcd (fun h=>by rw[h] at hch;simp at hch;omega) (by omega))
  have Fq:=Hz hcd
  rw[hch] at Fq
  have hp9:10^n≤10^9:=Nat.pow_le_pow_right (by decide) n9
  have e9:(10:Nat)^9=1000000000:=by decide
  have aEP:cD (rest.take n)<1000000000:=by omega
  have c1:=nA (10^n) (by omega)
  have c2:=nA (cD (rest.take n)) (by omega)
  have hbp:bl (cD pre)≤665:=by
   refine G5 (Nat.lt_of_lt_of_le (Hz hd1) ?_)
   exact Nat.le_trans (Nat.pow_le_pow_right (by decide) (by omega:pre.length≤200)) (by decide +kernel)
  have hb9:bl (10^n)≤64:=G5 (by omega)
  have hbm:=nX (cD pre) (10^n)
  have hbc:bl (cD (rest.take n))≤64:=G5 (by omega)
  have tm:=iP (cD pre) (10^n) (fN (by omega)) (fN (by omega))
  have c4:=Du (cD pre*10^n) (cD (rest.take n)) (fN (by omega)) (fN (by omega))
  have tP:cD pre*10^n+cD (rest.take n)=cD (pre++rest.take n):=by rw[NB,hch]
  rw[tP] at c4
  have fin:(rest.drop n).length<rest.length∧pre++rest=(pre++rest.take n)++rest.drop n:=⟨by rw[List.length_drop];omega,by rw[List.append_assoc,List.take_append_drop]⟩
  obtain⟨v4,g4,c3⟩:∃v4,bL 4=v4∧∀lo K,cV 143 [v4,bS (10^n)] lo H' K=K (bS (cD pre*10^n)) [.row 0 [] 1 false]:=by
   rcases hv with⟨rfl,g4,hp0⟩ | ⟨rfl,g4⟩
   ·refine⟨_,g4,fun lo K => ?_⟩
    subst hp0
    have:=tm.HW (H:=[.row 0 [] 1 true]) (args:=[.ref 0 0 0 0 0,bS (10^n)]) (lo:=lo) (k:=K) rfl (by simp[aP,cB]) (fz2 apV (aM (cB _))) rfl
    rw[this,show M7 (bS (cD []*10^n))=false from rfl,if_neg (by decide),List.flatMap_cons,List.flatMap_cons,List.flatMap_nil,F3 (cB _),PJ (n:=0) (c:=0) (es:=[]) (e:=1) (w:=true) aQ rfl rfl]
    rfl
   ·exact⟨_,g4,fun lo K=>tm lo [.row 0 [] 1 false] K⟩
  clear hv
  obtain⟨P,hP⟩:∃P,P=10^n:=⟨_,rfl⟩
  rw[←hP] at c1 c4 c3
  have hnI:(rest.length % 9:Nat)=0∨¬(rest.length % 9:Nat)=0:=by omega
  rcases hnI with h9 | h9
  ·rw[if_pos h9] at hn
   subst hn
   have q:((rest.length % 9:Nat):Int)=0:=by omega
   have e2':wE (bC rest) none (some (VI 9))=some (bC (rest.take 9)):=e2
   have e3':wE (bC rest) (some (VI 9)) none=some (bC (rest.drop 9)):=e3
   simp only[nK,g0,g4,RB,bU,er,q,e2',hp,VX,Nat.reduceEqDiff,Nat.reduceAdd]
   refine M3 (n:=9) (by decide) ?_ ?_ ?_ fun xY k1 q9 => ?_
   ·simp only[VX,Nat.reduceEqDiff,Nat.reduceAdd];rfl
   ·simp only[VX,Nat.reduceEqDiff,Nat.reduceAdd]
   ·simp only[VX,Nat.reduceEqDiff,Nat.reduceAdd]
   rw[←hP] at q9
   have u0:xY 0=bC rest:=by rw[k1 0 (by decide)];simp only[g0,VX,Nat.reduceEqDiff,Nat.reduceAdd]
   have u4:xY 4=v4:=by rw[k1 4 (by decide)];simp only[g4,VX,Nat.reduceEqDiff,Nat.reduceAdd]
   have u6:xY 6=VI 9:=by rw[k1 6 (by decide)];simp only[VX,Nat.reduceEqDiff,Nat.reduceAdd]
   have u7:xY 7=VK .u64 (cD (rest.take 9)):=by rw[k1 7 (by decide)];simp only[VX,Nat.reduceEqDiff,Nat.reduceAdd]
   simp only[u0,u4,u6,u7,q9,c1,c2,c3,c4,e3',VX,Nat.reduceEqDiff,Nat.reduceAdd]
   exact⟨(pre++rest.take 9,rest.drop 9),fin.1,Sn.trans fin.2,rfl,.inr rfl⟩
  ·rw[if_neg h9] at hn
   rw[←hn] at er
   have q:¬(n:Int)=0:=by omega
   simp only[nK,g0,g4,RB,bU,er,q,e2,hp,VX,Nat.reduceEqDiff,Nat.reduceAdd]
   refine M3 (n:=n) n9 ?_ ?_ ?_ fun xY k1 q9 => ?_
   ·simp only[VX,Nat.reduceEqDiff,Nat.reduceAdd]
   ·simp only[VX,Nat.reduceEqDiff,Nat.reduceAdd]
   ·simp only[VX,Nat.reduceEqDiff,Nat.reduceAdd]
   rw[←hP] at q9
   have u0:xY 0=bC rest:=by rw[k1 0 (by decide)];simp only[g0,VX,Nat.reduceEqDiff,Nat.reduceAdd]
   have u4:xY 4=v4:=by rw[k1 4 (by decide)];simp only[g4,VX,Nat.reduceEqDiff,Nat.reduceAdd]
   have u6:xY 6=VI n:=by rw[k1 6 (by decide)];simp only[VX,Nat.reduceEqDiff,Nat.reduceAdd]
   have u7:xY 7=VK .u64 (cD (rest.take n)):=by rw[k1 7 (by decide)];simp only[VX,Nat.reduceEqDiff,Nat.reduceAdd]
   simp only[u0,u4,u6,u7,q9,c1,c2,c3,c4,e3,VX,Nat.reduceEqDiff,Nat.reduceAdd]
   exact⟨(pre++rest.take n,rest.drop n),fin.1,Sn.trans fin.2,rfl,.inr rfl⟩
set_option maxHeartbeats 2000000 in
theorem Er (l:List UInt8) (hl:l.length≤1000000000000):TC 174 [bC l] (BT l):=by
 refine TC.walk ⟨true,false⟩ MM rfl (Nat.le_of_ble_eq_true rfl) rfl (ZL l) ?_
 have e1:=R1 l
 by_cases he:l=[]
 ·have hk:iI l=false:=by rw[he];rfl
  have RB:dG .eql (.string ⟨l.toArray⟩) (.string ⟨#[]⟩)=some (.bool true):=by rw[e1,decide_eq_true he]
  unfold BT
  rw[hk]
  simp only[pP,lY,RB,Bool.false_eq_true,if_false,VX,Nat.reduceEqDiff,Nat.reduceAdd]
  exact bZ (d:=6) xQ (aM (v:=VB false) rfl)
 have lH:0<l.length:=List.length_pos_iff.2 he
 by_cases ahN:(200:Int)<(l.length:Int)
 ·have hk:iI l=false:=by
   cases h:iI l with
   | false=>rfl
   | true=>have:=(jY.1 h).2.2.1;omega
  unfold BT
  rw[hk]
  simp only[pP,lY,e1,he,decide_false,bU,ahN,Bool.false_eq_true,if_false,VX,Nat.reduceEqDiff,Nat.reduceAdd]
  exact bZ (d:=6) xQ (aM (v:=VB false) rfl)
 have e2:=Jv l lH
 by_cases hz:(((l.getD 0 0).toNat:Int)=48∧1<(l.length:Int))
 ·obtain⟨Jq,Uu⟩:=hz
  have hk:iI l=false:=by
   cases h:iI l with
   | false=>rfl
   |
    true =>
    rcases(jY.1 h).2.2.2 with h1 | h1
    ·omega
    ·exact absurd (UInt8.toNat_inj.1 (by rw[show (48:UInt8).toNat=48 from rfl];omega)) h1
  unfold BT
  rw[hk]
  simp only[pP,lY,e1,he,decide_false,bU,ahN,e2,Jq,Uu,Bool.false_eq_true,if_false,VX,Nat.reduceEqDiff,Nat.reduceAdd]
  exact bZ (d:=6) xQ (aM (v:=VB false) rfl)
 have asS:l.length=1∨l.getD 0 0≠48:=by
  by_cases h1:l.length=1
  ·exact .inl h1
  ·right
   intro h2
   apply hz
   rw[h2]
   exact⟨rfl,by omega⟩
 have e3:∀lr,lG lr [.int .u32 0] 0 [] []=some (.ref 0 0 0 0 0,[.row 0 [] 1 true]):=fun lr=>jH (H:=[]) (lr:=lr) (z:=[.int .u32 0]) rfl
 have kN:l.all iN=true→iI l=true:=fun h=>jY.2 ⟨h,lH,by omega,asS⟩
 have kF:l.all iN=false→iI l=false:=fun h=>by unfold iI;rw[h];rfl
 have rF:iI l=false→BT l = .dR [bS 0,VB false]:=fun h=>by unfold BT;rw[h];rfl
 have rT:iI l=true→BT l = .dR [bS (cD l),VB true]:=fun h=>if_pos h
 by_cases hA:(((l.getD 0 0).toNat:Int)=48)
 ·have hB:¬1<(l.length:Int):=fun h=>hz ⟨hA,h⟩
  simp only[pP,lY,e1,e3,he,decide_false,bU,ahN,e2,hA,hB,Bool.false_eq_true,if_false,VX,Nat.reduceEqDiff,Nat.reduceAdd]
  refine M6 hl ?_ ?_ ?_ (fun hd xY g2 g3 => ?_) fun hd xY k1 => ?_
  ·simp only[VX,Nat.reduceEqDiff,Nat.reduceAdd]
  ·simp only[VX,Nat.reduceEqDiff,Nat.reduceAdd]
  ·simp only[VX,Nat.reduceEqDiff,Nat.reduceAdd]
  ·rw[rF (kF hd)]
   simp only[g2,g3,VX,Nat.reduceEqDiff,Nat.reduceAdd]
   exact bZ (d:=6) xQ (aM (v:=VB false) rfl)
  ·rw[rT (kN hd)]
   simp only[VX,Nat.reduceEqDiff,Nat.reduceAdd]
   refine MB hd (by omega) he ?_ ?_ fun PX g4 => ?_
   ·rw[k1 0 (by decide)];simp only[VX,Nat.reduceEqDiff,Nat.reduceAdd]
   ·rw[k1 4 (by decide)];simp only[VX,Nat.reduceEqDiff,Nat.reduceAdd]
   ·simp only[g4,VX,Nat.reduceEqDiff,Nat.reduceAdd]
    exact bZ (d:=6) (aM (cB _)) (aM (v:=VB true) rfl)
 ·simp only[pP,lY,e1,e3,he,decide_false,bU,ahN,e2,hA,Bool.false_eq_true,if_false,VX,Nat.reduceEqDiff,Nat.reduceAdd]
  refine M6 hl ?_ ?_ ?_ (fun hd xY g2 g3 => ?_) fun hd xY k1 => ?_
  ·simp only[VX,Nat.reduceEqDiff,Nat.reduceAdd]
  ·simp only[VX,Nat.reduceEqDiff,Nat.reduceAdd]
  ·simp only[VX,Nat.reduceEqDiff,Nat.reduceAdd]
  ·rw[rF (kF hd)]
   simp only[g2,g3,VX,Nat.reduceEqDiff,Nat.reduceAdd]
   exact bZ (d:=6) xQ (aM (v:=VB false) rfl)
  ·rw[rT (kN hd)]
   simp only[VX,Nat.reduceEqDiff,Nat.reduceAdd]
   refine MB hd (by omega) he ?_ ?_ fun PX g4 => ?_
   ·rw[k1 0 (by decide)];simp only[VX,Nat.reduceEqDiff,Nat.reduceAdd]
   ·rw[k1 4 (by decide)];simp only[VX,Nat.reduceEqDiff,Nat.reduceAdd]
   ·simp only[g4,VX,Nat.reduceEqDiff,Nat.reduceAdd]
    exact bZ (d:=6) (aM (cB _)) (aM (v:=VB true) rfl)
def Me:VV := .agg [VB false,bS 0,bS 0]
def DE (l:List UInt8):VV:=match Ab l with
 | some q => .dR [aO q,VB true]
 | none => .dR [Me,VB false]
theorem TA:hC Me=true:=by simp[Me,hC,qD,qX,lF]
theorem Wb (l:List UInt8):hC (DE l)=true:=by
 unfold DE
 split<;>simp[hC,qD,tG,TA,lF]
theorem gK {d:Nat} {H:aA}:fz (d+2) H (.agg [VB false,.tree [] .nil,.tree [] .nil])=some Me:=rK (aM (v:=VB false) rfl) xQ xQ
theorem Nb {neg:Bool} {t b:Nat} (hb:b≠0) (hg:Nat.gcd t b=1) (hn:¬(neg=true∧t=0)):aO (mkRat (kT neg t) b) = .agg [VB neg,bS t,bS b]:=by
 obtain⟨e1,e2⟩:=JR (neg:=neg) hb hg
 refine Cz ?_ (by rw[e1,oB]) e2
 rw[e1]
 cases neg with
 | false=>unfold kT;simp
 |
  true =>
  have:t≠0:=fun h=>hn ⟨rfl,h⟩
  unfold kT
  simp
  omega
theorem UY (l:List UInt8):Ab l=pE (isNeg (mC 47 l).1) (if isNeg (mC 47 l).1 then (mC 47 l).1.drop 1 else (mC 47 l).1) (mC 47 l).2:=by
 cases l with
 | nil=>rfl
 |
  cons c r =>
  unfold Ab
  by_cases h47:c=47
  ·subst h47
   rfl
  ·have e:mC 47 (c::r)=(c::(mC 47 r).1,(mC 47 r).2):=by rw[mC,if_neg h47]
   by_cases h45:c=45
   ·subst h45
    rw[e]
    rfl
   ·rw[e,Gb,Gb,decide_eq_false h45]
    simp only[Bool.false_eq_true,if_false,e]
theorem SM {c:UInt8}:∀ {l:List UInt8},(mC c l).1.length≤l.length∧∀t,(mC c l).2=some t→t.length≤l.length:=by
 intro l
 cases h:(mC c l).2 with
 | none=>rw[(BK h).2.1];exact⟨Nat.le_refl _,fun t ht=>by cases ht⟩
 |
  some r =>
  have:=congrArg List.length (Ik h).2.1
  rw[List.length_append,List.length_cons] at this
  exact⟨by omega,fun t ht=>by cases ht;omega⟩
theorem Pd {n:Nat}:(((aC 4294967296 n).length:Nat):Int)=0↔n=0:=by
 rw[←lU (b:=4294967296) (n:=n) (by decide),←List.length_eq_zero_iff]
 omega
set_option maxRecDepth 100000 in
set_option maxHeartbeats 4000000 in
theorem ND (l:List UInt8) (hl:l.length≤1000000000000):TC 115 [bC l] (DE l):=by
 refine TC.walk ⟨true,false⟩ NP rfl (Nat.le_of_ble_eq_true rfl) rfl (Wb l) ?_
 have e1:=asE l hl
 obtain⟨l1,l2⟩:=SM (c:=47) (l:=l)
 have hq:=UY l
 unfold DE
 rw[hq]
 clear hq
 generalize (mC 47 l).1=f at *
 generalize (mC 47 l).2=s2 at *
 have e2:=Ss f
 have ld:(if isNeg f=true then f.drop 1 else f).length≤f.length:=by split<;>simp
 generalize (if isNeg f=true then f.drop 1 else f)=d at *
 generalize isNeg f=neg at *
 have e3:=Er d (by omega)
 have c1:TC 139 [.sc (.int .u64 1)] (bS 1):=nA 1 (by decide)
 cases hd:iI d with
 |
  false =>
  have hp:pE neg d s2=none:=if_pos (.inl hd)
  rw[hp]
  unfold BT at e3
  rw[hd,if_neg (by decide)] at e3
  simp only[eY,dH,e1,e2,e3,aI,iJ,Nat.reduceLeDiff,Nat.reduceLT,Nat.reduceSub,VX,Nat.reduceEqDiff,Nat.reduceAdd]
  exact bZ (d:=6) gK (aM (v:=VB false) rfl)
 |
  true =>
  unfold BT at e3
  rw[hd,if_pos rfl] at e3
  by_cases hz:neg=true∧cD d=0
  ·have hp:pE neg d s2=none:=if_pos (.inr hz)
   rw[hp]
   obtain⟨rfl,E7⟩:=hz
   rw[E7] at e3
   have AI:(((aC 4294967296 0).length:Nat):Int)=0:=Pd.2 rfl
   simp only[eY,dH,e1,e2,e3,dJ,AI,aI,iJ,Nat.reduceLeDiff,Nat.reduceLT,Nat.reduceSub,VX,Nat.reduceEqDiff,Nat.reduceAdd]
   exact bZ (d:=6) gK (aM (v:=VB false) rfl)
  ·have hbt:=yM hd
   have AI:neg=true→¬(((aC 4294967296 (cD d)).length:Nat):Int)=0:=fun h h0=>hz ⟨h,Pd.1 h0⟩
   cases s2 with
   |
    none =>
    have hp:pE neg d none=some (mkRat (kT neg (cD d)) 1):=if_neg (by rw[hd];rintro(h | h);exact absurd h (by decide);exact hz h)
    rw[hp]
    simp only[]
    rw[Nb (by decide) (Nat.gcd_one_right _) hz]
    cases neg with
    |
     false =>
     simp only[eY,dH,e1,e2,e3,c1,Option.isSome_none,Option.getD_none,aI,aZ,bB,aS,iJ,Nat.reduceLeDiff,Nat.reduceLT,Nat.reduceSub,VX,Nat.reduceEqDiff,Nat.reduceAdd]
     exact bZ (d:=6) (rK (aM (v:=VB false) rfl) (aM (cB _)) (aM (cB _))) (aM (v:=VB true) rfl)
    |
     true =>
     have AI:=AI rfl
     simp only[eY,dH,e1,e2,e3,c1,dJ,AI,Option.isSome_none,Option.getD_none,aI,aZ,bB,aS,iJ,Nat.reduceLeDiff,Nat.reduceLT,Nat.reduceSub,VX,Nat.reduceEqDiff,Nat.reduceAdd]
     exact bZ (d:=6) (rK (aM (v:=VB true) rfl) (aM (cB _)) (aM (cB _))) (aM (v:=VB true) rfl)
   |
    some t =>
    have e4:=Er t (by have:=l2 t rfl;omega)
    have hp:pE neg d (some t)=if iI t=true∧1<cD t∧Nat.gcd (cD d) (cD t)=1 then some (mkRat (kT neg (cD d)) (cD t)) else none:=if_neg (by rw[hd];rintro(h | h);exact absurd h (by decide);exact hz h)
    rw[hp]
    cases ht:iI t with
    |
     false =>
     rw[if_neg (fun h=>absurd h.1 (by decide))]
     unfold BT at e4
     rw[ht,if_neg (by decide)] at e4
     cases neg with
     |
      false =>
      simp only[eY,dH,e1,e2,e3,e4,c1,Option.isSome_some,Option.getD_some,aI,aZ,bB,aS,iJ,Nat.reduceLeDiff,Nat.reduceLT,Nat.reduceSub,VX,Nat.reduceEqDiff,Nat.reduceAdd]
      exact bZ (d:=6) gK (aM (v:=VB false) rfl)
     |
      true =>
      have AI:=AI rfl
      simp only[eY,dH,e1,e2,e3,e4,c1,dJ,AI,Option.isSome_some,Option.getD_some,aI,aZ,bB,aS,iJ,Nat.reduceLeDiff,Nat.reduceLT,Nat.reduceSub,VX,Nat.reduceEqDiff,Nat.reduceAdd]
      exact bZ (d:=6) gK (aM (v:=VB false) rfl)
    |
     true =>
     have M5:=yM ht
     unfold BT at e4
     rw[ht,if_pos rfl] at e4
     have c2:=kL (cD t) 1 (fN (by omega)) (fN (Nat.le_trans (G5 (n:=1) (k:=1) (by decide)) (by decide)))
     have c3:=Ei (cD d) (cD t) (fN (by omega)) (fN (by omega))
     by_cases h1:eZ (cD t) 1≤0
     ·have hle:¬1<cD t:=fun h=>by unfold eZ at h1;rw[if_neg (by omega),if_neg (by omega)] at h1;exact absurd h1 (by decide)
      rw[if_neg (fun h=>hle h.2.1)]
      cases neg with
      |
       false =>
       simp only[eY,dH,e1,e2,e3,e4,c1,c2,h1,Option.isSome_some,Option.getD_some,aI,aZ,bB,aS,iJ,Nat.reduceLeDiff,Nat.reduceLT,Nat.reduceSub,VX,Nat.reduceEqDiff,Nat.reduceAdd]
       exact bZ (d:=6) gK (aM (v:=VB false) rfl)
      |
       true =>
       have AI:=AI rfl
       simp only[eY,dH,e1,e2,e3,e4,c1,c2,h1,dJ,AI,Option.isSome_some,Option.getD_some,aI,aZ,bB,aS,iJ,Nat.reduceLeDiff,Nat.reduceLT,Nat.reduceSub,VX,Nat.reduceEqDiff,Nat.reduceAdd]
       exact bZ (d:=6) gK (aM (v:=VB false) rfl)
     ·have bH:1<cD t:=by
       rcases Nat.lt_or_ge 1 (cD t) with h | h
       ·exact h
       ·exfalso
        apply h1
        unfold eZ
        split
        ·decide
        ·rw[if_pos (by omega)];decide
      have hgl:bl (Nat.gcd (cD d) (cD t))≤665:=Nat.le_trans (kP (Nat.le_of_dvd (by omega) (Nat.gcd_dvd_right _ _))) M5
      have c4:=kL (Nat.gcd (cD d) (cD t)) 1 (fN (by omega)) (fN (Nat.le_trans (G5 (n:=1) (k:=1) (by decide)) (by decide)))
      by_cases hg:Nat.gcd (cD d) (cD t)=1
      ·have h4:eZ (Nat.gcd (cD d) (cD t)) 1=0:=by rw[hg];rfl
       rw[if_pos ⟨rfl,bH,hg⟩]
       simp only[]
       rw[Nb (by omega) hg hz]
       cases neg with
       |
        false =>
        simp only[eY,dH,e1,e2,e3,e4,c1,c2,c3,c4,h1,h4,Option.isSome_some,Option.getD_some,aI,aZ,bB,aS,iJ,Nat.reduceLeDiff,Nat.reduceLT,Nat.reduceSub,VX,Nat.reduceEqDiff,Nat.reduceAdd]
        exact bZ (d:=6) (rK (aM (v:=VB false) rfl) (aM (cB _)) (aM (cB _))) (aM (v:=VB true) rfl)
       |
        true =>
        have AI:=AI rfl
        simp only[eY,dH,e1,e2,e3,e4,c1,c2,c3,c4,h1,h4,dJ,AI,Option.isSome_some,Option.getD_some,aI,aZ,bB,aS,iJ,Nat.reduceLeDiff,Nat.reduceLT,Nat.reduceSub,VX,Nat.reduceEqDiff,Nat.reduceAdd]
        exact bZ (d:=6) (rK (aM (v:=VB true) rfl) (aM (cB _)) (aM (cB _))) (aM (v:=VB true) rfl)
      ·have h4:¬eZ (Nat.gcd (cD d) (cD t)) 1=0:=by
        unfold eZ
        split<;>(try split)<;>first | decide | omega
       rw[if_neg (fun h=>hg h.2.2)]
       cases neg with
       |
        false =>
        simp only[eY,dH,e1,e2,e3,e4,c1,c2,c3,c4,h1,h4,Option.isSome_some,Option.getD_some,aI,aZ,bB,aS,iJ,Nat.reduceLeDiff,Nat.reduceLT,Nat.reduceSub,VX,Nat.reduceEqDiff,Nat.reduceAdd]
        exact bZ (d:=6) gK (aM (v:=VB false) rfl)
       |
        true =>
        have AI:=AI rfl
        simp only[eY,dH,e1,e2,e3,e4,c1,c2,c3,c4,h1,h4,dJ,AI,Option.isSome_some,Option.getD_some,aI,aZ,bB,aS,iJ,Nat.reduceLeDiff,Nat.reduceLT,Nat.reduceSub,VX,Nat.reduceEqDiff,Nat.reduceAdd]
        exact bZ (d:=6) gK (aM (v:=VB false) rfl)
end Go.PM
namespace Go.PM
open Go.Lib
theorem Ud {l:List UInt8} {q:Rat} (h:Ab l=some q):DE l = .dR [aO q,VB true]:=by unfold DE;rw[h]
theorem R7 {l:List UInt8} (h:Ab l=none):DE l = .dR [Me,VB false]:=by unfold DE;rw[h]
theorem J0:aB Me=[VB false,bS 0,bS 0]:=rfl
theorem Lu:isAny Me=false:=rfl
theorem T7:dF true 3 Me 0=some Me:=rfl
end Go.PM
namespace Go.PM
open Go.Lib
end Go.PM
namespace Go.PM
open Go.Lib
theorem RE {α:Type} {f:α→VV} {d e b g c:Nat} {xs:List α} {H:aA} {w:Bool} (hp:∀x,aY (f x)=true) (h:aF H b g=some (xs.map f,e,w)) (hc:xs.length≤c):fz (d+2) H (.ref b g 0 xs.length c)=some (aK f xs):=by
 have:aY (.ref b g 0 xs.length c)=false:=rfl
 unfold PM.fz
 simp only[this,h,Bool.false_eq_true,if_false]
 rw[if_pos ⟨by simp,hc⟩,List.drop_zero,List.take_of_length_le (by simp),mapM_pure (fI hp)]
 rfl
theorem Ri {d:Nat} {H:aA}:fz (d+1) H (.tree [] .nil)=some (.tree [] .op):=by
 unfold PM.fz
 have:aY (.tree [] .nil)=false:=by simp[aY]
 simp[this]
theorem Q9 {H:aA}:fz depth H (.dR [.tree [] .nil,VB false])=some (.dR [.tree [] .op,VB false]):=bZ (d:=6) Ri (aM (v:=VB false) rfl)
theorem wC {u v:VV} (hu:hC u=true) (hv:hC v=true):hC (.dR [u,v])=true:=by simp only[hC,qD,hu,hv,Bool.and_self]
theorem Gp {u:VV} (hu:aY u=true):aP [u]=true:=by simp only[aP,hu,Bool.and_self]
theorem rO {u v:VV} (hu:aY u=true) (hv:aY v=true):aP [u,v]=true:=by simp only[aP,hu,hv,Bool.and_self]
theorem abU {u:VV} (hu:aY u=true):aY (.agg [u])=true:=by simp only[aY,aP,hu,Bool.and_self]
def pQ (s:ByteArray):Option Rat:=Ab s.data.toList
theorem acK (s:ByteArray):sV s=bC s.data.toList:=rfl
def Al (xs:List ByteArray):Option (List Rat):=if xs.length≤300 then xs.mapM pQ else none
def Tz (o:Option (List Rat)):VV:=match o with
 | some qs => .dR [aK aO qs,VB true]
 | none => .dR [aK aO [],VB false]
theorem Br (q:Rat):(aB (aO q)).length=3:=rfl
theorem lJ (qs:List Rat):aY (aK aO qs)=true:=nO Br iC
theorem Ys (q:Rat):AY (aO q)=true:=by simp[AY,aO,bS]
theorem E1 (qs:List Rat):hC (aK aO qs)=true:=Bl Br tG Ys
theorem Za (o:Option (List Rat)):hC (Tz o)=true:=by
 unfold Tz
 split
 ·exact wC (E1 _) rfl
 ·exact wC (E1 []) rfl
theorem E4 {α β:Type} {f:α→Option β} {xs:List α} {ys:List β} {x:α} {y:β} (h:xs.mapM f=some ys) (hx:f x=some y):(xs++[x]).mapM f=some (ys++[y]):=by
 rw[List.mapM_append,h]
 simp[hx]
theorem mapM_none {α β:Type} {f:α→Option β} {x:α} (hx:f x=none):∀ {xs:List α},x∈xs→xs.mapM f=none
 | [],h=>by cases h
 |
  y::xs,h=>by
  rw[List.mapM_cons]
  cases hy:f y with
  | none=>rfl
  |
   some z =>
   rcases List.mem_cons.1 h with rfl | h
   ·rw[hx] at hy;cases hy
   ·show ((xs.mapM f).bind fun zs=>some (z::zs))=none
    rw[mapM_none hx h];rfl
theorem mapM_mem {α β:Type} {f:α→Option β} {P:β→Prop} (hP:∀x y,f x=some y→P y):∀ {xs:List α} {ys:List β},xs.mapM f=some ys→∀y∈ys,P y
 | [],ys,h,y,hy=>by simp at h;subst h;cases hy
 |
  x::xs,ys,h,y,hy=>by
  rw[List.mapM_cons] at h
  cases hx:f x with
  | none=>rw[hx] at h;cases h
  |
   some z =>
   rw[hx] at h
   cases hs:xs.mapM f with
   | none=>rw[hs] at h;cases h
   |
    some zs =>
    rw[hs] at h
    cases h
    rcases List.mem_cons.1 hy with rfl | hy
    ·exact hP _ _ hx
    ·exact mapM_mem hP hs _ hy
theorem iD {α:Type} {xs:List α} {i:Nat} {x:α} (h:xs[i]? = some x):xs.take (i+1)=xs.take i++[x]:=by rw[List.take_add_one,h];rfl
theorem uT {xs:List ByteArray} {qs:List Rat} (h:Al xs=some qs):(∀q∈qs,bP q≤665)∧qs.length≤300∧qs.length=xs.length:=by
 unfold Al at h
 split at h
 ·rename_i hl
  have:=rA h
  exact⟨mapM_mem (fun _ _ h=>Wt h) h,by omega,this⟩
 ·cases h
set_option maxHeartbeats 1000000 in
theorem JC (xs:List ByteArray) (hn:xs.length≤1000000000) (hs:∀s∈xs,s.size≤1000000000):TC 65 [fH xs] (Tz (Al xs)):=by
 refine TC.walk ⟨true,false⟩ TF rfl (Nat.le_of_ble_eq_true rfl) (by simp[aP,fB]) (Za _) ?_
 unfold Al
 by_cases Wa:(300:Int)<(xs.length:Int)
 ·rw[if_neg (by omega)]
  simp only[II,DX,Wa,VX,Nat.reduceEqDiff,Nat.reduceAdd]
  exact Q9
 rw[if_pos (by omega)]
 have e0:=fun H=>jH (H:=H) (lr:=false) (z:=[.bool false,.slice none 0 0,.slice none 0 0]) rfl
 simp only[II,DX,Wa,e0,VX,Nat.reduceEqDiff,Nat.reduceAdd]
 refine Ns (fun(s:Nat×List Rat) ρ H=>s.1≤xs.length∧(xs.take s.1).mapM pQ=some s.2∧H=[.row s.1 (s.2.map aO) 3 true]∧ρ 4 = .ref 0 s.1 0 s.1 s.1∧ρ 13=fH xs∧ρ 14=VI xs.length∧ρ 15=VI s.1) (fun s=>xs.length-s.1) (0,[]) ⟨Nat.zero_le _,rfl,rfl,rfl,rfl,rfl,rfl⟩ ?_
 rintro⟨i,out⟩ ρ H ⟨hi,LR,rfl,g4,g13,g14,g15⟩
 simp only at hi LR g4 g15
 have jK:out.length=i:=by rw[rA LR,List.length_take];omega
 by_cases cS:(i:Int)<(xs.length:Int)
 ·obtain⟨x,hx⟩:∃x,xs[i]? = some x:=⟨_,List.getElem?_eq_getElem (by omega)⟩
  have hxm:=List.mem_of_getElem? hx
  have e1:=fun H=>aJ (f:=sV) (t := .op) (H:=H) (size:=1) (k := .i64) hx rfl
  have wi:IntKind.i64.wrap ((i:Int)+1)=((i+1:Nat):Int):=wrapN (i+1) (by omega) (by omega)
  have e2:=ND x.data.toList (by have:=hs x hxm;rw[Array.length_toList];show x.size≤_;omega)
  rw[←acK] at e2
  cases hp:pQ x with
  |
   none =>
   rw[R7 hp] at e2
   rw[mapM_none hp hxm]
   simp only[xD,g4,g13,g14,g15,cS,e1,e2,J0,Lu,T7,bB,aZ,aS,iJ,Nat.reduceLeDiff,Nat.reduceLT,Nat.reduceSub,J1,Cj,EO,zC,GL,Gs,bne_iff_ne,ne_eq,not_false_eq_true,not_true_eq_false,VX,Nat.reduceEqDiff,Nat.reduceAdd]
   exact Q9
  |
   some q =>
   rw[Ud hp] at e2
   have eL:∀H,lG false [.bool false,.slice none 0 0,.slice none 0 0] 1 [(0,aO q)] H=some (.tree [aO q] (.cl 3),H):=fun H=>gW rfl rfl rfl
   have eS:∀H,cW 3 (.tree [aO q] (.cl 3)) H=some [aO q]:=fun H=>dZ rfl rfl
   have eP:dW 0 3 56 (.ref 0 i 0 i i) [aO q] [.row i (out.map aO) 3 true,.row 0 [aO q] 3 true]=some (.ref 0 (i+1) 0 (i+1) (i+1),[.row (i+1) ((out++[q]).map aO) 3 true,.row 0 [aO q] 3 true]):=by
    rw[gS (f:=aO) (xs:=out) (by rw[aQ]) jK.symm (Nat.le_refl _) (by decide) (by decide) (by omega),List.set_cons_zero]
   simp only[xD,g4,g13,g14,g15,cS,e1,e2,eL,eS,eP,wi,aI,dC,dQ,bB,aZ,aS,iJ,Nat.reduceLeDiff,Nat.reduceLT,Nat.reduceSub,J1,Cj,EO,zC,GL,Gs,bne_iff_ne,ne_eq,not_false_eq_true,not_true_eq_false,VX,Nat.reduceEqDiff,Nat.reduceAdd]
   refine⟨(i+1,out++[q]),by simp only;omega,?_,by simp only;omega,by simp only[iD hx];exact E4 LR hp,rfl,?_⟩
   ·rw[Bm (mD _ (fI iC)),Il]
   ·simp only[uJ,g13,g14,Bz (fB _),Iy (Nat.lt_succ_self 0),VX,Nat.reduceEqDiff,Nat.reduceAdd,List.take_zero,jX,List.all_nil,List.length_nil,uJ,Mx,Bz]
 ·have mT:i=xs.length:=by omega
  subst mT
  rw[List.take_length] at LR
  rw[LR]
  simp only[xD,g4,g13,g14,g15,cS,VX,Nat.reduceEqDiff,Nat.reduceAdd]
  refine bZ (d:=6) ?_ (aM (v:=VB true) rfl)
  have:=RE (d:=5) (w:=true) (f:=aO) (e:=3) (b:=0) (g:=xs.length) (c:=xs.length) (xs:=out) (H:=[.row xs.length (out.map aO) 3 true]) iC (by rw[aQ]) (by omega)
  rw[jK] at this
  exact this
end Go.PM
namespace Go.PM
open Go.Lib
theorem Ue {α:Type} {l:List α} (h:l.Nodup) {i j:Nat} {x:α} (hi:l[i]? = some x) (hj:l[j]? = some x):i=j:=by
 obtain⟨hi,oQ⟩:=List.getElem?_eq_some_iff.1 hi
 obtain⟨hj,hj'⟩:=List.getElem?_eq_some_iff.1 hj
 have h:=List.pairwise_iff_getElem.1 h
 rcases Nat.lt_trichotomy i j with bH | heq | hgt
 ·exact absurd (oQ.trans hj'.symm) (h i j hi hj bH)
 ·exact heq
 ·exact absurd (hj'.trans oQ.symm) (h j i hj hi hgt)
section
variable {α:Type} {f:α→VV} {e lo hi:Nat} {H H':aA} {v:VV}
def dD (lo hi:Nat) (H H':aA):Prop:=∀b g x,lo≤b→b<hi→aF H b g=some x→aF H' b g=some x
theorem dD.pre (h:H <+: H'):dD lo hi H H':=fun _ _ _ _ _=>cA h
theorem dD.refl:dD lo hi H H:=fun _ _ _ _ _ h=>h
theorem dD.trans {H'':aA} (h:dD lo hi H H') (h':dD lo hi H' H''):dD lo hi H H'':=fun b g x h1 h2 h3=>h' b g x h1 h2 (h b g x h1 h2 h3)
theorem dD.sub {l h':Nat} (h:dD lo hi H H') (hl:lo≤l) (hh:h'≤hi):dD l h' H H':=fun b g x h1 h2=>h b g x (by omega) (by omega)
theorem dD.set {b:Nat} {x:bT} (hb:b<lo∨hi≤b):dD lo hi H (H.set b x):=fun _ _ _ h1 h2=>bF (by omega)
theorem dD.move {L:aA}:dD H.length hi (List.replicate H.length .dead++L) (H++L):=fun _ _ _ h1 _=>Pr h1
def Ut (f:α→VV) (e:Nat) (bK:List α) (lo hi:Nat) (H:aA) (v:VV):Prop :=
 (v = .tree [] .nil∧bK=[])∨∃b g c,lo≤b∧b<hi∧v = .ref b g 0 bK.length c∧bK.length≤c∧aF H b g=some (bK.map f,e,true)
theorem Ut.cG {bK:List α} (h:Ut f e bK lo hi H v) (hk:dD lo hi H H'):Ut f e bK lo hi H' v:=by
 rcases h with h | ⟨b,g,c,h1,h2,h3,h4,h5⟩
 ·exact .inl h
 ·exact .inr ⟨b,g,c,h1,h2,h3,h4,hk _ _ _ h1 h2 h5⟩
theorem Ut.wide {bK:List α} {kE oQ:Nat} (h:Ut f e bK lo hi H v) (hl:kE≤lo) (hh:hi≤oQ):Ut f e bK kE oQ H v:=by
 rcases h with h | ⟨b,g,c,h1,h2,h3⟩
 ·exact .inl h
 ·exact .inr ⟨b,g,c,by omega,by omega,h3⟩
theorem Xn {d b g c:Nat} {xs:List α} {w:Bool} (hp:∀x,aY (f x)=true) (h:aF H b g=some (xs.map f,e,w)) (hc:xs.length≤c):fz (d+2) H (.ref b g 0 xs.length c)=some (aK f xs):=by
 have:aY (.ref b g 0 xs.length c)=false:=rfl
 show PM.fz ((d+1)+1) H _=_
 unfold PM.fz
 simp only[this,h,Bool.false_eq_true,if_false]
 rw[if_pos ⟨by simp,hc⟩,List.drop_zero,List.take_of_length_le (by simp),mapM_pure (n:=d) (fI hp)]
 rfl
theorem Ut.fz {d:Nat} {bK:List α} (h:Ut f e bK lo hi H v) (hp:∀x,aY (f x)=true):PM.fz (d+2) H v=some (aK f bK):=by
 rcases h with⟨rfl,rfl⟩ | ⟨b,g,c,h1,h2,rfl,h4,h5⟩
 ·exact Nn
 ·exact Xn hp h5 h4
structure xO (α:Type) where
 b:Nat
 g:Nat
 c:Nat
 xs:List α
def nL (r:xO α):VV := .ref r.b r.g 0 r.xs.length r.c
structure OY (f:α→VV) (e lo hi b:Nat) (H:aA) (rs:List (xO α)):Prop where
 nd:(rs.map (·.b)).Nodup
 row:∀r∈rs,lo≤r.b∧r.b<hi∧r.b≠b∧r.xs.length≤r.c∧aF H r.b r.g=some (r.xs.map f,e,true)
def RG (f:α→VV) (e:Nat) (bK:List (List α)) (lo hi:Nat) (H:aA) (v:VV):Prop :=
 (v = .tree [] .nil∧bK=[])∨∃b g c rs,lo≤b∧b<hi∧v = .ref b g 0 bK.length c∧bK.length≤c∧aF H b g=some (rs.map nL,1,true)∧rs.map (·.xs)=bK∧OY f e lo hi b H rs
theorem RG.cG {bK:List (List α)} (h:RG f e bK lo hi H v) (hk:dD lo hi H H'):RG f e bK lo hi H' v:=by
 rcases h with h | ⟨b,g,c,rs,h1,h2,h3,h4,h5,h6,h7⟩
 ·exact .inl h
 ·exact .inr ⟨b,g,c,rs,h1,h2,h3,h4,hk _ _ _ h1 h2 h5,h6,h7.nd,fun r hr=>by
   obtain⟨k1,k2,k3,k4,k5⟩:=h7.row r hr
   exact⟨k1,k2,k3,k4,hk _ _ _ k1 k2 k5⟩⟩
theorem RG.wide {bK:List (List α)} {kE oQ:Nat} (h:RG f e bK lo hi H v) (hl:kE≤lo) (hh:hi≤oQ):RG f e bK kE oQ H v:=by
 rcases h with h | ⟨b,g,c,rs,h1,h2,h3,h4,h5,h6,h7⟩
 ·exact .inl h
 ·exact .inr ⟨b,g,c,rs,by omega,by omega,h3,h4,h5,h6,h7.nd,fun r hr=>by
   obtain⟨k1,k2,k3,k4,k5⟩:=h7.row r hr
   exact⟨by omega,by omega,k3,k4,k5⟩⟩
theorem Xu {d b g c lo hi:Nat} {rs:List (xO α)} {w:Bool} (hp:∀x,aY (f x)=true) (h:aF H b g=some (rs.map nL,1,w)) (hc:rs.length≤c) (hR:OY f e lo hi b H rs) :
  fz (d+3) H (.ref b g 0 rs.length c)=some (aK (aK f) (rs.map (·.xs))):=by
 have:aY (.ref b g 0 rs.length c)=false:=rfl
 show PM.fz ((d+2)+1) H _=_
 unfold PM.fz
 simp only[this,h,Bool.false_eq_true,if_false]
 rw[if_pos ⟨by simp,hc⟩,List.drop_zero,List.take_of_length_le (by simp),mapM_map (f:=nL) (f':=fun r=>aK f r.xs) fun r hr=>Xn hp (hR.row r hr).2.2.2.2 (hR.row r hr).2.2.2.1]
 simp[aK,List.map_map]
theorem RG.fz {d:Nat} {bK:List (List α)} (h:RG f e bK lo hi H v) (hp:∀x,aY (f x)=true):PM.fz (d+3) H v=some (aK (aK f) bK):=by
 rcases h with⟨rfl,rfl⟩ | ⟨b,g,c,rs,h1,h2,rfl,h4,h5,rfl,h7⟩
 ·exact Nn
 ·rw[List.length_map] at h4 ⊢
  exact Xu hp h5 h4 h7
theorem QD {d:Nat} {us Gk:List VV} (h:us.mapM (PM.fz (d+1) H)=some Gk):PM.fz (d+2) H (.agg us)=some (.agg Gk):=by
 have e:PM.fz (d+2) H (.agg us)=if aY (.agg us)=true then some (.agg us) else (us.mapM (PM.fz (d+1) H)).map .agg:=rfl
 rw[e]
 by_cases hq:aY (.agg us)=true
 ·rw[if_pos hq]
  have:us.mapM (PM.fz (d+1) H)=some us:=mapM_pure hq
  rw[this] at h
  cases h
  rfl
 ·rw[if_neg hq,h]
  rfl
def YZ (P:Nat→Nat→aA→VV→Prop) (ok:Bool) (n:Nat) (r:VV) (L:aA):Prop :=
 ∃v,r = .dR [v,.sc (.bool ok)]∧P n (n+L.length) (List.replicate n .dead++L) v
theorem Lq {F lo:Nat} {args iQ:List VV} {P:Nat→Nat→aA→VV→Prop} {ok:Bool} {H:aA} {K:VV→aA→Prop} (h:FC F iQ (YZ P ok)) (Ag:Eo.contains F=true) (hf:args.mapM (PM.fz depth H)=some iQ)
  (hP:∀ {lo hi H H' v},P lo hi H v→dD lo hi H H'→P lo hi H' v) (hk:∀v H',H <+: H'→P H.length H'.length H' v→K (.dR [v,.sc (.bool ok)]) H'):cV F args lo H K:=by
 refine h.call Ag hf ?_
 rintro r L ⟨v,rfl,hv⟩
 refine hk v _ (List.prefix_append _ _) ?_
 rw[List.length_append]
 exact hP hv dD.move
end
def Hb (T:VV) (lo hi:Nat) (H:aA) (v:VV):Prop:=∀H',dD lo hi H H'→fz depth H' v=some T
theorem Hb.cG {T:VV}:∀ {lo hi H H' v},Hb T lo hi H v→dD lo hi H H'→Hb T lo hi H' v:=fun h hk _ h'=>h _ (hk.trans h')
theorem Hb.now {T v:VV} {lo hi:Nat} {H:aA} (h:Hb T lo hi H v):fz depth H v=some T:=h H dD.refl
def CG (bK:List (List ByteArray)) (lo hi:Nat) (H:aA) (v:VV):Prop:=∃c,v = .agg [c]∧RG sV 1 bK lo hi H c
theorem CG.cG {bK:List (List ByteArray)}:∀ {lo hi H H' v},CG bK lo hi H v→dD lo hi H H'→CG bK lo hi H' v:=by
 rintro lo hi H H' v ⟨c,h1,h2⟩ hk
 exact⟨c,h1,h2.cG hk⟩
theorem CG.fz {bK:List (List ByteArray)} {lo hi:Nat} {H:aA} {v:VV} (h:CG bK lo hi H v):PM.fz depth H v=some (chV bK):=by
 obtain⟨c,rfl,h⟩:=h
 refine QD (d:=6) ?_
 rw[List.mapM_cons,h.fz (d:=4) fun _=>rfl]
 rfl
theorem CG.seen {bK:List (List ByteArray)} {lo hi:Nat} {H:aA} {v:VV} (h:CG bK lo hi H v):Hb (chV bK) lo hi H v:=fun _ hk=>(h.cG hk).fz
def WX (s:K3) (lo hi:Nat) (H:aA) (v:VV):Prop:=∃a b c m1 m2,v = .agg [a,b,c]∧lo≤m1∧m1≤m2∧m2≤hi∧Ut sV 1 s.b lo m1 H a∧RG sV 1 s.g m1 m2 H b∧Ut sV 1 s.e m2 hi H c
theorem WX.cG {s:K3}:∀ {lo hi H H' v},WX s lo hi H v→dD lo hi H H'→WX s lo hi H' v:=by
 rintro lo hi H H' v ⟨a,b,c,m1,m2,h1,k1,k2,k3,h2,h3,h4⟩ hk
 exact⟨a,b,c,m1,m2,h1,k1,k2,k3,h2.cG (hk.sub (by omega) (by omega)),h3.cG (hk.sub (by omega) (by omega)),h4.cG (hk.sub (by omega) (by omega))⟩
theorem aqH {s:K3} {l1 h1 l2 h2 l3 h3:Nat} {H:aA} {a b c:VV} (ha:Ut sV 1 s.b l1 h1 H a) (hb:RG sV 1 s.g l2 h2 H b) (hc:Ut sV 1 s.e l3 h3 H c):PM.fz depth H (.agg [a,b,c])=some (svV s):=by
 refine QD (d:=6) ?_
 rw[List.mapM_cons,ha.fz (d:=5) fun _=>rfl]
 rw[List.mapM_cons,hb.fz (d:=4) fun _=>rfl]
 rw[List.mapM_cons,hc.fz (d:=5) fun _=>rfl]
 rfl
theorem WX.fz {s:K3} {lo hi:Nat} {H:aA} {v:VV} (h:WX s lo hi H v):PM.fz depth H v=some (svV s):=by
 obtain⟨a,b,c,m1,m2,rfl,k1,k2,k3,h2,h3,h4⟩:=h
 exact aqH h2 h3 h4
theorem WX.seen {s:K3} {lo hi:Nat} {H:aA} {v:VV} (h:WX s lo hi H v):Hb (svV s) lo hi H v:=fun _ hk=>(h.cG hk).fz
theorem Ut.seen {bK:List ByteArray} {lo hi:Nat} {H:aA} {v:VV} (h:Ut sV 1 bK lo hi H v):Hb (fH bK) lo hi H v:=fun _ hk=>(h.cG hk).fz (d:=6) fun _=>rfl
def Un (k:Int):ByteArray:=⟨(109::(if k≤0 then [48] else decDigits k.toNat)).toArray⟩
theorem CM (k:Int) (hk:0≤k∧k≤1000000000):TC 101 [VI k] (.sc (.string (Un k))):=by
 refine TC.walk ⟨true,false⟩ Ks rfl (Nat.le_of_ble_eq_true rfl) rfl rfl ?_
 by_cases h0:k≤0
 ·have e:Un k=⟨#[109,48]⟩:=by unfold Un;rw[if_pos h0]
  rw[e]
  simp only[A6,wQ,h0,VX,Nat.reduceEqDiff,Nat.reduceAdd]
  exact aL rfl
 obtain⟨n,rfl⟩:∃n:Nat,k=n:=⟨k.toNat,by omega⟩
 have e1:∀(x:UInt8) (H:aA),lG false [.int .u8 0] 1 [(0,bV x)] H=some (.tree [bV x] (.cl 1),H):=fun x H=>gW rfl rfl rfl
 simp only[A6,wQ,h0,VX,Nat.reduceEqDiff,Nat.reduceAdd]
 refine aU (fun(s:Nat×List UInt8) ρ H=>s.1≤n∧H=[]∧ρ 0=VI s.1∧ρ 3=bC s.2∧decDigits n=lR s.1++s.2) (fun s=>s.1) (n,[]) ⟨Nat.le_refl _,rfl,rfl,rfl,by rw[List.append_nil,lR,if_neg (by omega)]⟩ ?_
 rintro⟨r,bs⟩ ρ H ⟨hr,rfl,g0,g3,hd⟩
 simp only at hr hd g0 g3
 have vE:bs.length≤11:=by
  have h1:=yT n 10 (by omega)
  rw[hd,List.length_append] at h1
  omega
 by_cases hz:(0:Int)<(r:Int)
 ·have em:=RT (r:Int)
  have eq:=alH (r:Int) (by omega) (by omega)
  have m1:((r:Int)).tmod 10=((r % 10:Nat):Int):=by rw[Int.tmod_eq_emod_of_nonneg (by omega)];omega
  have m2:((r:Int)).tdiv 10=((r / 10:Nat):Int):=by rw[Int.tdiv_eq_ediv_of_nonneg (by omega)];omega
  rw[m1] at em
  rw[m2] at eq
  have w1:IntKind.i64.wrap (48+((r % 10:Nat):Int))=((48+r % 10:Nat):Int):=wrapN _ (by omega) (by omega)
  have w2:IntKind.u8.wrap ((48+r % 10:Nat):Int)=((d10 (r % 10)).toNat:Int):=by
   rw[P3 (Nat.mod_lt _ (by decide))]
   simp[IntKind.wrap,IntKind.bits,IntKind.signed]
   omega
  have bs2:=fun bL (h:eJ bL (.tmp 12) = .tree [bV (d10 (r % 10))] (.cl 1))=>(GC.tree (bs:=[d10 (r % 10)]) (k := .cl 1) (H:=[])).str (fl:=⟨true,false⟩) (lo:=0) h
  have YU:decDigits n=lR (r / 10)++d10 (r % 10)::bs:=by
   refine IH ?_
   rw[hd,lR,if_neg (by omega)]
  have ea:=rC [d10 (r % 10)] bs (by have:=vE;simp only[List.length_cons,List.length_nil];omega)
  simp only[vC,g0,g3,hz,em,eq,w1,w2,e1,Ru,VX,Nat.reduceEqDiff,Nat.reduceAdd]
  rw[bs2 _ rfl]
  simp only[g0,g3,em,eq,ea,VX,Nat.reduceEqDiff,Nat.reduceAdd]
  exact⟨(r / 10,d10 (r % 10)::bs),by simp only;omega,by simp only;omega,rfl,rfl,YU⟩
 ·have qQ:r=0:=by omega
  subst qQ
  simp only[vC,g0,hz,VX,Nat.reduceEqDiff,Nat.reduceAdd]
  have hb:bs=decDigits n:=by rw[hd,lR,if_pos rfl,List.nil_append]
  have e:Un (n:Int)=⟨(109::bs).toArray⟩:=by
   unfold Un
   rw[if_neg h0,Int.toNat_natCast,hb]
  have ea:=rC [109] bs (by simp only[List.length_cons,List.length_nil];omega)
  have ea:dG .add (.string ⟨#[109]⟩) (.string ⟨bs.toArray⟩)=some (.string ⟨(109::bs).toArray⟩):=ea
  rw[e]
  simp only[g3,ea,VX,Nat.reduceEqDiff,Nat.reduceAdd]
  exact aL rfl
theorem ahM (k:Int):dG .neq (.string (Un k)) (.string (Un k))=some (.bool false):=by
 unfold Un
 rw[QC]
 simp
abbrev lK (k:Int) (n:Nat):List ByteArray:=(iota k n).map Un
theorem Af (k:Int) (n:Nat):(lK k n).length=n:=by rw[List.length_map,Sq]
theorem Wi {k:Int} {n i:Nat} (h:i<n):(lK k n)[i]? = some (Un (k+i)):=by
 rw[List.getElem?_map]
 simp[iota,List.getElem?_range,h]
theorem zR {lo b g n c:Nat} {H:aA} (xs:List ByteArray) (k:Int) (hr:aF H b g=some (xs.map sV,1,true)) (hn:n≤xs.length) (dP:lo≤b) (hk:0≤k∧k≤100000000) (SK:n≤100000000) :
  jC 37 [.ref b g 0 n c,VI k] lo H fun r H'=>r=VI (k+n)∧H'=H.set b (.row g ((lK k n++xs.drop n).map sV) 1 true):=by
 refine jC.walk ⟨true,false⟩ F1 (Nat.le_of_ble_eq_true rfl) ?_
 have hb:b<H.length:=(List.getElem?_eq_some_iff.1 (cK.1 hr)).1
 have h00:H=H.set b (.row g ((lK k 0++xs.drop 0).map sV) 1 true):=by
  have h':=cK.1 hr
  obtain⟨bH,CJ⟩:=List.getElem?_eq_some_iff.1 h'
  have:lK k 0++xs.drop 0=xs:=by simp[iota]
  rw[this,←CJ,List.set_getElem_self]
 simp only[Bk,yS,VX,Nat.reduceEqDiff,Nat.reduceAdd]
 refine aU (fun(i:Nat) ρ H1=>i≤n∧H1=H.set b (.row g ((lK k i++xs.drop i).map sV) 1 true)∧ρ 0 = .ref b g 0 n c∧ρ 1=VI (k+i)∧ρ 5=VI i) (fun i=>n-i) 0 ⟨Nat.zero_le _,h00,rfl,by simp only[VX,Nat.reduceEqDiff,Nat.reduceAdd];simp,rfl⟩ ?_
 rintro i ρ H1 ⟨hi,rfl,h0,h1,h5⟩
 have hR:aF (H.set b (.row g ((lK k i++xs.drop i).map sV) 1 true)) b g=some ((lK k i++xs.drop i).map sV,1,true):=cK.2 (List.getElem?_set_self hb)
 have hlen:(lK k i++xs.drop i).length=xs.length:=by rw[List.length_append,Af,List.length_drop];omega
 have el:=dX (o:=0) (n:=n) (c:=c) hR
 by_cases cS:(i:Int)<(n:Int)
 ·have e1:=bD (o:=0) (n:=n) (c:=c) (i:=i) (k := .i64) hR (by omega)
  have e2:=fA (f:=sV) (e:=1) (x:=Un (k+i)) (j:=i) (lo:=lo) hR (by omega) dP rfl rfl
  have e3:=CM (k+i) (by omega)
  have hs:(lK k i++xs.drop i).set i (Un (k+i))=lK k (i+1)++xs.drop (i+1):=by
   obtain⟨x,hx⟩:∃x,xs[i]? = some x:=⟨_,List.getElem?_eq_getElem (by omega)⟩
   have hd:xs.drop i=x::xs.drop (i+1):=by
    have bH:=List.getElem?_eq_some_iff.1 hx
    rw[List.drop_eq_getElem_cons bH.1,bH.2]
   rw[List.set_append_right _ _ (by rw[Af];exact Nat.le_refl _),Af,Nat.sub_self,hd,List.set_cons_zero]
   have:lK k (i+1)=lK k i++[Un (k+i)]:=by
    show (iota k (i+1)).map Un=(iota k i).map Un++[Un (k+i)]
    unfold iota
    rw[List.range_succ,List.map_append,List.map_append]
    rfl
   rw[this,List.append_assoc]
   rfl
  rw[List.set_set,hs] at e2
  have w1:IntKind.i64.wrap (k+i+1)=k+((i+1:Nat):Int):=by rw[wrap64 (by omega) (by omega)];omega
  have wi:IntKind.i64.wrap ((i:Int)+1)=((i+1:Nat):Int):=wrapN (i+1) (by omega) (by omega)
  simp only[qJ,h0,h1,h5,cS,el,e1,e2,e3,w1,wi,VX,Nat.reduceEqDiff,Nat.reduceAdd]
  exact⟨i+1,by omega,by omega,by (repeat' apply And.intro)<;>first | rfl | trivial⟩
 ·have mT:i=n:=by omega
  subst mT
  simp only[qJ,h0,h1,h5,cS,el,VX,Nat.reduceEqDiff,Nat.reduceAdd]
theorem F5 (k:Int) (n:Nat) (hk:0≤k∧k≤100000000) (hn:n≤100000000):TC 150 [fH (lK k n),VI k] (VI (k+n)):=by
 refine TC.walk ⟨true,false⟩ F9 rfl (Nat.le_of_ble_eq_true rfl) (rO (fB _) rfl) rfl ?_
 simp only[BL,zQ,VX,Nat.reduceEqDiff,Nat.reduceAdd]
 refine aU (fun(i:Nat) ρ H=>i≤n∧H=[]∧ρ 0=fH (lK k n)∧ρ 1=VI (k+i)∧ρ 5=VI i) (fun i=>n-i) 0 ⟨Nat.zero_le _,rfl,rfl,by simp only[VX,Nat.reduceEqDiff,Nat.reduceAdd];simp,rfl⟩ ?_
 rintro i ρ H ⟨hi,rfl,h0,h1,h5⟩
 have hlen:=Af k n
 by_cases cS:(i:Int)<(n:Int)
 ·have hx:=Wi (k:=k) (n:=n) (i:=i) (by omega)
  have e1:=aJ (f:=sV) (t := .op) (H:=[]) (size:=1) (k := .i64) hx rfl
  have e3:=CM (k+i) (by omega)
  have w1:IntKind.i64.wrap (k+i+1)=k+((i+1:Nat):Int):=by rw[wrap64 (by omega) (by omega)];omega
  have wi:IntKind.i64.wrap ((i:Int)+1)=((i+1:Nat):Int):=wrapN (i+1) (by omega) (by omega)
  simp only[qM,h0,h1,h5,cS,hlen,e1,e3,w1,wi,ahM,VX,Nat.reduceEqDiff,Nat.reduceAdd]
  exact⟨i+1,by omega,by omega,by (repeat' apply And.intro)<;>first | rfl | trivial⟩
 ·have mT:i=n:=by omega
  subst mT
  simp only[qM,h0,h1,h5,cS,hlen,VX,Nat.reduceEqDiff,Nat.reduceAdd]
  exact aL rfl
theorem PW {lo b:Nat} {xs:List ByteArray} {H:aA} {k:Int} {K:VV→aA→Prop} (h:aF H b 0=some ((fX jS xs).map sV,1,true)) (dP:lo≤b) (hk:0≤k∧k≤100000000) (hn:xs.length≤100000000)
  (hK:∀x,K (VI (k+xs.length)) (H.set b x)):cV 37 [.ref b 0 0 xs.length (xs.length+room xs.length),VI k] lo H K:=by
 refine fG rfl ((zR (fX jS xs) k h (by rw[JX];omega) dP hk hn).mono ?_)
 rintro r H' ⟨rfl,rfl⟩
 exact hK _
end Go.PM
namespace Go.PM
structure ES where
 u:List ByteArray
 d:List ByteArray
 deriving Inhabited
def A3 (s:ES):VV := .agg [fH s.u,fH s.d]
def ajX (s:ES):Prop:=okS s.u∧okS s.d
end Go.PM
namespace Go.Proofs.YtjmflicajplclaaGreatDoor
open Go.ChangeShapes Go.WideShapes Go.ChangeAt Go.RowKit Go.PM
theorem Yv {T:Type} {Aj:TypeId×Value→T} {P:Program} {W:World} {t t0 t1:TypeId} {fs:Array Field} {S0 S1:List VV→Prop} (ht:P.underlying t=some (.struct fs)) (hc:P.cellsOf t=2)
  (h0:∃f,fs[0]? = some f∧f.type=t0∧f.offset=0) (h1:∃f,fs[1]? = some f∧f.type=t1∧f.offset=1) (c0:P.cellsOf t0=1) (c1:P.cellsOf t1=1)
  (o0:Ic Aj P W t0 1 S0) (o1:Ic Aj P W t1 1 S1):Ic Aj P W t 2 fun vs=>∃a b,S0 a∧S1 b∧vs=a++b:=by
 intro fuel cs y h m H hI
 obtain⟨xs,n,_,_,hl,hlen,hf⟩:=DataW.trod_struct ht h
 rw[hc] at hl
 obtain⟨f0,g0,rfl,z0⟩:=h0
 obtain⟨f1,g1,rfl,z1⟩:=h1
 have l0:0<xs.length:=by have:=(Array.getElem?_eq_some_iff.1 g0).1;omega
 have k0:=hf 0 f0 g0
 have l1:1<xs.length:=by have:=(Array.getElem?_eq_some_iff.1 g1).1;omega
 have k1:=hf 1 f1 g1
 rw[z0,c0,List.getElem?_eq_getElem l0] at k0
 rw[z1,c1,List.getElem?_eq_getElem l1] at k1
 match cs,hl with
 |
  [u,v],_ =>
  obtain⟨_,m1,L1,p1,v1,q1,s1⟩:=o0 _ _ _ k0 m H hI
  obtain⟨_,m2,L2,p2,v2,q2,s2⟩:=o1 _ _ _ k1 m1 (H++L1) q1.inn
  exact⟨rfl,m2,L1++L2,p1++p2,v1++v2,q1.both q2,v1,v2,s1,s2,rfl⟩
theorem Vw {T:Type} {Aj:TypeId×Value→T} {W:World} (hB:HL W):Ic Aj Tryz.prog W 35 2 fun vs=>∃s:ES,ajX s∧vs=aB (A3 s):=by
 intro fuel cs y h m H hI
 obtain⟨hl,m',L,Kz,vs,ho,a,b,⟨sa,a1,a2,rfl⟩,⟨sb,b1,b2,rfl⟩,rfl⟩:=Yv Tryz.underlying35 (by kernel_rfl) ⟨_,rfl,rfl,rfl⟩ ⟨_,rfl,rfl,rfl⟩ (by kernel_rfl) (by kernel_rfl) (Mi hB) (Mi hB) fuel cs y h m H hI
 exact⟨hl,m',L,Kz,_,ho,⟨sa,sb⟩,⟨⟨a1,a2⟩,⟨b1,b2⟩⟩,rfl⟩
set_option maxRecDepth 100000 in
theorem YN {T:Type} {Aj:TypeId×Value→T} {W:World} {v:Value} {d:DataW T} {ps:List MemPlace} {base:Nat} {m:dK} {H:aE} (h:DataW.Trod Aj Tryz.prog W 0 (fun _=>true) true 35 v d ps) (hv:Value.okWide Tryz.prog W .any base 35 v) (hI:In m H W) :
  ∃m' L pv s,In m' (H++L) W∧(∀b l,m b=some l→m' b=some l)∧RV m' pv v∧VR (bare (· < (H++L).length) (H++L)) (A3 s) pv∧ajX s:=by
 have UT:=hv
 obtain⟨cs,rfl,Lo⟩:=okWide_struct Tryz.underlying35 hv
 by_cases hB:HL W
 ·obtain⟨fuel,hf⟩:=h
  have e:(Value.agg cs).cells.toList=cs.toList:=rfl
  rw[e] at hf
  obtain⟨hl,m',L,Kz,vs,ho,s,hs,rfl⟩:=Vw hB fuel _ _ hf m H hI
  refine⟨m',L,.agg Kz.toArray,s,ho.inn,ho.ext,.agg _ _ ?_ fun i hi => ?_,.agg _ _ ho.tree,hs⟩
  ·have:=ho.len
   simpa using this
  ·have oQ:i<cs.toList.length:=by have:=ho.len;simp at hi ⊢;simp at this;omega
   have:=ho.rv i oQ
   rw[T0]
   have e2:cs.getD i Go.undef=cs.toList.getD i Go.undef:=by
    rw[←T0]
   rw[e2]
   exact this
 ·have hts:Tryz.prog.cellTypes Tryz.prog.depth 35=some [33,33]:=by kernel_rfl
  have h3:Tryz.prog.cellsOf 35=2:=by kernel_rfl
  rw[h3] at Lo
  simp only[Value.okWide,Tryz.underlying35] at UT
  obtain⟨AX,e1,_,ts,e2,_,hc⟩:=UT
  cases e1
  rw[hts] at e2
  cases e2
  have c0:cs[0]? = some (.slice none 0 0):=by
   have e:cs[0]? = some cs[0]:=Array.getElem?_eq_getElem (by omega)
   obtain⟨u,hu,hk⟩:=hc 0 _ e
   cases hu
   rw[e,Nf Tryz.underlying33 hk hB]
  have c1:cs[1]? = some (.slice none 0 0):=by
   have e:cs[1]? = some cs[1]:=Array.getElem?_eq_getElem (by omega)
   obtain⟨u,hu,hk⟩:=hc 1 _ e
   cases hu
   rw[e,Nf Tryz.underlying33 hk hB]
  refine⟨m,[],.agg #[.slice none 0 0,.slice none 0 0],⟨[],[]⟩,by rw[List.append_nil];exact hI,fun _ _ h=>h,.agg _ _ (by rw[Lo];rfl) fun i hi => ?_,.agg [.tree [] .op,.tree [] .op] [.slice none 0 0,.slice none 0 0] (.cons _ _ _ _ (.nZ _ (.inl rfl)) (.cons _ _ _ _ (.nZ _ (.inl rfl)) .nil)),⟨⟨Nat.zero_le _,fun x hx=>(by cases hx)⟩,⟨Nat.zero_le _,fun x hx=>(by cases hx)⟩⟩⟩
  match i,hi with
  | 0,_=>rw[show cs.getD 0 Go.undef = .slice none 0 0 by rw[Array.getD_eq_getD_getElem?,c0];rfl];exact .Mw
  | 1,_=>rw[show cs.getD 1 Go.undef = .slice none 0 0 by rw[Array.getD_eq_getD_getElem?,c1];rfl];exact .Mw
end Go.Proofs.YtjmflicajplclaaGreatDoor
namespace Go.PM
def Sg (f:Nat→Rat):Nat→Rat
 | 0=>0
 | n+1=>Sg f n+f n
theorem GO {f g:Nat→Rat}:∀ {n:Nat},(∀i,i<n→f i=g i)→Sg f n=Sg g n
 | 0,_=>rfl
 | n+1,h=>by rw[Sg,Sg,GO fun i hi=>h i (by omega),h n (by omega)]
theorem Qx {f:Nat→Rat} {n:Nat} (h:∀i,i<n→f i=0):Sg f n=0:=by
 induction n with
 | zero=>rfl
 | succ n ih=>rw[Sg,ih fun i hi=>h i (by omega),h n (by omega)];grind
theorem aqQ (f g:Nat→Rat) (n:Nat):Sg (fun i=>f i+g i) n=Sg f n+Sg g n:=by
 induction n with
 | zero=>simp only[Sg];grind
 | succ n ih=>simp only[Sg,ih];grind
theorem aoN (c:Rat) (f:Nat→Rat) (n:Nat):Sg (fun i=>c*f i) n=c*Sg f n:=by
 induction n with
 | zero=>simp only[Sg];grind
 | succ n ih=>simp only[Sg,ih];grind
theorem apR (f g:Nat→Rat) (n:Nat):Sg (fun i=>f i-g i) n=Sg f n-Sg g n:=by
 induction n with
 | zero=>simp only[Sg];grind
 | succ n ih=>simp only[Sg,ih];grind
theorem Qf {f:Nat→Rat} {n k:Nat} (hk:k<n) (h:∀i,i<n→i≠k→f i=0):Sg f n=f k:=by
 induction n with
 | zero=>omega
 |
  succ n ih =>
  rw[Sg]
  by_cases hkn:k=n
  ·subst hkn
   rw[Qx fun i hi=>h i (by omega) (by omega)]
   grind
  ·rw[ih (by omega) fun i hi=>h i (by omega),h n (by omega) (by omega)]
   grind
def MW (n:Nat) (A:Nat→Nat→Rat) (b x:Nat→Rat):Prop:=∀i,i<n→Sg (fun j=>A i j*x j) n=b i
def atX (n:Nat) (A:Nat→Nat→Rat):Prop:=∀x,MW n A (fun _=>0) x→∀j,j<n→x j=0
theorem atX.uniq {n:Nat} {A:Nat→Nat→Rat} {b x y:Nat→Rat} (h:atX n A) (hx:MW n A b x) (hy:MW n A b y):∀j,j<n→x j=y j:=by
 intro j hj
 have:=h (fun j=>x j-y j) (fun i hi=>by
  have e:Sg (fun j=>A i j*(x j-y j)) n=Sg (fun j=>A i j*x j) n-Sg (fun j=>A i j*y j) n:=by
   rw[←apR]
   exact GO fun j _=>by grind
  rw[e,hx i hi,hy i hi]
  grind) j hj
 grind
def elm (c:Nat→Rat) (k:Nat) (A:Nat→Nat→Rat):Nat→Nat→Rat:=fun i j=>A i j-c i*A k j
def OK (n k:Nat) (A:Nat→Nat→Rat):Prop:=(∀i j,i<n→j<k→j<i→A i j=0)∧∀j,j<k→A j j≠0
theorem OK.step {n k:Nat} {A:Nat→Nat→Rat} (hU:OK n k A) (hkk:A k k≠0) (hk:k<n):OK n (k+1) (elm (fun i=>if k<i then A i k / A k k else 0) k A):=by
 refine⟨fun i j hi hj GI => ?_,fun j hj => ?_⟩
 ·unfold elm
  by_cases Zc:j=k
  ·subst Zc
   simp only[]
   rw[if_pos GI]
   grind
  ·rw[hU.1 i j hi (by omega) GI,hU.1 k j hk (by omega) (by omega)]
   grind
 ·unfold elm
  by_cases Zc:j=k
  ·subst Zc
   simp only[]
   rw[if_neg (by omega)]
   grind
  ·simp only[]
   rw[if_neg (by omega)]
   have:=hU.2 j (by omega)
   grind
def Ws (n k:Nat) (A:Nat→Nat→Rat):Prop:=(∀i j,i<n→j<k→i≠j→A i j=0)∧∀j,j<k→A j j≠0
theorem Ws.upper {n k:Nat} {A:Nat→Nat→Rat} (h:Ws n k A):OK n k A:=⟨fun i j hi hj GI=>h.1 i j hi hj (by omega),h.2⟩
theorem Ws.step {n k:Nat} {A:Nat→Nat→Rat} (hU:Ws n k A) (hkk:A k k≠0) (hk:k<n):Ws n (k+1) (elm (fun i=>if i=k then 0 else A i k / A k k) k A):=by
 refine⟨fun i j hi hj GI => ?_,fun j hj => ?_⟩
 ·unfold elm
  by_cases Zc:j=k
  ·subst Zc
   simp only[]
   rw[if_neg GI]
   grind
  ·rw[hU.1 i j hi (by omega) GI,hU.1 k j hk (by omega) (by omega)]
   grind
 ·unfold elm
  by_cases Zc:j=k
  ·subst Zc
   simp only[]
   rw[if_pos trivial]
   grind
  ·simp only[]
   rw[if_neg Zc,hU.1 k j hk (by omega) (by omega)]
   have:=hU.2 j (by omega)
   grind
theorem Ws.aAC {n:Nat} {A:Nat→Nat→Rat} (hU:Ws n n A) (b:Nat→Rat):MW n A b fun i=>b i / A i i:=by
 intro i hi
 rw[Qf hi fun j hj GI=>by rw[hU.1 i j hi hj (Ne.symm GI)];grind]
 have:=hU.2 i hi
 grind
theorem OK.back {n k:Nat} {A:Nat→Nat→Rat} {b x:Nat→Rat} (hU:OK n n A) (hx:MW n A b x) (hk:k<n):x k=(b k-(Sg (fun j=>A k j*x j) n-Sg (fun j=>A k j*x j) (k+1))) / A k k:=by
 have h1:=hx k hk
 have h2:Sg (fun j=>A k j*x j) (k+1)=A k k*x k:=by
  rw[Qf (k:=k) (by omega) fun j hj Zc=>by rw[hU.1 k j hk (by omega) (by omega)];grind]
 have:=hU.2 k hk
 rw[h1,h2]
 grind
end Go.PM
namespace Go.PM
section
variable {α:Type} {f:α→VV} {e:Nat}
structure Rd (f:α→VV) (e:Nat) (xs:List α) (H:aA) (v:VV):Prop where
 len:∀H',H <+: H'→oS v H'=some (VI xs.length)
 get:∀H',H <+: H'→∀(i:Nat) x,xs[i]? = some x→∃p,bQ e v (VI i) H'=some p∧∀ag,bX ag e p H'=dF ag e (f x) 0
 cell:aB v=[v]∧bY v=true∧isAny v=false
theorem Rd.pre {xs:List α} {H H':aA} {v:VV} (h:Rd f e xs H v) (hh:H <+: H'):Rd f e xs H' v:=⟨fun H2 h2=>h.len H2 (hh.trans h2),fun H2 h2=>h.get H2 (hh.trans h2),h.cell⟩
theorem Rd.tree {xs:List α} {H:aA} {t:TK} (hs:∀x,(aB (f x)).length=e):Rd f e xs H (.tree (xs.map f) t) :=
 ⟨fun _ _=>dY,fun _ _ i x hx=>⟨_,aJ hx (hs x),fun ag=>K7⟩,rfl,rfl,rfl⟩
theorem Rd.row {xs:List α} {H:aA} {b g n c:Nat} {w:Bool} (h:aF H b g=some (xs.map f,e,w)) (hn:n=xs.length):Rd f e xs H (.ref b g 0 n c):=by
 subst hn
 refine⟨fun H' hh=>dX (cA hh h),fun H' hh i x hx => ?_,rfl,rfl,rfl⟩
 have hi:=(List.getElem?_eq_some_iff.1 hx).1
 have e1:=bD (o:=0) (n:=xs.length) (c:=c) (i:=i) (k := .i64) (cA hh h) hi
 rw[Nat.zero_add] at e1
 exact⟨_,e1,fun ag=>pI (f:=f) (cA hh h) hx⟩
structure MG (f:α→VV) (e lo hi b g:Nat) (H:aA) (rs:List (xO α)):Prop where
 out:aF H b g=some (rs.map nL,1,true)
 blo:lo≤b
 bhi:b<hi
 rows:OY f e lo hi b H rs
variable {lo hi b g:Nat} {H H':aA} {rs:List (xO α)}
theorem MG.cG (h:MG f e lo hi b g H rs) (hk:dD lo hi H H'):MG f e lo hi b g H' rs :=
 ⟨hk _ _ _ h.blo h.bhi h.out,h.blo,h.bhi,h.rows.nd,fun r hr=>by
  obtain⟨k1,k2,k3,k4,k5⟩:=h.rows.row r hr
  exact⟨k1,k2,k3,k4,hk _ _ _ k1 k2 k5⟩⟩
theorem MG.pre (h:MG f e lo hi b g H rs) (hh:H <+: H'):MG f e lo hi b g H' rs:=h.cG (dD.pre hh)
theorem MG.len {n c:Nat} (h:MG f e lo hi b g H rs):oS (.ref b g 0 n c) H=some (VI n):=dX h.out
theorem MG.addr {i n c:Nat} (h:MG f e lo hi b g H rs) (hi:i<n):bQ 1 (.ref b g 0 n c) (VI i) H=some (.ptr b g i 0):=by
 have:=bD (o:=0) (n:=n) (c:=c) (i:=i) (k := .i64) h.out hi
 rwa [Nat.zero_add] at this
theorem MG.cell {i:Nat} {r:xO α} (h:MG f e lo hi b g H rs) (hr:rs[i]? = some r):bX false 1 (.ptr b g i 0) H=some (.ref r.b r.g 0 r.xs.length r.c):=by
 rw[pI (f:=nL) h.out hr]
 rfl
theorem MG.row {i:Nat} {r:xO α} (h:MG f e lo hi b g H rs) (hr:rs[i]? = some r):aF H r.b r.g=some (r.xs.map f,e,true):=(h.rows.row r (List.mem_of_getElem? hr)).2.2.2.2
theorem MG.at {i j n c:Nat} {r:xO α} (h:MG f e lo hi b g H rs) (hr:rs[i]? = some r) (hj:j<n):bQ e (.ref r.b r.g 0 n c) (VI j) H=some (.ptr r.b r.g j 0):=by
 have:=bD (o:=0) (n:=n) (c:=c) (i:=j) (k := .i64) (h.row hr) hj
 rwa [Nat.zero_add] at this
theorem MG.get {i j:Nat} {ag:Bool} {r:xO α} {x:α} (h:MG f e lo hi b g H rs) (hr:rs[i]? = some r) (hx:r.xs[j]? = some x):bX ag e (.ptr r.b r.g j 0) H=dF ag e (f x) 0:=pI (f:=f) (h.row hr) hx
theorem MG.inj {i j:Nat} {r s:xO α} (h:MG f e lo hi b g H rs) (hr:rs[i]? = some r) (hs:rs[j]? = some s) (he:r.b=s.b):i=j:=by
 have h1:(rs.map (·.b))[i]? = some r.b:=by simp[hr]
 have h2:(rs.map (·.b))[j]? = some r.b:=by simp[hs,he]
 exact Ue h.rows.nd h1 h2
theorem MI {β γ:Type} {F:β→γ} {l:List β} {i:Nat} {x y:β} (hx:l[i]? = some x) (he:F y=F x):(l.set i y).map F=l.map F:=by
 apply List.ext_getElem?
 intro j
 rw[List.getElem?_map,List.getElem?_map,List.getElem?_set]
 split
 ·rename_i Wf
  subst Wf
  split
  ·rw[hx,Option.map_some,Option.map_some,he]
  ·rename_i hn
   rw[(List.getElem?_eq_none (by omega))] at hx
   cases hx
 ·rfl
theorem MG.set {i:Nat} {r:xO α} {ys:List α} (h:MG f e lo hi b g H rs) (hr:rs[i]? = some r) (hl:ys.length=r.xs.length):MG f e lo hi b g (H.set r.b (.row r.g (ys.map f) e true)) (rs.set i { r with xs:=ys }):=by
 have Hl:=h.rows.row r (List.mem_of_getElem? hr)
 refine⟨?_,h.blo,h.bhi,?_,fun s hs => ?_⟩
 ·rw[MI hr (by simp[nL,hl])]
  exact bF Hl.2.2.1 h.out
 ·rw[MI (F:=fun r:xO α=>r.b) (y:={ r with xs:=ys }) hr rfl]
  exact h.rows.nd
 ·obtain⟨j,hj⟩:=List.getElem?_of_mem hs
  rw[List.getElem?_set] at hj
  split at hj
  ·rename_i Wf
   split at hj
   ·cases hj
    exact⟨Hl.1,Hl.2.1,Hl.2.2.1,by rw[hl];exact Hl.2.2.2.1,cJ Hl.2.2.2.2⟩
   ·cases hj
  ·rename_i Wf
   have Rz:=h.rows.row s (List.mem_of_getElem? hj)
   exact⟨Rz.1,Rz.2.1,Rz.2.2.1,Rz.2.2.2.1,bF (fun he=>Wf (h.inj hr hj he)) Rz.2.2.2.2⟩
theorem MG.put {i j kE:Nat} {r:xO α} {y:α} (h:MG f e lo hi b g H rs) (hr:rs[i]? = some r) (hj:j<r.xs.length) (dP:kE≤lo) (hv:(aB (f y)).length=e) (hs:(aB (f y)).all bY=true) :
  bI kE e (.ptr r.b r.g j 0) (f y) H=some (H.set r.b (.row r.g ((r.xs.set j y).map f) e true)) :=
 fA (f:=f) (h.row hr) hj (Nat.le_trans dP (h.rows.row r (List.mem_of_getElem? hr)).1) hv hs
theorem MG.lt {i:Nat} {r:xO α} (h:MG f e lo hi b g H rs) (hr:rs[i]? = some r):lo≤r.b∧r.b<hi∧r.b<H.length:=⟨(h.rows.row r (List.mem_of_getElem? hr)).1,(h.rows.row r (List.mem_of_getElem? hr)).2.1,fE (h.row hr)⟩
theorem MG.bK {c:Nat} (h:MG f e lo hi b g H rs) (hc:rs.length≤c):RG f e (rs.map (·.xs)) lo hi H (.ref b g 0 rs.length c) := .inr ⟨b,g,c,rs,h.blo,h.bhi,by rw[List.length_map],by rw[List.length_map];exact hc,h.out,rfl,h.rows⟩
theorem MG.fz {d c:Nat} (h:MG f e lo hi b g H rs) (hc:rs.length≤c) (hp:∀x,aY (f x)=true):PM.fz (d+3) H (.ref b g 0 rs.length c)=some (aK (aK f) (rs.map (·.xs))):=Xu hp h.out hc h.rows
theorem MG.wide {kE oQ:Nat} (h:MG f e lo hi b g H rs) (hl:kE≤lo) (hh:hi≤oQ):MG f e kE oQ b g H rs:=⟨h.out,by have:=h.blo;omega,by have:=h.bhi;omega,h.rows.nd,fun r hr=>by
 obtain⟨k1,k2,k3,k4,k5⟩:=h.rows.row r hr
 exact⟨by omega,by omega,k3,k4,k5⟩⟩
end
theorem gB:type_of% (And.intro @fQ<|And.intro @kH<|And.intro @mU.eq_1<|And.intro @pJ.eq_1<|And.intro @pJ.eq_2<|And.intro @En.eq_1<|And.intro @En.eq_2<|And.intro @zW.eq_1<|And.intro @zW.eq_2<|And.intro @Ie<|And.intro @Cs<|And.intro @Ez<|And.intro @EP<|And.intro @List.take_zero.{0}<|And.intro @List.take_succ_cons.{0}<|And.intro @List.take_nil.{0}<|And.intro @List.drop_zero.{0}<|And.intro @List.drop_succ_cons.{0}<|And.intro @List.drop_nil.{0}<|And.intro @List.append_nil.{0} <| @Nat.le_refl):=And.intro @fQ<|And.intro @kH<|And.intro @mU.eq_1<|And.intro @pJ.eq_1<|And.intro @pJ.eq_2<|And.intro @En.eq_1<|And.intro @En.eq_2<|And.intro @zW.eq_1<|And.intro @zW.eq_2<|And.intro @Ie<|And.intro @Cs<|And.intro @Ez<|And.intro @EP<|And.intro @List.take_zero.{0}<|And.intro @List.take_succ_cons.{0}<|And.intro @List.take_nil.{0}<|And.intro @List.drop_zero.{0}<|And.intro @List.drop_succ_cons.{0}<|And.intro @List.drop_nil.{0}<|And.intro @List.append_nil.{0} <| @Nat.le_refl
def L5 (P:Nat→Nat→aA→VV→Prop) (H:aA) (r:VV) (H':aA):Prop:=H <+: H'∧P H.length H'.length H' r
theorem oU {F lo:Nat} {args:List VV} {P:Nat→Nat→aA→VV→Prop} {H:aA} {K:VV→aA→Prop} (Ag:Eo.contains F=true) (h:jC F args lo H (L5 P H)) (hk:∀r L,P H.length (H++L).length (H++L) r→K r (H++L)):cV F args lo H K:=by
 refine fG Ag (h.mono ?_)
 rintro r H' ⟨⟨L,rfl⟩,hP⟩
 exact hk r L hP
end Go.PM
namespace Go.PM
open Go.Lib
abbrev cell0:bT := .row 0 [.agg [VB false,.tree [] .nil,.tree [] .nil]] 3 true
def gY (qs:List Rat):Rat:=qs.foldl (· + ·) 0
theorem EV {qs:List Rat} {i:Nat} {q:Rat} (h:qs[i]? = some q):gY (qs.take (i+1))=gY (qs.take i)+q:=by
 rw[iD h,gY,List.foldl_append];rfl
theorem OW {B:Nat}:∀ {qs:List Rat},(∀q∈qs,bP q≤B)→∀a:Rat,bP (qs.foldl (· + ·) a)≤qs.length*(B+1)+bP a
 | [],_,a=>by simp
 |
  q::qs,h,a=>by
  have h1:=OW (fun x hx=>h x (List.mem_cons_of_mem _ hx)) (a+q)
  have h2:=E2 a q
  have h3:=h q List.mem_cons_self
  rw[List.foldl_cons,List.length_cons,Nat.succ_mul]
  omega
theorem LW {B:Nat} {qs:List Rat} (h:∀q∈qs,bP q≤B) (i:Nat):bP (gY (qs.take i))≤qs.length*(B+1)+1:=by
 have h1:=OW (qs:=qs.take i) (fun q hq=>h q (List.mem_of_mem_take hq)) 0
 have h2:(qs.take i).length*(B+1)≤qs.length*(B+1):=Nat.mul_le_mul_right _ (by rw[List.length_take];omega)
 rw[uL] at h1
 unfold gY
 omega
set_option maxHeartbeats 1000000 in
abbrev rz:VV := .agg [VB false,.tree [] .nil,.tree [] .nil]
theorem vW {H H1:aA} {b:Nat} {x:bT} (h:H <+: H1) (hb:H.length≤b):H <+: H1.set b x:=by
 obtain⟨L,rfl⟩:=h
 rw[List.set_append_right _ _ hb]
 exact List.prefix_append _ _
theorem qW {H H1 L:aA} (h:H <+: H1):H <+: H1++L:=h.trans (List.prefix_append _ _)
theorem Bn {lo:Nat} {H:aA} {q:Rat} (h:lo≤H.length):bI lo 3 (.ptr H.length 0 0 0) (aO q) (H++[cell0])=some (H++[.row 0 [aO q] 3 true]):=by
 rw[bO (g:=0) (e:=3) (j:=0) fW (by exact Nat.zero_lt_one) h rfl rfl,D2]
 rfl
theorem Lg {H K:aA} {q:Rat}:bX true 3 (.ptr H.length 0 0 0) (H ++ .row 0 [aO q] 3 true::K)=some (aO q):=by
 rw[bM,xI,aQ]
 exact dQ _
theorem Mk {lo:Nat} {H:aA} {v:VV} (qs:List Rat) {B:Nat} (hv:Rd aO 3 qs H v) (dP:lo≤H.length) (hb:∀q∈qs,bP q≤B) (hk:qs.length*(B+1)+1≤1099511627776) (hB:B≤1099511627776) (hn:qs.length≤1000000000) :
  jC 70 [v] lo H (L5 (fun _ _ _ r=>r=aO (gY qs)) H):=by
 refine jC.walk ⟨true,false⟩ Vi (Nat.le_of_ble_eq_true rfl) ?_
 have e1:TC 64 [VI 0] (aO 0):=sO 0 (by decide) (by decide)
 have e2:=hv.len (H++[cell0,.row 0 [aO 0] 3 true]) (List.prefix_append _ _)
 have s0:bI lo 3 (.ptr (H.length+1) 0 0 0) (aO 0) (H++[cell0,cell0])=some (H++[cell0,.row 0 [aO 0] 3 true]):=by
  have:=Bn (lo:=lo) (H:=H++[cell0]) (q:=0) (by rw[List.length_append];omega)
  simpa only[List.length_append,List.length_cons,List.length_nil,Nat.zero_add,List.append_assoc,List.cons_append,List.nil_append] using this
 simp only[Tv,No,e1,e2,s0,List.length_append,List.length_cons,List.length_nil,List.append_assoc,List.cons_append,List.nil_append,gB,VX,Nat.reduceEqDiff,Nat.reduceAdd,Nat.reduceLeDiff,Nat.reduceLT,Nat.reduceSub]
 refine aU (fun(i:Nat) ρ H1=>i≤qs.length∧H <+: H1∧aF H1 H.length 0=some ([rz],3,true)∧aF H1 (H.length+1) 0=some ([aO (gY (qs.take i))],3,true)∧ρ 2 = .ptr H.length 0 0 0∧ρ 3 = .ptr (H.length+1) 0 0 0∧ρ 7=v∧ρ 8=VI qs.length∧ρ 9=VI i) (fun i=>qs.length-i) 0 ⟨Nat.zero_le _,List.prefix_append _ _,xI.trans aQ,Le.trans (iY.trans aQ),rfl,rfl,rfl,rfl,rfl⟩ ?_
 rintro i ρ H1 ⟨hi,hp,qQ,KH,g2,g3,g7,g8,g9⟩
 have xR:=fE KH
 by_cases cS:(i:Int)<(qs.length:Int)
 ·obtain⟨q,hq⟩:∃q,qs[i]? = some q:=⟨_,List.getElem?_eq_getElem (by omega)⟩
  obtain⟨p,a1,a2⟩:=hv.get H1 hp i q hq
  have a2':=(a2 true).trans (dQ _)
  have wi:IntKind.i64.wrap ((i:Int)+1)=((i+1:Nat):Int):=wrapN (i+1) (by omega) (by omega)
  have h1:=LW hb i
  have h2:=hb q (List.mem_of_getElem? hq)
  have h3:(i+1)*(B+1)≤qs.length*(B+1):=Nat.mul_le_mul_right _ (by omega)
  have e3:=DU (gY (qs.take i)) q (by omega) (by omega)
  rw[←EV hq] at e3
  have s1:=Bn (lo:=lo) (H:=H1) (q:=q) (by omega)
  have s2:=Lg (H:=H1) (K:=[]) (q:=q)
  have s3:bX true 3 (.ptr (H.length+1) 0 0 0) (H1++[.row 0 [aO q] 3 true])=some (aO (gY (qs.take i))):=by
   rw[bM,bN KH]
   exact dQ _
  have s4:=bO (lo:=lo) (v:=aO (gY (qs.take (i+1)))) (j:=0) (bN (L:=[.row 0 [aO q] 3 true]) KH) (by exact Nat.zero_lt_one) (by omega) rfl rfl
  rw[List.set_cons_zero] at s4
  simp only[DB,g2,g3,g7,g8,g9,cS,a1,a2',e3,s1,s2,s3,s4,wi,dQ,gB,VX,Nat.reduceEqDiff,Nat.reduceAdd,Nat.reduceLeDiff,Nat.reduceLT,Nat.reduceSub]
  exact⟨i+1,by omega,by omega,vW (qW hp) (by omega),bF (by omega) (bN qQ),cJ (bN KH),by (repeat' apply And.intro)<;>first | rfl | trivial | assumption⟩
 ·have mT:i=qs.length:=by omega
  subst mT
  rw[List.take_length] at KH
  have s3:bX true 3 (.ptr (H.length+1) 0 0 0) H1=some (aO (gY qs)):=by
   rw[bM,KH]
   exact dQ _
  have s4:=bO (lo:=lo) (v:=aO (gY qs)) (j:=0) qQ (by exact Nat.zero_lt_one) dP rfl rfl
  rw[List.set_cons_zero] at s4
  have s5:bX true 3 (.ptr H.length 0 0 0) (H1.set H.length (.row 0 [aO (gY qs)] 3 true))=some (aO (gY qs)):=by
   rw[bM,cJ qQ]
   exact dQ _
  simp only[DB,g2,g3,g8,g9,cS,s3,s4,s5,gB,VX,Nat.reduceEqDiff,Nat.reduceAdd,Nat.reduceLeDiff,Nat.reduceLT,Nat.reduceSub]
  exact⟨vW hp (Nat.le_refl _),rfl⟩
theorem Zm {q:Rat}:0<kR q↔0<q:=by
 have e:0<q.num↔0<q:=by
  constructor
  ·intro h
   have h1:0≤q:=Rat.num_nonneg.1 (by omega)
   have h2:q≠0:=fun h'=>by rw[h'] at h;exact absurd h (by decide)
   grind
  ·intro h
   have h1:0≤q.num:=Rat.num_nonneg.2 (by grind)
   have h2:q.num≠0:=fun h'=>by rw[Rat.num_eq_zero] at h';rw[h'] at h;exact absurd h (by decide)
   omega
 rw[←e]
 rcases Int.lt_trichotomy q.num 0 with h | h | h
 ·rw[pW h];omega
 ·rw[kZ h];omega
 ·rw[qA h];omega
theorem Cq (xs:List Rat) (g:Nat) (p:Rat→Bool) (hg:∀x∈xs,TC g [aO x] (VB (p x))) (hn:xs.length≤1000000000) :
  ∃k:Int,(0≤k↔xs.any p=true)∧TC 141 [aK aO xs,.vJ g []] (VI k):=by
 refine⟨match xs.findIdx? p with | some i=>i | none => -1,?_,?_⟩
 ·cases h:xs.findIdx? p with
  |
   none =>
   rw[List.findIdx?_eq_none_iff] at h
   simp only[List.any_eq_true]
   constructor
   ·intro h';omega
   ·rintro⟨x,hx,hp⟩;rw[h x hx] at hp;cases hp
  |
   some i =>
   simp only[List.any_eq_true]
   obtain⟨hi,hp,_⟩:=List.findIdx?_eq_some_iff_getElem.1 h
   exact⟨fun _=>⟨_,List.getElem_mem hi,hp⟩,fun _=>by omega⟩
 ·refine TC.walk ⟨true,false⟩ oP rfl (Nat.le_of_ble_eq_true rfl) (by simp[aP,lJ];rfl) rfl ?_
  simp only[iU,iH,VX,Nat.reduceEqDiff,Nat.reduceAdd]
  refine aU (fun(i:Nat) ρ H=>i≤xs.length∧H=[]∧(∀j x,j<i→xs[j]? = some x→p x=false)∧ρ 0=aK aO xs∧ρ 1 = .vJ g []∧ρ 7=VI xs.length∧ρ 8=VI i) (fun i=>xs.length-i) 0 ⟨Nat.zero_le _,rfl,fun j x h=>by omega,rfl,rfl,rfl,rfl⟩ ?_
  rintro i ρ H ⟨hi,rfl,kQ,h0,h1,h7,h8⟩
  by_cases cS:(i:Int)<(xs.length:Int)
  ·obtain⟨x,hx⟩:∃x,xs[i]? = some x:=⟨_,List.getElem?_eq_getElem (by omega)⟩
   have e1:=aJ (f:=aO) (t := .op) (H:=[]) (size:=3) (k := .i64) hx rfl
   have wi:IntKind.i64.wrap ((i:Int)+1)=((i+1:Nat):Int):=wrapN (i+1) (by omega) (by omega)
   have e2:=hg x (List.mem_of_getElem? hx)
   cases hp:p x with
   |
    false =>
    rw[hp] at e2
    simp only[cU,h0,h1,h7,h8,cS,e1,e2,wi,CB,List.append_nil,aI,dC,dQ,bB,aZ,aS,VX,Nat.reduceEqDiff,Nat.reduceAdd]
    refine⟨i+1,by omega,by omega,fun j y hj hy => ?_,by (repeat' apply And.intro)<;>first | rfl | trivial⟩
    rcases Nat.lt_or_ge j i with GI | GI
    ·exact kQ j y GI hy
    ·have:j=i:=by omega
     subst this
     rw[hx] at hy
     injection hy with hy
     exact hy▸hp
   |
    true =>
    rw[hp] at e2
    simp only[cU,h0,h1,h7,h8,cS,e1,e2,wi,CB,List.append_nil,aI,dC,dQ,bB,aZ,aS,VX,Nat.reduceEqDiff,Nat.reduceAdd]
    have:xs.findIdx? p=some i:=by
     rw[List.findIdx?_eq_some_iff_getElem]
     obtain⟨bH,CJ⟩:=List.getElem?_eq_some_iff.1 hx
     exact⟨bH,by rw[CJ];exact hp,fun j hj=>by
      have:=kQ j _ hj (List.getElem?_eq_getElem (by omega))
      simp[this]⟩
    rw[this]
    exact aL rfl
  ·simp only[cU,h0,h1,h7,h8,cS,VX,Nat.reduceEqDiff,Nat.reduceAdd]
   have:xs.findIdx? p=none:=by
    rw[List.findIdx?_eq_none_iff]
    intro x hx
    obtain⟨j,hj⟩:=List.getElem?_of_mem hx
    exact kQ j x (by have:=(List.getElem?_eq_some_iff.1 hj).1;omega) hj
   rw[this]
   exact aL rfl
theorem qG (xs:List Rat) (g:Nat) (p:Rat→Bool) (hg:∀x∈xs,TC g [aO x] (VB (p x))) (hn:xs.length≤1000000000):TC 66 [aK aO xs,.vJ g []] (VB (xs.any p)):=by
 refine TC.walk ⟨true,false⟩ mP rfl (Nat.le_of_ble_eq_true rfl) (by simp[aP,lJ];rfl) rfl ?_
 obtain⟨k,hk,hc⟩:=Cq xs g p hg hn
 have e:decide (0≤k)=xs.any p:=by
  cases h:xs.any p with
  | true=>rw[decide_eq_true (hk.2 h)]
  | false=>rw[decide_eq_false fun h'=>by rw[hk.1 h'] at h;cases h]
 simp only[gX,gO,hc,e,VX,Nat.reduceEqDiff,Nat.reduceAdd]
 exact aL rfl
theorem Gy:Tz none = .dR [aK aO [],VB false]:=rfl
theorem Gg (qs:List Rat):Tz (some qs) = .dR [aK aO qs,VB true]:=rfl
end Go.PM
namespace Go.PM
open Go.Lib
end Go.PM
namespace Go.PM
def AS:aD:=(LS [LO 10 (.bin .lss (LT 9) (LT 8))] (.seq (.cond (LT 10) .skip (.exit 0)) (.seq (.block 1 (LS [LM 11 9,LM 4 11] (.dI [LM 12 3,LM 13 4,LO 14 (.call 64 [(LI 0)]),LO 15 (.lit [(.bool false),(.slice none 0 0),(.slice none 0 0)] 1 [(0,(LT 14))]),LM 16 0,LO 17 (.call 162 [(LT 15),(LT 16)]),LO 18 (.iaddr 1 (LT 12) (LT 13)),LN (.store 1 (LT 18) (LT 17))]))) (.dI [LO 19 (.bin .add (LT 9) (LI 1)),LM 9 19]))))
def Hu:aD:=(LS [LO 2 (.mv (.const (.slice none 0 0)))] (LS [LM 5 0,LO 6 (.make [(.slice none 0 0)] 24 (LT 5) (LT 5)),LM 3 6] (.seq (LS [LM 7 3,LO 8 (.len (LT 7)),LO 9 (.mv (LI 0))] (.block 0 (.loop AS))) (LS [LM 20 3,LM 2 20] .ret))))
def Ni:aT:=⟨21,[(.tmp 2)],Hu⟩
theorem QP:fM 99=some Ni:=by kernel_rfl
def tC:aD:=(LS [LO 13 (.bin .lss (LT 12) (LT 11))] (.seq (.cond (LT 13) .skip (.exit 0)) (.seq (.block 1 (LS [LO 14 (.iaddr 1 (LT 10) (LT 12)),LO 15 (LL 14),LM 6 15] (LS [LM 17 6,LO 18 (.call 147 [(LT 17)]),LM 16 18,LO 19 (LX 16 0),LO 20 (LX 16 1),LM 7 19,LM 8 20] (.seq (LS [LM 21 8,LO 22 (.un .not (LT 21))] (.cond (LT 22) (LS [LO 23 (.build [(.slice none 0 0)] [(0,1)] []),LN (.store 1 (LT 2) (LT 23)),LO 3 (.mv LF)] .ret) .skip)) (.dI [LO 24 (LA 0 4),LO 25 (LL 24),LM 26 7,LO 27 (.lit [(.slice none 0 0)] 1 [(0,(LT 26))]),LO 28 (.app 1 24 (LT 25) (LT 27)),LO 29 (LA 0 4),LN (.store 1 (LT 29) (LT 28))]))))) (.dI [LO 30 (.bin .add (LT 12) (LI 1)),LM 12 30]))))
def Bo:aD:=(LS [LO 2 (.new [(.slice none 0 0)]),LO 3 (.mv LF)] (LS [LO 9 (.build [(.slice none 0 0)] [(0,1)] []),LO 4 (.new [(.slice none 0 0)]),LN (.store 1 (LT 4) (LT 9))] (.seq (LS [LM 10 0,LO 11 (.len (LT 10)),LO 12 (.mv (LI 0))] (.block 0 (.loop tC))) (LS [LO 31 (.load true 1 (LT 4)),LN (.store 1 (LT 2) (LT 31)),LO 3 (.mv LG)] .ret))))
def DV:aT:=⟨32,[(.cell 2 true 1),(.tmp 3)],Bo⟩
theorem IC:fM 71=some DV:=by kernel_rfl
end Go.PM
namespace Go.PM
open Go.Lib
abbrev N0 (x:VV):VV := .agg [x]
theorem XY {x:VV}:dF false 1 (N0 x) 0=some x:=rfl
theorem Y7 (x:List Rat):(aB (aK aO x)).length=1:=rfl
theorem akY (m:List (List Rat)):hC (aK (aK aO) m)=true:=Bl Y7 E1 fun _=>rfl
end Go.PM
namespace Go.PM
theorem QW (n:Nat) (h:n<18446744073709551616):dG .and (.int .u64 (n:Int)) (.int .u64 4294967295)=some (.int .u64 ((n % 4294967296:Nat):Int)):=by
 simp only[dG,if_true]
 have h1:(BitVec.ofInt IntKind.u64.bits (n:Int) &&& BitVec.ofInt IntKind.u64.bits 4294967295).toNat=n % 4294967296:=by
  rw[BitVec.toNat_and]
  have e1:(BitVec.ofInt IntKind.u64.bits (n:Int)).toNat=n:=by
   rw[BitVec.toNat_ofInt]
   simp only[IntKind.bits]
   omega
  have e2:(BitVec.ofInt IntKind.u64.bits 4294967295).toNat=2^32-1:=by
   rw[BitVec.toNat_ofInt]
   simp only[IntKind.bits]
   omega
  rw[e1,e2,Nat.and_two_pow_sub_one_eq_mod]
 rw[h1,eE _ (by omega)]
end Go.PM
namespace Go.PM
def NU (cs:List kD) (i:Nat):Int:=((cs[i]?).map (·.t)).getD 0
def Z3 (cs:List kD) (i:Nat):Int:=((cs[i]?).map (·.w)).getD 0
def klC (cs:List kD) (i:Nat):Int:=((cs[i]?).map (·.k)).getD 0
def I6 (st:List Int) (i:Nat):Int:=(st[i]?).getD 0
theorem Vb {cs:List kD} {i:Nat} {x:kD} (h:cs[i]? = some x):NU cs i=x.t:=by simp[NU,h]
theorem anO {cs:List kD} {i:Nat} {x:kD} (h:cs[i]? = some x):Z3 cs i=x.w:=by simp[Z3,h]
theorem acJ {st:List Int} {i:Nat} {x:Int} (h:st[i]? = some x):I6 st i=x:=by simp[I6,h]
def inS (cs:List kD) (st:List Int) (t:Int) (i:Nat):Bool:=decide (0≤I6 st i)&&decide (I6 st i≤t)&&decide (t<I6 st i+Z3 cs i)
def bz (cs:List kD) (st:List Int) (t:Int):Nat:=(List.range cs.length).countP (inS cs st t)
def isW (cs:List kD) (st:List Int) (t:Int) (i:Nat):Bool:=decide (I6 st i<0)&&decide (NU cs i≤t)
def wt (cs:List kD) (st:List Int) (t:Int):List Nat:=(List.range cs.length).filter (isW cs st t)
def KL (cO:Int) (cs:List kD) (i k:Nat):Bool :=
 if cO=1 then true else if cO=2 then decide (Z3 cs i<Z3 cs k) else if cO=3 then decide (klC cs i<klC cs k) else false
def Ar (cO:Int) (cs:List kD) (b:Option Nat) (i:Nat):Option Nat:=match b with
 | none=>some i
 | some k=>if KL cO cs i k then some i else some k
def nxt (cO:Int) (cs:List kD) (st:List Int) (t:Int):Option Nat:=(wt cs st t).foldl (Ar cO cs) none
def fill (cO tW:Int) (cs:List kD) (t:Int):Nat→List Int→List Int
 | 0,st=>st
 |
  n+1,st=>if (bz cs st t:Int)<tW then (match nxt cO cs st t with
  | none=>st
  | some k=>fill cO tW cs t n (st.set k t)) else st
def full (cO tW:Int) (cs:List kD) (st:List Int) (t:Int):Prop:=tW≤(bz cs st t:Int)∨nxt cO cs st t=none
def runT (cO tW:Int) (cs:List kD):Int→Nat→List Int→List Int
 | _,0,st=>st
 | t,n+1,st=>runT cO tW cs (t+1) n (fill cO tW cs t cs.length st)
def stL (cO tW:Int) (cs:List kD):List Int:=runT cO tW cs 0 100000 (List.replicate cs.length (-1))
section
variable {cO tW:Int} {cs:List kD} {st:List Int} {t:Int}
theorem xT (h:full cO tW cs st t) (n:Nat):fill cO tW cs t n st=st:=by
 cases n with
 | zero=>rfl
 |
  succ n =>
  rw[fill]
  rcases h with h | h
  ·rw[if_neg (by omega)]
  ·split
   ·rw[h]
   ·rfl
theorem O8 (m:Nat):∀(t:Int) (n:Nat),(∀u,t≤u→u<t+m→full cO tW cs st u)→m≤n→runT cO tW cs t n st=runT cO tW cs (t+m) (n-m) st:=by
 induction m with
 | zero=>intro t n _ _;simp
 |
  succ m ih =>
  intro t n h hm
  obtain⟨n,rfl⟩:∃k,n=k+1:=⟨n-1,by omega⟩
  rw[runT,xT (h t (Int.le_refl _) (by omega)),ih (t+1) n (fun u h1 h2=>h u (by omega) (by omega)) (by omega)]
  congr 1
  ·omega
  ·omega
theorem Zi (n:Nat):∀(t:Int),(∀u,t≤u→full cO tW cs st u)→runT cO tW cs t n st=st:=by
 intro t h
 rw[O8 n t n (fun u h1 _=>h u h1) (Nat.le_refl _),Nat.sub_self]
 rfl
theorem Xf {a b:Int} (ha:0≤a) (GH:a≤b) (hb:b≤100000) (h:∀u,a≤u→u<b→full cO tW cs st u):runT cO tW cs a (100000-a).toNat st=runT cO tW cs b (100000-b).toNat st:=by
 rw[O8 (b-a).toNat a _ (fun u h1 h2=>h u h1 (by omega)) (by omega)]
 congr 1
 ·omega
 ·omega
theorem agI {a:Int} (ha:0≤a) (hb:a<100000):runT cO tW cs a (100000-a).toNat st=runT cO tW cs (a+1) (100000-(a+1)).toNat (fill cO tW cs a cs.length st):=by
 rw[show (100000-a).toNat=(100000-(a+1)).toNat+1 by omega,runT]
theorem PF {ws:List Nat} {k:Nat}:∃j,(ws.foldl (Ar cO cs) (some k))=some j∧(j=k∨j∈ws):=by
 induction ws generalizing k with
 | nil=>exact⟨k,rfl,.inl rfl⟩
 |
  cons i ws ih =>
  rw[List.foldl_cons]
  have:∃q,Ar cO cs (some k) i=some q∧(q=k∨q=i):=by
   unfold Ar
   simp only
   split
   ·exact⟨i,rfl,.inr rfl⟩
   ·exact⟨k,rfl,.inl rfl⟩
  obtain⟨q,hq,hqq⟩:=this
  rw[hq]
  obtain⟨j,h1,h2⟩:=ih (k:=q)
  refine⟨j,h1,?_⟩
  rcases h2 with rfl | h2
  ·rcases hqq with rfl | rfl
   ·exact .inl rfl
   ·exact .inr List.mem_cons_self
  ·exact .inr (List.mem_cons_of_mem _ h2)
theorem yE:nxt cO cs st t=none↔wt cs st t=[]:=by
 unfold nxt
 cases h:wt cs st t with
 | nil=>exact⟨fun _=>rfl,fun _=>rfl⟩
 |
  cons i ws =>
  refine⟨fun h2 => ?_,fun h2=>(by cases h2)⟩
  rw[List.foldl_cons] at h2
  obtain⟨j,h3,_⟩:=PF (cO:=cO) (cs:=cs) (ws:=ws) (k:=i)
  rw[show Ar cO cs none i=some i from rfl,h3] at h2
  cases h2
theorem QS {k:Nat} (h:nxt cO cs st t=some k):k∈wt cs st t:=by
 unfold nxt at h
 cases hw:wt cs st t with
 | nil=>rw[hw] at h;cases h
 |
  cons i ws =>
  rw[hw,List.foldl_cons] at h
  obtain⟨j,h3,h4⟩:=PF (cO:=cO) (cs:=cs) (ws:=ws) (k:=i)
  rw[show Ar cO cs none i=some i from rfl,h3] at h
  injection h with h
  subst h
  rcases h4 with rfl | h4
  ·exact List.mem_cons_self
  ·exact List.mem_cons_of_mem _ h4
theorem Mq {k:Nat}:k∈wt cs st t↔k<cs.length∧I6 st k<0∧NU cs k≤t:=by
 simp[wt,isW]
theorem agJ:(wt cs st t).Nodup:=List.Pairwise.filter _ List.nodup_range
theorem G4 {k i:Nat} (hk:k<st.length):I6 (st.set k t) i=if i=k then t else I6 st i:=by
 unfold I6
 rw[List.getElem?_set]
 by_cases h:i=k
 ·subst h
  simp[hk]
 ·rw[if_neg (fun h'=>h h'.symm),if_neg h]
theorem Qq {p q:Nat→Bool} {k:Nat} (hp:p k=false) (h:∀i,i≠k→q i=p i):∀n,(List.range n).countP q=(List.range n).countP p+if k<n∧q k=true then 1 else 0:=by
 intro n
 induction n with
 | zero=>simp
 |
  succ n ih =>
  rw[List.range_succ,List.countP_append,List.countP_append,ih]
  by_cases hk:n=k
  ·subst hk
   simp only[List.countP_singleton,hp]
   cases hq:q n<;>simp
  ·rw[List.countP_singleton,List.countP_singleton,h n hk]
   have:(k<n+1∧q k=true)↔(k<n∧q k=true):=by
    constructor
    ·rintro⟨h1,h2⟩;exact⟨by omega,h2⟩
    ·rintro⟨h1,h2⟩;exact⟨by omega,h2⟩
   simp only[this]
   omega
theorem aoJ {k:Nat} {u:Int} (hk:k<cs.length) (hl:st.length=cs.length) (hs:I6 st k<0) (h0:0≤t):bz cs (st.set k t) u=bz cs st u+if t≤u∧u<t+Z3 cs k then 1 else 0:=by
 unfold bz
 rw[Qq (p:=inS cs st u) (q:=inS cs (st.set k t) u) (k:=k)]
 ·congr 1
  have:(k<cs.length∧inS cs (st.set k t) u k=true)↔(t≤u∧u<t+Z3 cs k):=by
   simp only[inS,G4 (t:=t) (i:=k) (by omega:k<st.length),if_true,Bool.and_eq_true,decide_eq_true_eq]
   constructor
   ·rintro⟨_,⟨_,h1⟩,h2⟩;exact⟨h1,h2⟩
   ·rintro⟨h1,h2⟩;exact⟨hk,⟨h0,h1⟩,h2⟩
  simp only[this]
 ·simp only[inS]
  rw[decide_eq_false (by omega)]
  rfl
 ·intro i hi
  simp only[inS,G4 (t:=t) (i:=i) (by omega:k<st.length),if_neg hi]
theorem anP {k:Nat} {u:Int} (hl:st.length=cs.length) (hk:k<cs.length) (h0:0≤t):wt cs (st.set k t) u=(wt cs st u).filter (· != k):=by
 unfold wt
 rw[List.filter_filter]
 refine List.filter_congr fun i hi => ?_
 simp only[isW,G4 (t:=t) (i:=i) (by omega:k<st.length)]
 by_cases h:i=k
 ·subst h
  simp
  omega
 ·simp[h]
def F0 (st:List Int):Nat:=st.countP (fun s=>decide (s<0))
theorem Be {k:Nat} (hk:k<st.length) (hs:I6 st k<0) (h0:0≤t):F0 (st.set k t)+1=F0 st:=by
 unfold F0
 rw[List.countP_set hk]
 have hx:st[k]=I6 st k:=by
  rw[acJ (x:=st[k]) (List.getElem?_eq_getElem hk)]
 have h1:decide (st[k]<0)=true:=by rw[hx];exact decide_eq_true hs
 have h2:decide (t<0)=false:=decide_eq_false (by omega)
 have h3:0<st.countP (fun s=>decide (s<0)):=by
  rw[List.countP_pos_iff]
  exact⟨st[k],List.getElem_mem hk,h1⟩
 simp only[h1,h2,if_true,Bool.false_eq_true,if_false]
 omega
theorem Yl (hl:st.length=cs.length) (h0:0≤t):∀(n m:Nat),F0 st≤n→F0 st≤m→fill cO tW cs t n st=fill cO tW cs t m st:=by
 intro n
 induction n generalizing st with
 |
  zero =>
  intro m hn hm
  have hf:full cO tW cs st t:=by
   right
   rw[yE]
   cases hw:wt cs st t with
   | nil=>rfl
   |
    cons i ws =>
    have h1:i∈wt cs st t:=by rw[hw];exact List.mem_cons_self
    obtain⟨h2,h3,_⟩:=Mq.1 h1
    have:=Be (t:=t) (by omega:i<st.length) h3 h0
    omega
  rw[xT hf,xT hf]
 |
  succ n ih =>
  intro m hn hm
  cases m with
  |
   zero =>
   have hf:full cO tW cs st t:=by
    right
    rw[yE]
    cases hw:wt cs st t with
    | nil=>rfl
    |
     cons i ws =>
     have h1:i∈wt cs st t:=by rw[hw];exact List.mem_cons_self
     obtain⟨h2,h3,_⟩:=Mq.1 h1
     have:=Be (t:=t) (by omega:i<st.length) h3 h0
     omega
   rw[xT hf,xT hf]
  |
   succ m =>
   rw[fill,fill]
   split
   ·split
    ·rfl
    ·rename_i k hk
     obtain⟨h2,h3,_⟩:=Mq.1 (QS hk)
     have:=Be (t:=t) (by omega:k<st.length) h3 h0
     exact ih (by simp[hl]) m (by omega) (by omega)
   ·rfl
theorem XT:F0 st≤st.length:=List.countP_le_length
theorem YY {k:Nat} (hl:st.length=cs.length) (h0:0≤t) (hb:(bz cs st t:Int)<tW) (hk:nxt cO cs st t=some k):fill cO tW cs t cs.length (st.set k t)=fill cO tW cs t cs.length st:=by
 obtain⟨h2,h3,_⟩:=Mq.1 (QS hk)
 have h4:=Be (t:=t) (by omega:k<st.length) h3 h0
 have h5:=XT (st:=st)
 rw[Yl (st:=st) hl h0 cs.length (cs.length+1) (by omega) (by omega)]
 conv=>rhs;rw[fill,if_pos hb,hk]
def evT (cs:List kD) (st:List Int) (i:Nat):Int:=if 0≤I6 st i then I6 st i+Z3 cs i else NU cs i
def anF (cs:List kD) (st:List Int) (t:Int) (b:Int) (i:Nat):Int:=if t<evT cs st i∧(b<0∨evT cs st i<b) then evT cs st i else b
def later (cs:List kD) (st:List Int) (t:Int):Int:=(List.range cs.length).foldl (anF cs st t) (-1)
structure Way (cs:List kD) (st:List Int) (t:Int):Prop where
 len:st.length=cs.length
 low:∀i,i<cs.length → -1≤I6 st i
 high:∀i,i<cs.length→I6 st i≤t
 bd:∀i,i<cs.length→I6 st i+1000*(F0 st:Int)≤10000+1000*(cs.length:Int)
 tm:0≤t∧t+1000*(F0 st:Int)≤11000+1000*(cs.length:Int)
theorem Way.set {k:Nat} (h:Way cs st t) (hk:k<cs.length) (hs:I6 st k<0):Way cs (st.set k t) t:=by
 have hl:=h.len
 have Z5:=h.tm
 have h4:=Be (t:=t) (by omega:k<st.length) hs Z5.1
 refine⟨by simp[hl],fun i hi => ?_,fun i hi => ?_,fun i hi => ?_,Z5.1,by omega⟩
 all_goals rw[G4 (by omega:k<st.length)]
 ·have:=h.low i hi
  split<;>omega
 ·have:=h.high i hi
  split<;>omega
 ·have:=h.bd i hi
  split<;>omega
theorem Way.le (h:Way cs st t) (hc:mV cs):t≤35000∧∀i,i<cs.length→I6 st i≤34000:=by
 have hlen:=hc.2
 have Z5:=h.tm
 refine⟨by omega,fun i hi => ?_⟩
 have:=h.bd i hi
 omega
theorem mV.bnd (hc:mV cs) {i:Nat} (hi:i<cs.length):(0≤NU cs i∧NU cs i≤10000)∧(1≤Z3 cs i∧Z3 cs i≤1000):=by
 have hx:cs[i]? = some cs[i]:=List.getElem?_eq_getElem hi
 have:=hc.at hx
 rw[Vb hx,anO hx]
 exact⟨this.1,this.2.1⟩
def Nj (cO:Int) (cs:List kD) (ws:List Nat):Nat :=
 if cO=1 then ws.length-1 else if cO=2∨cO=3 then (List.range ws.length).foldl (fun b k=>if KL cO cs (ws.getD k 0) (ws.getD b 0) then k else b) 0 else 0
theorem V6 {ws:List Nat} {k:Nat} (h:∀i j,KL cO cs i j=false):ws.foldl (Ar cO cs) (some k)=some k:=by
 induction ws with
 | nil=>rfl
 |
  cons i ws ih =>
  rw[List.foldl_cons]
  have:Ar cO cs (some k) i=some k:=by
   unfold Ar
   simp only[h]
   rfl
  rw[this,ih]
theorem adG {ws:List Nat} (fK:ws≠[]) (hr:0≤cO∧cO≤3):Nj cO cs ws<ws.length∧ws[Nj cO cs ws]? = ws.foldl (Ar cO cs) none:=by
 have hlen:0<ws.length:=List.length_pos_iff.2 fK
 unfold Nj
 by_cases h1:cO=1
 ·rw[if_pos h1]
  rcases List.eq_nil_or_concat ws with rfl | ⟨xs,y,rfl⟩
  ·exact absurd rfl fK
  ·rw[List.concat_eq_append,List.foldl_append]
   refine⟨by simp,?_⟩
   simp only[List.length_append,List.length_cons,List.length_nil,Nat.zero_add,Nat.add_sub_cancel,List.foldl_cons,List.foldl_nil]
   rw[List.getElem?_append_right (Nat.le_refl _),Nat.sub_self]
   unfold Ar
   split
   ·rfl
   ·simp only[KL,if_pos h1,if_true]
    rfl
 ·rw[if_neg h1]
  by_cases h2:cO=2∨cO=3
  ·rw[if_pos h2]
   have ayA:∀i,KL cO cs i i=false:=fun i=>by
    unfold KL
    rw[if_neg h1]
    split
    ·exact decide_eq_false (by omega)
    ·split
     ·exact decide_eq_false (by omega)
     ·rfl
   have key:∀n,n<ws.length→(List.range (n+1)).foldl (fun b k=>if KL cO cs (ws.getD k 0) (ws.getD b 0) then k else b) 0<ws.length ∧
     ws[(List.range (n+1)).foldl (fun b k=>if KL cO cs (ws.getD k 0) (ws.getD b 0) then k else b) 0]? = (ws.take (n+1)).foldl (Ar cO cs) none:=by
    intro n
    induction n with
    |
     zero =>
     intro _
     have:(List.range (0+1)).foldl (fun b k=>if KL cO cs (ws.getD k 0) (ws.getD b 0) then k else b) 0=0:=by
      simp[List.range_succ,ayA]
     rw[this]
     refine⟨hlen,?_⟩
     cases ws with
     | nil=>exact absurd rfl fK
     | cons i ws=>rfl
    |
     succ n ih =>
     intro hn
     obtain⟨g1,g2⟩:=ih (by omega)
     rw[List.range_succ,List.foldl_append,List.foldl_cons,List.foldl_nil]
     generalize (List.range (n+1)).foldl (fun b k=>if KL cO cs (ws.getD k 0) (ws.getD b 0) then k else b) 0=b at *
     obtain⟨x,hx⟩:∃x,ws[n+1]? = some x:=⟨_,List.getElem?_eq_getElem hn⟩
     obtain⟨y,hy⟩:∃y,ws[b]? = some y:=⟨_,List.getElem?_eq_getElem g1⟩
     rw[List.take_add_one,hx,List.foldl_append,←g2,hy]
     simp only[Option.toList_some,List.foldl_cons,List.foldl_nil,List.getD_eq_getElem?_getD,hx,hy,Option.getD_some,Ar]
     split
     ·exact⟨hn,hx⟩
     ·exact⟨g1,hy⟩
   have:=key (ws.length-1) (by omega)
   rw[show ws.length-1+1=ws.length by omega,List.take_of_length_le (Nat.le_refl _)] at this
   exact this
  ·rw[if_neg h2]
   refine⟨hlen,?_⟩
   have hb:∀i j,KL cO cs i j=false:=fun i j=>by
    unfold KL
    rw[if_neg h1,if_neg (by omega),if_neg (by omega)]
   cases ws with
   | nil=>exact absurd rfl fK
   |
    cons i ws =>
    rw[List.foldl_cons,show Ar cO cs none i=some i from rfl,V6 hb]
    rfl
end
end Go.PM
namespace Go.PM
def Vd (st:List Int) (i:Nat):Bool:=decide (I6 st i<0)
def gtB (u e:Int):Bool:=decide (u<e)
section
variable {cO tW:Int} {cs:List kD} {st:List Int} {t:Int}
theorem mV.sorted (hc:mV cs):∀ {i j:Nat},i≤j→j<cs.length→NU cs i≤NU cs j:=by
 intro i j Wf hj
 induction j with
 |
  zero =>
  have:i=0:=by omega
  subst this
  exact Int.le_refl _
 |
  succ j ih =>
  rcases Nat.lt_or_ge i (j+1) with h | h
  ·have h1:=ih (by omega) (by omega)
   have hx:cs[j+1]? = some cs[j+1]:=List.getElem?_eq_getElem hj
   have hy:cs[j]? = some cs[j]:=List.getElem?_eq_getElem (by omega)
   have h2:=(hc.1 (j+1) _ hx).2 _ (by omega) (by rw[Nat.add_sub_cancel];exact hy)
   rw[Vb hx]
   rw[Vb hy] at h1
   omega
  ·have:i=j+1:=by omega
   subst this
   exact Int.le_refl _
theorem HY {fF:Nat} (atO:fF≤cs.length) (past:∀i,i<fF→NU cs i≤t) (fut:∀i,fF≤i→i<cs.length→t<NU cs i):wt cs st t=(List.range fF).filter (Vd st):=by
 unfold wt
 rw[show cs.length=fF+(cs.length-fF) by omega,List.range_add,List.filter_append]
 have h1:(List.range fF).filter (isW cs st t)=(List.range fF).filter (Vd st):=by
  refine List.filter_congr fun i hi => ?_
  rw[List.mem_range] at hi
  simp[isW,Vd,past i hi]
 have h2:((List.range (cs.length-fF)).map fun x=>fF+x).filter (isW cs st t)=[]:=by
  rw[List.filter_eq_nil_iff]
  intro i hi
  obtain⟨j,hj,rfl⟩:=List.mem_map.1 hi
  rw[List.mem_range] at hj
  have:=fut (fF+j) (by omega) (by omega)
  simp only[isW,Bool.and_eq_true,decide_eq_true_eq]
  omega
 rw[h1,h2,List.append_nil]
structure Qt (cO tW:Int) (cs:List kD) (st:List Int) (t:Int) (fF:Nat) (ws:List Nat) (ends:List Int):Prop where
 len:st.length=cs.length
 low:∀i,i<cs.length → -1≤I6 st i
 high:∀i,i<cs.length→I6 st i≤t
 bd:∀i,i<cs.length→I6 st i+1000*(F0 st:Int)≤10000+1000*(cs.length:Int)
 tm : -1≤t
 ON:fF≤cs.length
 past:∀i,i<fF→NU cs i≤t
 fut:∀i,fF≤i→i<cs.length→t<NU cs i∧I6 st i<0
 wsq:ws=wt cs st t
 cnt:∀u,t≤u→ends.countP (gtB u)=bz cs st u
 ef:∀e∈ends,t<e
 eb:∀e∈ends,e+1000*(F0 st:Int)≤11000+1000*(cs.length:Int)
 fl:full cO tW cs st t
 room:ws.length+ends.length≤fF
 es:(ends.length:Int)≤tW
 run:runT cO tW cs (t+1) (100000-(t+1)).toNat st=stL cO tW cs
theorem Hj {n i:Nat} (h:i<n):I6 (List.replicate n (-1)) i = -1:=acJ (by rw[List.getElem?_replicate,if_pos h])
theorem Qt.start (hc:mV cs) (hs:1≤tW):Qt cO tW cs (List.replicate cs.length (-1)) (-1) 0 [] []:=by
 have hw:wt cs (List.replicate cs.length (-1)) (-1)=[]:=by
  rw[HY (Nat.zero_le _) (fun i hi=>by omega) fun i _ hi=>by have:=hc.bnd hi;omega]
  rfl
 have hu:F0 (List.replicate cs.length (-1))=cs.length:=by simp[F0,List.countP_replicate]
 refine⟨by simp,fun i hi=>by rw[Hj hi];decide,fun i hi=>by rw[Hj hi];decide,fun i hi=>by rw[Hj hi,hu];omega,by decide,Nat.zero_le _,fun i hi=>by omega,fun i _ hi=>⟨by have:=hc.bnd hi;omega,by rw[Hj hi];decide⟩,hw.symm,fun u _ => ?_,fun e he=>(by cases he),fun e he=>(by cases he),.inr (yE.2 hw),Nat.le_refl _,by simp;omega,rfl⟩
 unfold bz
 rw[(List.countP_eq_zero (p:=inS cs (List.replicate cs.length (-1)) u)).2]
 ·rfl
 ·intro i hi
  rw[List.mem_range] at hi
  simp only[inS,Hj hi,Bool.and_eq_true,decide_eq_true_eq]
  omega
def Rw (w:Bool) (b e:Int):Int:=if b<0∨(w=true∧e<b) then e else b
theorem aoF {es:List Int} {b:Int} (h:0≤b):es.foldl (Rw false) b=b:=by
 induction es with
 | nil=>rfl
 |
  cons e es ih =>
  rw[List.foldl_cons]
  have:Rw false b e=b:=by
   unfold Rw
   rw[if_neg (by simp;omega)]
  rw[this,ih]
theorem alW:∀ {es:List Int} {b:Int},(∀e∈es,0≤e)→(es.foldl (Rw true) b=b∨es.foldl (Rw true) b∈es)∧(∀e∈es,es.foldl (Rw true) b≤e)∧(0≤b→es.foldl (Rw true) b≤b)∧(es≠[]→0≤es.foldl (Rw true) b)
 | [],b,_=>⟨.inl rfl,fun e he=>(by cases he),fun _=>Int.le_refl _,fun h=>absurd rfl h⟩
 |
  e::es,b,h=>by
  rw[List.foldl_cons]
  have h1:=h e List.mem_cons_self
  have h2:∀e'∈es,0≤e':=fun e' he=>h e' (List.mem_cons_of_mem _ he)
  have hm:(Rw true b e=b∨Rw true b e=e)∧Rw true b e≤e∧(0≤b→Rw true b e≤b)∧0≤Rw true b e:=by
   unfold Rw
   by_cases hc:b<0∨(true=true∧e<b)
   ·rw[if_pos hc]
    refine⟨.inr rfl,Int.le_refl _,fun hb => ?_,h1⟩
    rcases hc with hc | hc<;>omega
   ·rw[if_neg hc]
    simp at hc
    exact⟨.inl rfl,hc.2,fun _=>Int.le_refl _,hc.1⟩
  obtain⟨m1,m2,m3,m4⟩:=hm
  obtain⟨g1,g2,g3,g4⟩:=alW (es:=es) (b:=Rw true b e) h2
  have g3:=g3 m4
  refine⟨?_,?_,fun hb=>by have:=m3 hb;omega,fun _ => ?_⟩
  ·rcases g1 with g1 | g1
   ·rw[g1]
    rcases m1 with m1 | m1
    ·exact .inl m1
    ·rw[m1];exact .inr List.mem_cons_self
   ·exact .inr (List.mem_cons_of_mem _ g1)
  ·intro e' he
   rcases List.mem_cons.1 he with rfl | he
   ·omega
   ·exact g2 e' he
  ·rcases g1 with g1 | g1
   ·rw[g1];exact m4
   ·exact h2 _ g1
def Qs (cs:List kD) (fF:Nat):Int:=if fF<cs.length then NU cs fF else -1
def Nl (cs:List kD) (fF:Nat) (ws:List Nat) (ends:List Int):Int:=ends.foldl (Rw (decide (0<ws.length))) (Qs cs fF)
theorem Qt.aaM {fF:Nat} {ws:List Nat} {ends:List Int} (h:Qt cO tW cs st t fF ws ends):ends.length=bz cs st t:=by
 rw[←h.cnt t (Int.le_refl _),List.countP_eq_length.2]
 intro e he
 exact decide_eq_true (h.ef e he)
theorem Qt.time {fF:Nat} {ws:List Nat} {ends:List Int} (h:Qt cO tW cs st t fF ws ends) (hc:mV cs) (hs:1≤tW) (hg:fF<cs.length∨0<ws.length) :
  (t<Nl cs fF ws ends∧Nl cs fF ws ends+1000*(F0 st:Int)≤11000+1000*(cs.length:Int))∧(∀i,fF≤i→i<cs.length→Nl cs fF ws ends≤NU cs i) ∧
   (fF<cs.length∧NU cs fF=Nl cs fF ws ends∨0<ws.length∧Nl cs fF ws ends∈ends)∧runT cO tW cs (Nl cs fF ws ends) (100000-Nl cs fF ws ends).toNat st=stL cO tW cs:=by
 have Z5:=h.tm
 have Pl:=XT (st:=st)
 have hlen:=h.len
 have he0:∀e∈ends,0≤e:=fun e he=>by have:=h.ef e he;omega
 have aAP:=hc.2
 by_cases hw:0<ws.length
 ·have hbz:tW≤(bz cs st t:Int):=by
   rcases h.fl with hf | hf
   ·exact hf
   ·rw[yE,←h.wsq] at hf
    rw[hf] at hw
    simp at hw
  have fK:ends≠[]:=by
   intro he
   have:=h.aaM
   rw[he] at this
   simp at this
   omega
  obtain⟨g1,g2,g3,g4⟩:=alW (es:=ends) (b:=Qs cs fF) he0
  have YV:Nl cs fF ws ends=ends.foldl (Rw true) (Qs cs fF):=by unfold Nl;rw[decide_eq_true hw]
  rw[YV]
  generalize ends.foldl (Rw true) (Qs cs fF)=w at *
  have g4:=g4 fK
  have Mh:(fF<cs.length∧NU cs fF=w)∨w∈ends:=by
   rcases g1 with g1 | g1
   ·unfold Qs at g1
    split at g1
    ·rename_i nT
     exact .inl ⟨nT,g1.symm⟩
    ·omega
   ·exact .inr g1
  have htw:t<w∧w+1000*(F0 st:Int)≤11000+1000*(cs.length:Int):=by
   rcases Mh with⟨h1,h2⟩ | h1
   ·have:=h.fut fF (Nat.le_refl _) h1
    have:=hc.bnd h1
    omega
   ·exact⟨h.ef _ h1,h.eb _ h1⟩
  refine⟨htw,fun i h1 h2 => ?_,Mh.imp id fun h1=>⟨hw,h1⟩,?_⟩
  ·have h3:=hc.sorted h1 h2
   have h4:=hc.bnd (i:=fF) (by omega)
   have h5:Qs cs fF=NU cs fF:=by unfold Qs;rw[if_pos (by omega)]
   have:=g3 (by rw[h5];omega)
   omega
  ·rw[←h.run]
   refine(Xf (by omega) (by omega) (by omega) fun u h1 h2 => .inl ?_).symm
   rw[←h.cnt u (by omega),(List.countP_eq_length (p:=gtB u)).2 fun e he=>decide_eq_true (by have:=g2 e he;omega),h.aaM]
   exact hbz
 ·have nT:fF<cs.length:=by omega
  have h5:Qs cs fF=NU cs fF:=by unfold Qs;rw[if_pos nT]
  have h4:=hc.bnd nT
  have hf:=(h.fut fF (Nat.le_refl _) nT).1
  have YV:Nl cs fF ws ends=NU cs fF:=by unfold Nl;rw[decide_eq_false hw,aoF (by rw[h5];omega),h5]
  rw[YV]
  refine⟨⟨hf,by omega⟩,fun i h1 h2=>hc.sorted h1 h2,.inl ⟨nT,rfl⟩,?_⟩
  rw[←h.run]
  refine(Xf (by omega) (by omega) (by omega) fun u h1 h2 => .inr ?_).symm
  rw[yE,HY h.ON (fun i hi=>by have:=h.past i hi;omega) fun i h3 h4=>by have:=hc.sorted h3 h4;omega]
  have e1:=HY (st:=st) h.ON h.past fun i h3 h4=>(h.fut i h3 h4).1
  rw[←e1,←h.wsq]
  exact List.eq_nil_of_length_eq_zero (by omega)
theorem Qt.done {fF:Nat} {ws:List Nat} {ends:List Int} (h:Qt cO tW cs st t fF ws ends) (atO:¬fF<cs.length) (hw:¬0<ws.length):st=stL cO tW cs:=by
 rw[←h.run]
 refine(Zi _ _ fun u hu => .inr ?_).symm
 have nT:=h.ON
 have e1:=HY (st:=st) h.ON h.past fun i h3 h4=>(h.fut i h3 h4).1
 rw[yE,HY h.ON (fun i hi=>by have:=h.past i hi;omega) fun i h3 h4=>by omega,←e1,←h.wsq]
 exact List.eq_nil_of_length_eq_zero (by omega)
structure Ph4 (cO tW:Int) (cs:List kD) (Kv:List Int) (now:Int) (fF tot:Nat) (st:List Int) (ws:List Nat) (ends:List Int):Prop where
 Zl:Way cs st now
 wsq:ws=wt cs st now
 cnt:∀u,now≤u→ends.countP (gtB u)=bz cs st u
 ef:∀e∈ends,now<e
 eb:∀e∈ends,e+1000*(F0 st:Int)≤11000+1000*(cs.length:Int)
 fl:fill cO tW cs now cs.length st=fill cO tW cs now cs.length Kv
 past:∀i,i<fF→NU cs i≤now
 fut:∀i,fF≤i→i<cs.length→now<NU cs i∧I6 st i<0
 tot:ws.length+ends.length=tot
 es:(ends.length:Int)≤tW
theorem CW:∀ {l:List Nat} {i k:Nat},l.Nodup→l[i]? = some k→l.eraseIdx i=l.filter (· != k)
 | [],_,_,_,h=>by cases h
 |
  x::l,0,k,hn,h=>by
  injection h with h
  subst h
  rw[List.nodup_cons] at hn
  rw[List.eraseIdx_cons_zero,List.filter_cons_of_neg (by simp),List.filter_eq_self.2]
  intro y hy
  have:y≠x:=fun he=>hn.1 (he▸hy)
  simpa using this
 |
  x::l,i+1,k,hn,h=>by
  rw[List.nodup_cons] at hn
  rw[List.getElem?_cons_succ] at h
  have hx:x≠k:=fun he=>hn.1 (he▸List.mem_of_getElem? h)
  rw[List.eraseIdx_cons_succ,List.filter_cons_of_pos (by simpa using hx),CW hn.2 h]
theorem Ph4.step {now:Int} {Kv:List Int} {fF tot:Nat} {ws:List Nat} {ends:List Int} (h:Ph4 cO tW cs Kv now fF tot st ws ends) (hc:mV cs) (hr:0≤cO∧cO≤3) (hb:(ends.length:Int)<tW) (fK:0<ws.length) :
  ∃k,ws[Nj cO cs ws]? = some k∧k<cs.length∧Nj cO cs ws<ws.length∧(0≤now∧now≤35000)∧Ph4 cO tW cs Kv now fF tot (st.set k now) (ws.eraseIdx (Nj cO cs ws)) (ends++[now+Z3 cs k]):=by
 have Zn:ws≠[]:=fun he=>by rw[he] at fK;simp at fK
 obtain⟨g1,g2⟩:=adG (cs:=cs) Zn hr
 obtain⟨k,hk⟩:∃k,ws[Nj cO cs ws]? = some k:=⟨_,List.getElem?_eq_getElem g1⟩
 have hnx:nxt cO cs st now=some k:=by
  unfold nxt
  rw[←h.wsq,←g2,hk]
 obtain⟨m1,m2,m3⟩:=Mq.1 (QS hnx)
 have Z5:=h.Zl.tm
 have hle:=(h.Zl.le hc).1
 have hbz:(bz cs st now:Int)=ends.length:=by
  rw[←h.cnt now (Int.le_refl _),(List.countP_eq_length (p:=gtB now)).2 fun e he=>decide_eq_true (h.ef e he)]
 have Qe:k<st.length:=by rw[h.Zl.len];exact m1
 have hus:=Be (t:=now) Qe m2 Z5.1
 have hwk:=(hc.bnd m1).2
 refine⟨k,hk,m1,g1,⟨Z5.1,hle⟩,h.Zl.set m1 m2,?_,?_,?_,?_,?_,h.past,?_,?_,?_⟩
 ·rw[anP h.Zl.len m1 Z5.1,←h.wsq]
  exact CW (by rw[h.wsq];exact agJ) hk
 ·intro u hu
  rw[List.countP_append,h.cnt u hu,aoJ m1 h.Zl.len m2 Z5.1,List.countP_singleton]
  congr 1
  simp only[gtB,decide_eq_true_eq]
  by_cases hq:u<now+Z3 cs k
  ·rw[if_pos hq,if_pos ⟨hu,hq⟩]
  ·rw[if_neg hq,if_neg fun h'=>hq h'.2]
 ·intro e he
  rcases List.mem_append.1 he with he | he
  ·exact h.ef e he
  ·rw[List.mem_singleton] at he
   omega
 ·intro e he
  rcases List.mem_append.1 he with he | he
  ·have:=h.eb e he
   omega
  ·rw[List.mem_singleton] at he
   omega
 ·rw[YY h.Zl.len Z5.1 (by rw[hbz];exact hb) hnx,h.fl]
 ·intro i h1 h2
  have h3:=h.fut i h1 h2
  refine⟨h3.1,?_⟩
  rw[G4 Qe,if_neg (fun he=>by subst he;omega)]
  exact h3.2
 ·rw[List.length_eraseIdx_of_lt g1,List.length_append,List.length_cons,List.length_nil]
  have:=h.tot
  omega
 ·rw[List.length_append,List.length_cons,List.length_nil]
  omega
theorem Ph4.done {now:Int} {Kv:List Int} {fF tot:Nat} {ws:List Nat} {ends:List Int} (h:Ph4 cO tW cs Kv now fF tot st ws ends) (hc:mV cs) (nT:fF≤cs.length) (ht:tot≤fF) (hf:tW≤(ends.length:Int)∨ws=[])
  (hr:runT cO tW cs now (100000-now).toNat Kv=stL cO tW cs):Qt cO tW cs st now fF ws ends:=by
 have Z5:=h.Zl.tm
 have hle:=(h.Zl.le hc).1
 have hbz:(bz cs st now:Int)=ends.length:=by
  rw[←h.cnt now (Int.le_refl _),(List.countP_eq_length (p:=gtB now)).2 fun e he=>decide_eq_true (h.ef e he)]
 have alX:full cO tW cs st now:=by
  rcases hf with hf | hf
  ·exact .inl (by rw[hbz];exact hf)
  ·exact .inr (yE.2 (by rw[←h.wsq];exact hf))
 refine⟨h.Zl.len,h.Zl.low,h.Zl.high,h.Zl.bd,by omega,nT,h.past,h.fut,h.wsq,h.cnt,h.ef,h.eb,alX,by rw[h.tot];exact ht,h.es,?_⟩
 have h1:=xT alX cs.length
 rw[h.fl] at h1
 rw[agI Z5.1 (by omega),h1] at hr
 exact hr
end
end Go.PM
namespace Go.PM
theorem Fb (n:Nat) (h:n<4294967296):TC 207 [VK .u64 1,VK .u64 (n:Int)] (.dR [VK .u64 0,VK .u64 (n:Int)]):=by
 refine TC.walk ⟨true,false⟩ HP rfl (Nat.le_of_ble_eq_true rfl) rfl rfl ?_
 have a1:dG .and (.int .u64 1) (.int .u64 4294967295)=some (.int .u64 1):=QW 1 (by decide)
 have a2:dG .and (.int .u64 (n:Int)) (.int .u64 4294967295)=some (.int .u64 (n:Int)):=by rw[QW n (by omega),Nat.mod_eq_of_lt h]
 have a0:dG .and (.int .u64 0) (.int .u64 4294967295)=some (.int .u64 0):=QW 0 (by decide)
 have s1:dG .shr (.int .u64 1) (.int .u64 32)=some (.int .u64 0):=oF 1 .u64
 have s0:dG .shr (.int .u64 0) (.int .u64 32)=some (.int .u64 0):=oF 0 .u64
 have s2:dG .shr (.int .u64 (n:Int)) (.int .u64 32)=some (.int .u64 0):=by rw[oF n .u64,Nat.div_eq_of_lt h];rfl
 have w0:IntKind.u64.wrap 0=0:=eE 0 (by decide)
 have wn:IntKind.u64.wrap (n:Int)=n:=eE n (by omega)
 simp only[CU,Az,a0,a1,a2,s0,s1,s2,w0,wn,Int.one_mul,Int.zero_mul,Int.mul_zero,Int.add_zero,VX,Nat.reduceEqDiff,Nat.reduceAdd]
 exact aL rfl
theorem G9 (n:Nat) (h:n<4294967296):TC 187 [VK .u64 1,VK .u64 (n:Int)] (.dR [VK .u64 0,VK .u64 (n:Int)]):=by
 refine TC.walk ⟨true,false⟩ KF rfl (Nat.le_of_ble_eq_true rfl) rfl rfl ?_
 simp only[FI,CL,Fb n h,VX,Nat.reduceEqDiff,Nat.reduceAdd]
 exact aL rfl
end Go.PM
namespace Go.PM
section
variable {α:Type} {f:α→VV} {H:aA} {b g e lo:Nat} {X Y:List α}
theorem RX {o:Nat}:cZ (X.map f) o (Y.map f)=(X.take o++Y++X.drop (o+Y.length)).map f:=by
 simp[cZ]
theorem P6 {o d cc:Nat} {y:VV} (h:aF H b g=some (X.map f,e,true)) (hy:cW e y H=some (Y.map f)) (dP:lo≤b) (ho:o+(Y.take d).length≤X.length) :
  J2 lo e (.ref b g o d cc) y H=some (VI (Y.take d).length,H.set b (.row g ((X.take o++Y.take d++X.drop (o+(Y.take d).length)).map f) e true)):=by
 simp only[J2,hy,h]
 rw[←List.map_take,RX,if_pos ⟨trivial,dP,by simpa using ho⟩,List.length_map]
end
end Go.PM
namespace Go.PM
end Go.PM