/- Texts of a claim, in one: part 9. -/
import Derived.KernelRfl
import Derived.Test.YtodamlihdkalfaaGreatDoorKQh
set_option linter.unusedSimpArgs false
set_option linter.unusedVariables false
namespace Go.PM
open Go.Lib
theorem Bn (l:List UInt8) {i:Nat} (h:i<l.length):Ep (.string ⟨l.toArray⟩) (.int .i64 (i:Int))=some (.int .u8 ((l.getD i 0).toNat:Int)):=by
 have hs:(⟨l.toArray⟩:ByteArray).size=l.length:=by simp[ByteArray.size]
 have e1:(0:Int)≤i∧(i:Int)<(l.length:Int):=by omega
 simp only[Ep,hs,e1,and_self,if_true,Int.toNat_natCast]
theorem E5 (l:List UInt8) (h:0<l.length):Ep (.string ⟨l.toArray⟩) (.int .i64 0)=some (.int .u8 ((l.getD 0 0).toNat:Int)):=Bn l h
theorem Ei (l:List UInt8) (a b:Nat):(⟨l.toArray⟩:ByteArray).extract a b=⟨((l.drop a).take (b-a)).toArray⟩:=by
 rw[ByteArray.ext_iff,ByteArray.data_extract]
 simp[List.extract_toArray,List.extract_eq_take_drop]
theorem C0 (l:List UInt8) {a:Nat} (h:a≤l.length):sD (aR l) (some (VI (a:Int))) none=some (aR (l.drop a)):=by
 have hs:(⟨l.toArray⟩:ByteArray).size=l.length:=by simp[ByteArray.size]
 have e2:(0:Int)≤a∧(a:Int)≤(l.length:Int):=by omega
 simp only[sD,Eh,wV,hs,dR,e2,and_self,if_true,Int.toNat_natCast,Ei]
 rw[List.take_of_length_le (by simp)]
theorem Ir (l:List UInt8) {b:Nat} (hb:b≤l.length):sD (aR l) none (some (VI (b:Int)))=some (aR (l.take b)):=by
 have hs:(⟨l.toArray⟩:ByteArray).size=l.length:=by simp[ByteArray.size]
 have e1:(0:Int)≤b∧(b:Int)≤(l.length:Int):=by omega
 simp only[sD,Eh,wV,hs,dR,e1,and_self,if_true,Int.toNat_natCast,Ei]
 rw[List.drop_zero,Nat.sub_zero]
theorem O3 (l:List UInt8):cU .eql (.string ⟨l.toArray⟩) (.string ⟨#[]⟩)=some (.bool (decide (l=[]))):=R2 l []
theorem F2 (l:List UInt8):cU .neq (.string ⟨l.toArray⟩) (.string ⟨#[]⟩)=some (.bool (!decide (l=[]))):=Mz l []
theorem Nu (l:List UInt8):TC 229 [aR l,aR [45]] (VB (isNeg l)):=by
 refine TC.walk ⟨true,false⟩ pU rfl (Nat.le_of_ble_eq_true rfl) rfl rfl ?_
 have e1:yC (.string ⟨#[45]⟩)=some (.int .i64 1):=rfl
 by_cases h:(1:Int)≤(l.length:Int)
 ·have e2:=Ir l (b:=1) (by omega)
  have e2:sD (aR l) none (some (VI 1))=some (aR (l.take 1)):=e2
  have e3:cU .eql (.string ⟨(l.take 1).toArray⟩) (.string ⟨#[45]⟩)=some (.bool (decide (l.take 1=[45]))):=R2 (l.take 1) [45]
  have e4:isNeg l=decide (l.take 1=[45]):=by
   cases l with
   | nil=>exact absurd h (by decide)
   | cons c l=>rw[Ds];simp
  rw[e4]
  simp only[fV,fE,aZ,e1,ge_iff_le,h,e2,e3,VX,Nat.reduceEqDiff,Nat.reduceAdd]
  exact aI rfl
 ·have e4:isNeg l=false:=by unfold isNeg;rw[decide_eq_false (by omega)];rfl
  rw[e4]
  simp only[fV,fE,aZ,e1,ge_iff_le,h,VX,Nat.reduceEqDiff,Nat.reduceAdd]
  exact aI rfl
theorem ML (l:List UInt8):TC 216 [aR l,aR [45]] (.eK [aR (if isNeg l then l.drop 1 else l),VB (isNeg l)]):=by
 refine TC.walk ⟨true,false⟩ qN rfl (Nat.le_of_ble_eq_true rfl) rfl rfl ?_
 have e0:=Nu l
 have e1:yC (.string ⟨#[45]⟩)=some (.int .i64 1):=rfl
 cases h:isNeg l with
 |
  true =>
  rw[h] at e0
  have hl:1≤l.length:=by
   cases l with
   | nil=>cases h
   | cons c l=>simp
  have e2:sD (aR l) (some (VI 1)) none=some (aR (l.drop 1)):=C0 l (a:=1) hl
  simp only[fW,fK,e0,e1,e2,VX,Nat.reduceEqDiff,Nat.reduceAdd]
  exact aI rfl
 |
  false =>
  rw[h] at e0
  simp only[fW,fK,e0,Bool.false_eq_true,if_false,VX,Nat.reduceEqDiff,Nat.reduceAdd]
  exact aI rfl
theorem Ot (l:List UInt8):TC 168 [aR l,aR [45]] (.eK [aR (if isNeg l then l.drop 1 else l),VB (isNeg l)]):=by
 refine TC.walk ⟨true,false⟩ Cm rfl (Nat.le_of_ble_eq_true rfl) rfl rfl ?_
 have e0:=ML l
 simp only[wG,tA,e0,VX,Nat.reduceEqDiff,Nat.reduceAdd]
 exact aI rfl
theorem acD (l:List UInt8) (hl:l.length≤1000000000000):TC 215 [aR l,aR [47]] (.eK [aR (kH 47 l).1,aR ((kH 47 l).2.getD []),VB (kH 47 l).2.isSome]):=by
 refine TC.walk ⟨true,false⟩ uL rfl (Nat.le_of_ble_eq_true rfl) rfl rfl ?_
 have e0:=XT l 47
 have e1:yC (.string ⟨#[47]⟩)=some (.int .i64 1):=rfl
 cases h:(kH 47 l).2 with
 |
  none =>
  obtain⟨h1,h2,_⟩:=yR h
  rw[h1] at e0
  rw[h2]
  simp only[jN,iV,e0,ge_iff_le,Int.reduceNeg,Int.reduceLE,VX,Nat.reduceEqDiff,Nat.reduceAdd]
  exact aI rfl
 |
  some r =>
  obtain⟨h1,h2,_⟩:=EO h
  rw[h1] at e0
  generalize (kH 47 l).1=a at *
  subst h2
  rw[List.length_append,List.length_cons] at hl
  have h0:(0:Int)≤(a.length:Int):=by omega
  have e2:=Ir (a++47::r) (b:=a.length) (by simp)
  have e3:=C0 (a++47::r) (a:=a.length+1) (by simp)
  rw[List.take_left] at e2
  have ed:(a++47::r).drop (a.length+1)=r:=by rw[List.drop_append];simp
  rw[ed] at e3
  have w:IntKind.i64.wrap ((a.length:Int)+1)=((a.length+1:Nat):Int):=wrapN _ (by omega) (by omega)
  simp only[jN,iV,e0,e1,ge_iff_le,h0,w,e2,e3,VX,Nat.reduceEqDiff,Nat.reduceAdd]
  exact aI rfl
theorem agV (l:List UInt8) (hl:l.length≤1000000000000):TC 167 [aR l,aR [47]] (.eK [aR (kH 47 l).1,aR ((kH 47 l).2.getD []),VB (kH 47 l).2.isSome]):=by
 refine TC.walk ⟨true,false⟩ JP rfl (Nat.le_of_ble_eq_true rfl) rfl rfl ?_
 have e0:=acD l hl
 simp only[Gk,CG,e0,VX,Nat.reduceEqDiff,Nat.reduceAdd]
 exact aI rfl
def yL (l:List UInt8):VV:=if gC l=true then .eK [bC (bM l),VB true] else .eK [bC 0,VB false]
theorem Tv (l:List UInt8):gH (yL l)=true:=by
 unfold yL
 split<;>simp[gH,pF,nX,lL]
theorem Z4 {d:Nat}:fz (d+1) [.row 0 [] 1 true] (.ref 0 0 0 0 0)=some (bC 0):=by
 rw[Cb]
 cases d with
 | zero=>rfl
 | succ d=>rfl
theorem HC {n:Nat} (hn:n≤9) {lo:Nat} {H:aB} {ρ:cP} {Q:VQ} (h58:ρ 58=VI n) (h59:ρ 59=VI 0) (h9:ρ 9=VK .u64 1) (hQ:∀aU,(∀t,t<9→aU t=ρ t)→aU 9=VK .u64 ((10^n:Nat):Int)→Q .normal aU H):VW ⟨true,false⟩ lo (.loop oI) (xC 4 Q) ρ H:=by
 refine bB (fun(i:Nat) aU H'=>i≤n∧H'=H∧(∀t,t<9→aU t=ρ t)∧aU 58=VI n∧aU 59=VI i∧aU 9=VK .u64 ((10^i:Nat):Int)) (fun i=>n-i) 0 ⟨Nat.zero_le _,rfl,fun _ _=>rfl,h58,h59,h9⟩ ?_
 rintro i aU H' ⟨hi,rfl,hk,g58,g59,g9⟩
 by_cases cX:(i:Int)<(n:Int)
 ·have wi:IntKind.i64.wrap ((i:Int)+1)=((i+1:Nat):Int):=wrapN (i+1) (by omega) (by omega)
  have hp:10^i≤10^8:=Nat.pow_le_pow_right (by decide) (by omega)
  have e8:(10:Nat)^8=100000000:=by decide
  have wp:IntKind.u64.wrap (((10^i:Nat):Int)*10)=((10^(i+1):Nat):Int):=by
   rw[Nat.pow_succ]
   generalize 10^i=p at *
   have:=eH (p*10) (by omega)
   rw[Int.natCast_mul] at this
   rw[Int.natCast_mul]
   exact this
  simp only[oI,g58,g59,g9,cX,wi,wp,VX,Nat.reduceEqDiff,Nat.reduceAdd]
  refine⟨i+1,by omega,by omega,fun t ht => ?_,rfl,rfl⟩
  try simp only[sG]
  repeat rw[if_neg (by omega)]
  exact hk t ht
 ·have qW:i=n:=by omega
  subst qW
  simp only[oI,g58,g59,cX,VX,Nat.reduceEqDiff,Nat.reduceAdd]
  refine hQ _ (fun t ht => ?_) ?_
  ·try simp only[sG]
   repeat rw[if_neg (by omega)]
   exact hk t ht
  ·simp only[g9,VX,Nat.reduceEqDiff,Nat.reduceAdd]
theorem Vp {l:List UInt8} {i:Nat} (h:i<l.length):(l.take (i+1)).all gK=((l.take i).all gK&&gK (l.getD i 0)):=by
 rw[List.take_add_one,List.all_append]
 have:l[i]? = some (l.getD i 0):=by rw[List.getElem?_eq_getElem h,List.getD_eq_getElem?_getD,List.getElem?_eq_getElem h];rfl
 rw[this]
 simp
theorem HJ {l:List UInt8} (hl:l.length≤1000000000000) {lo:Nat} {H:aB} {ρ:cP} {Q:VQ} (h0:ρ 0=aR l) (h29:ρ 29=VI l.length) (h30:ρ 30=VI 0)
  (hR:l.all gK=false→∀aU:cP,aU 2 = .tree [] .nil→aU 3=VB false→Q .ret aU H) (hN:l.all gK=true→∀aU:cP,(∀t,t<5→aU t=ρ t)→Q .normal aU H):VW ⟨true,false⟩ lo (.loop jC) (xC 0 Q) ρ H:=by
 refine bB (fun(i:Nat) aU H'=>i≤l.length∧H'=H∧(l.take i).all gK=true∧(∀t,t<5→aU t=ρ t)∧aU 29=VI l.length∧aU 30=VI i) (fun i=>l.length-i) 0 ⟨Nat.zero_le _,rfl,rfl,fun _ _=>rfl,h29,h30⟩ ?_
 rintro i aU H' ⟨hi,rfl,hd,hk,g29,g30⟩
 have g0:=(hk 0 (by decide)).trans h0
 by_cases cX:(i:Int)<(l.length:Int)
 ·have QJ:i<l.length:=by omega
  have e1:=Bn l QJ
  have wi:IntKind.i64.wrap ((i:Int)+1)=((i+1:Nat):Int):=wrapN (i+1) (by omega) (by omega)
  have ht:=Vp QJ
  rw[hd,Bool.true_and] at ht
  have Qm:gK (l.getD i 0)=(decide (48≤(l.getD i 0).toNat)&&decide ((l.getD i 0).toNat≤57)):=rfl
  have kG:gK (l.getD i 0)=false→l.all gK=false:=by
   intro h
   rw[h] at ht
   rw[←List.take_append_drop (i+1) l,List.all_append,ht,Bool.false_and]
  generalize (l.getD i 0).toNat=c at *
  by_cases q1:(c:Int)<48
  ·have:=kG (by rw[Qm,decide_eq_false (by omega)];rfl)
   simp only[jC,g0,g29,g30,cX,e1,q1,VX,Nat.reduceEqDiff,Nat.reduceAdd]
   exact hR this _ (by simp only[VX,Nat.reduceEqDiff,Nat.reduceAdd]) (by simp only[VX,Nat.reduceEqDiff,Nat.reduceAdd])
  ·by_cases q2:(57:Int)<(c:Int)
   ·have:=kG (by rw[Qm,decide_eq_false (show ¬c≤57 by omega),Bool.and_false])
    simp only[jC,g0,g29,g30,cX,e1,q1,q2,VX,Nat.reduceEqDiff,Nat.reduceAdd]
    exact hR this _ (by simp only[VX,Nat.reduceEqDiff,Nat.reduceAdd]) (by simp only[VX,Nat.reduceEqDiff,Nat.reduceAdd])
   ·rw[Qm,decide_eq_true (by omega),decide_eq_true (by omega),Bool.and_self] at ht
    simp only[jC,g0,g29,g30,cX,e1,q1,q2,wi,VX,Nat.reduceEqDiff,Nat.reduceAdd]
    refine⟨i+1,by omega,by omega,ht,fun t ht => ?_,rfl⟩
    try simp only[sG]
    repeat rw[if_neg (by omega)]
    exact hk t ht
 ·have qW:i=l.length:=by omega
  subst qW
  rw[List.take_length] at hd
  simp only[jC,g29,g30,cX,VX,Nat.reduceEqDiff,Nat.reduceAdd]
  refine hN hd _ fun t ht => ?_
  try simp only[sG]
  repeat rw[if_neg (by omega)]
  exact hk t ht
set_option maxHeartbeats 2000000 in
theorem I3 {l:List UInt8} (hd:l.all gK=true) (hl:l.length≤200) (eW:l≠[]) {ρ:cP} {Q:VQ} (h0:ρ 0=aR l) (h4:ρ 4 = .ref 0 0 0 0 0)
  (hQ:∀(aU:cP),aU 4=bC (bM l)→Q .normal aU [.row 0 [] 1 false]):VW ⟨true,false⟩ 0 (.loop lB) (xC 2 Q) ρ [.row 0 [] 1 true]:=by
 refine bB (fun(s:List UInt8×List UInt8) aU H'=>l=s.1++s.2∧aU 0=aR s.2∧((H'=[.row 0 [] 1 true]∧aU 4 = .ref 0 0 0 0 0∧s.1=[])∨(H'=[.row 0 [] 1 false]∧aU 4=bC (bM s.1)))) (fun s=>s.2.length) ([],l) ⟨rfl,h0,.inl ⟨rfl,h4,rfl⟩⟩ ?_
 rintro⟨pre,rest⟩ aU H' ⟨Ns,g0,hv⟩
 simp only at Ns g0 hv
 have e1:=F2 rest
 by_cases he:rest=[]
 ·subst he
  rw[List.append_nil] at Ns
  subst Ns
  rcases hv with⟨_,_,h⟩ | ⟨rfl,g4⟩
  ·exact absurd h eW
  have Q9:cU .neq (.string ⟨#[]⟩) (.string ⟨#[]⟩)=some (.bool false):=by
   have:=F2 []
   rw[decide_eq_true rfl] at this
   exact this
  simp only[lB,g0,Q9,VX,Nat.reduceEqDiff,Nat.reduceAdd]
  exact hQ _ (by simp only[g4,VX,Nat.reduceEqDiff,Nat.reduceAdd])
 ·rw[Ns,List.all_append,Bool.and_eq_true] at hd
  obtain⟨hd1,hd2⟩:=hd
  rw[Ns,List.length_append] at hl
  have jO:0<rest.length:=List.length_pos_iff.2 he
  have Q9:cU .neq (.string ⟨rest.toArray⟩) (.string ⟨#[]⟩)=some (.bool true):=by rw[e1,decide_eq_false he];rfl
  have wm:(rest.length:Int).tmod 9=((rest.length % 9:Nat):Int):=by rw[Int.tmod_eq_emod_of_nonneg (by omega)];simp
  have er:cU .rem (.int .i64 (rest.length:Int)) (.int .i64 9)=some (.int .i64 ((rest.length % 9:Nat):Int)):=by
   rw[←wm]
   rfl
  obtain⟨n,hn⟩:∃n,n=if rest.length % 9=0 then 9 else rest.length % 9:=⟨_,rfl⟩
  have hn1:1≤n∧n≤9∧n≤rest.length:=by
   rw[hn]
   split<;>omega
  obtain⟨n1,n9,nl⟩:=hn1
  have e2:=Ir rest nl
  have e3:=C0 rest nl
  have Zq:(rest.take n).length=n:=by rw[List.length_take];omega
  have hcd:(rest.take n).all gK=true:=by
   rw[←List.take_append_drop n rest,List.all_append,Bool.and_eq_true] at hd2
   exact hd2.1
  have hp:=YX (rest.take n) (bM (rest.take n)) (by omega) (aaX hcd (fun h=>by rw[h] at Zq;simp at Zq;omega) (by omega))
  have CV:=Eo hcd
  rw[Zq] at CV
  have hp9:10^n≤10^9:=Nat.pow_le_pow_right (by decide) n9
  have e9:(10:Nat)^9=1000000000:=by decide
  have atM:bM (rest.take n)<1000000000:=by omega
  have c1:=kZ (10^n) (by omega)
  have c2:=kZ (bM (rest.take n)) (by omega)
  have hbp:bl (bM pre)≤665:=by
   refine Cv (Nat.lt_of_lt_of_le (Eo hd1) ?_)
   exact Nat.le_trans (Nat.pow_le_pow_right (by decide) (by omega:pre.length≤200)) (by decide +kernel)
  have hb9:bl (10^n)≤64:=Cv (by omega)
  have hbm:=lP (bM pre) (10^n)
  have hbc:bl (bM (rest.take n))≤64:=Cv (by omega)
  have tm:=gJ (bM pre) (10^n) (eG (by omega)) (eG (by omega))
  have c4:=Bb (bM pre*10^n) (bM (rest.take n)) (eG (by omega)) (eG (by omega))
  have rG:bM pre*10^n+bM (rest.take n)=bM (pre++rest.take n):=by rw[HK,Zq]
  rw[rG] at c4
  have fin:(rest.drop n).length<rest.length∧pre++rest=(pre++rest.take n)++rest.drop n:=⟨by rw[List.length_drop];omega,by rw[List.append_assoc,List.take_append_drop]⟩
  obtain⟨v4,g4,c3⟩:∃v4,aU 4=v4∧∀lo K,dJ 180 [v4,bC (10^n)] lo H' K=K (bC (bM pre*10^n)) [.row 0 [] 1 false]:=by
   rcases hv with⟨rfl,g4,hp0⟩ | ⟨rfl,g4⟩
   ·refine⟨_,g4,fun lo K => ?_⟩
    subst hp0
    have:=tm.Eb (H:=[.row 0 [] 1 true]) (args:=[.ref 0 0 0 0 0,bC (10^n)]) (lo:=lo) (k:=K) rfl (by simp[aK,bK]) (fz2 Z4 (aJ (bK _))) rfl
    rw[this,show GK (bC (bM []*10^n))=false from rfl,if_neg (by decide),List.flatMap_cons,List.flatMap_cons,List.flatMap_nil,Dp (bK _),KG (n:=0) (c:=0) (es:=[]) (e:=1) (w:=true) cE rfl rfl]
    rfl
   ·exact⟨_,g4,fun lo K=>tm lo [.row 0 [] 1 false] K⟩
  clear hv
  obtain⟨P,hP⟩:∃P,P=10^n:=⟨_,rfl⟩
  rw[←hP] at c1 c4 c3
  have hnI:(rest.length % 9:Nat)=0∨¬(rest.length % 9:Nat)=0:=by omega
  rcases hnI with h9 | h9
  ·rw[if_pos h9] at hn
   subst hn
   have q:((rest.length % 9:Nat):Int)=0:=by omega
   have e2':sD (aR rest) none (some (VI 9))=some (aR (rest.take 9)):=e2
   have e3':sD (aR rest) (some (VI 9)) none=some (aR (rest.drop 9)):=e3
   simp only[lB,g0,g4,Q9,aZ,er,q,e2',hp,VX,Nat.reduceEqDiff,Nat.reduceAdd]
   refine HC (n:=9) (by decide) ?_ ?_ ?_ fun tW k1 q9 => ?_
   ·simp only[VX,Nat.reduceEqDiff,Nat.reduceAdd];rfl
   ·simp only[VX,Nat.reduceEqDiff,Nat.reduceAdd]
   ·simp only[VX,Nat.reduceEqDiff,Nat.reduceAdd]
   rw[←hP] at q9
   have u0:tW 0=aR rest:=by rw[k1 0 (by decide)];simp only[g0,VX,Nat.reduceEqDiff,Nat.reduceAdd]
   have u4:tW 4=v4:=by rw[k1 4 (by decide)];simp only[g4,VX,Nat.reduceEqDiff,Nat.reduceAdd]
   have u6:tW 6=VI 9:=by rw[k1 6 (by decide)];simp only[VX,Nat.reduceEqDiff,Nat.reduceAdd]
   have u7:tW 7=VK .u64 (bM (rest.take 9)):=by rw[k1 7 (by decide)];simp only[VX,Nat.reduceEqDiff,Nat.reduceAdd]
   simp only[u0,u4,u6,u7,q9,c1,c2,c3,c4,e3',VX,Nat.reduceEqDiff,Nat.reduceAdd]
   exact⟨(pre++rest.take 9,rest.drop 9),fin.1,Ns.trans fin.2,rfl,.inr rfl⟩
  ·rw[if_neg h9] at hn
   rw[←hn] at er
   have q:¬(n:Int)=0:=by omega
   simp only[lB,g0,g4,Q9,aZ,er,q,e2,hp,VX,Nat.reduceEqDiff,Nat.reduceAdd]
   refine HC (n:=n) n9 ?_ ?_ ?_ fun tW k1 q9 => ?_
   ·simp only[VX,Nat.reduceEqDiff,Nat.reduceAdd]
   ·simp only[VX,Nat.reduceEqDiff,Nat.reduceAdd]
   ·simp only[VX,Nat.reduceEqDiff,Nat.reduceAdd]
   rw[←hP] at q9
   have u0:tW 0=aR rest:=by rw[k1 0 (by decide)];simp only[g0,VX,Nat.reduceEqDiff,Nat.reduceAdd]
   have u4:tW 4=v4:=by rw[k1 4 (by decide)];simp only[g4,VX,Nat.reduceEqDiff,Nat.reduceAdd]
   have u6:tW 6=VI n:=by rw[k1 6 (by decide)];simp only[VX,Nat.reduceEqDiff,Nat.reduceAdd]
   have u7:tW 7=VK .u64 (bM (rest.take n)):=by rw[k1 7 (by decide)];simp only[VX,Nat.reduceEqDiff,Nat.reduceAdd]
   simp only[u0,u4,u6,u7,q9,c1,c2,c3,c4,e3,VX,Nat.reduceEqDiff,Nat.reduceAdd]
   exact⟨(pre++rest.take n,rest.drop n),fin.1,Ns.trans fin.2,rfl,.inr rfl⟩
set_option maxHeartbeats 2000000 in
theorem Bz (l:List UInt8) (hl:l.length≤1000000000000):TC 169 [aR l] (yL l):=by
 refine TC.walk ⟨true,false⟩ I4 rfl (Nat.le_of_ble_eq_true rfl) rfl (Tv l) ?_
 have e1:=O3 l
 by_cases he:l=[]
 ·have hk:gC l=false:=by rw[he];rfl
  have Q9:cU .eql (.string ⟨l.toArray⟩) (.string ⟨#[]⟩)=some (.bool true):=by rw[e1,decide_eq_true he]
  unfold yL
  rw[hk]
  simp only[nL,jY,Q9,Bool.false_eq_true,if_false,VX,Nat.reduceEqDiff,Nat.reduceAdd]
  exact bH (d:=6) tG (aJ (v:=VB false) rfl)
 have jO:0<l.length:=List.length_pos_iff.2 he
 by_cases YV:(200:Int)<(l.length:Int)
 ·have hk:gC l=false:=by
   cases h:gC l with
   | false=>rfl
   | true=>have:=(iL.1 h).2.2.1;omega
  unfold yL
  rw[hk]
  simp only[nL,jY,e1,he,decide_false,aZ,YV,Bool.false_eq_true,if_false,VX,Nat.reduceEqDiff,Nat.reduceAdd]
  exact bH (d:=6) tG (aJ (v:=VB false) rfl)
 have e2:=E5 l jO
 by_cases hz:(((l.getD 0 0).toNat:Int)=48∧1<(l.length:Int))
 ·obtain⟨Fw,Pq⟩:=hz
  have hk:gC l=false:=by
   cases h:gC l with
   | false=>rfl
   |
    true =>
    rcases(iL.1 h).2.2.2 with h1 | h1
    ·omega
    ·exact absurd (UInt8.toNat_inj.1 (by rw[show (48:UInt8).toNat=48 from rfl];omega)) h1
  unfold yL
  rw[hk]
  simp only[nL,jY,e1,he,decide_false,aZ,YV,e2,Fw,Pq,Bool.false_eq_true,if_false,VX,Nat.reduceEqDiff,Nat.reduceAdd]
  exact bH (d:=6) tG (aJ (v:=VB false) rfl)
 have adZ:l.length=1∨l.getD 0 0≠48:=by
  by_cases h1:l.length=1
  ·exact .inl h1
  ·right
   intro h2
   apply hz
   rw[h2]
   exact⟨rfl,by omega⟩
 have e3:∀lr,qV lr [.int .u32 0] 0 [] []=some (.ref 0 0 0 0 0,[.row 0 [] 1 true]):=fun lr=>nR (H:=[]) (lr:=lr) (z:=[.int .u32 0]) rfl
 have kN:l.all gK=true→gC l=true:=fun h=>iL.2 ⟨h,jO,by omega,adZ⟩
 have kF:l.all gK=false→gC l=false:=fun h=>by unfold gC;rw[h];rfl
 have rF:gC l=false→yL l = .eK [bC 0,VB false]:=fun h=>by unfold yL;rw[h];rfl
 have rT:gC l=true→yL l = .eK [bC (bM l),VB true]:=fun h=>if_pos h
 by_cases hA:(((l.getD 0 0).toNat:Int)=48)
 ·have hB:¬1<(l.length:Int):=fun h=>hz ⟨hA,h⟩
  simp only[nL,jY,e1,e3,he,decide_false,aZ,YV,e2,hA,hB,Bool.false_eq_true,if_false,VX,Nat.reduceEqDiff,Nat.reduceAdd]
  refine HJ hl ?_ ?_ ?_ (fun hd tW g2 g3 => ?_) fun hd tW k1 => ?_
  ·simp only[VX,Nat.reduceEqDiff,Nat.reduceAdd]
  ·simp only[VX,Nat.reduceEqDiff,Nat.reduceAdd]
  ·simp only[VX,Nat.reduceEqDiff,Nat.reduceAdd]
  ·rw[rF (kF hd)]
   simp only[g2,g3,VX,Nat.reduceEqDiff,Nat.reduceAdd]
   exact bH (d:=6) tG (aJ (v:=VB false) rfl)
  ·rw[rT (kN hd)]
   simp only[VX,Nat.reduceEqDiff,Nat.reduceAdd]
   refine I3 hd (by omega) he ?_ ?_ fun Kh g4 => ?_
   ·rw[k1 0 (by decide)];simp only[VX,Nat.reduceEqDiff,Nat.reduceAdd]
   ·rw[k1 4 (by decide)];simp only[VX,Nat.reduceEqDiff,Nat.reduceAdd]
   ·simp only[g4,VX,Nat.reduceEqDiff,Nat.reduceAdd]
    exact bH (d:=6) (aJ (bK _)) (aJ (v:=VB true) rfl)
 ·simp only[nL,jY,e1,e3,he,decide_false,aZ,YV,e2,hA,Bool.false_eq_true,if_false,VX,Nat.reduceEqDiff,Nat.reduceAdd]
  refine HJ hl ?_ ?_ ?_ (fun hd tW g2 g3 => ?_) fun hd tW k1 => ?_
  ·simp only[VX,Nat.reduceEqDiff,Nat.reduceAdd]
  ·simp only[VX,Nat.reduceEqDiff,Nat.reduceAdd]
  ·simp only[VX,Nat.reduceEqDiff,Nat.reduceAdd]
  ·rw[rF (kF hd)]
   simp only[g2,g3,VX,Nat.reduceEqDiff,Nat.reduceAdd]
   exact bH (d:=6) tG (aJ (v:=VB false) rfl)
  ·rw[rT (kN hd)]
   simp only[VX,Nat.reduceEqDiff,Nat.reduceAdd]
   refine I3 hd (by omega) he ?_ ?_ fun Kh g4 => ?_
   ·rw[k1 0 (by decide)];simp only[VX,Nat.reduceEqDiff,Nat.reduceAdd]
   ·rw[k1 4 (by decide)];simp only[VX,Nat.reduceEqDiff,Nat.reduceAdd]
   ·simp only[g4,VX,Nat.reduceEqDiff,Nat.reduceAdd]
    exact bH (d:=6) (aJ (bK _)) (aJ (v:=VB true) rfl)
def Jc:VV := .agg [VB false,bC 0,bC 0]
def Be (l:List UInt8):VV:=match uE l with
 | some q => .eK [cF q,VB true]
 | none => .eK [Jc,VB false]
theorem Nb:gH Jc=true:=by simp[Jc,gH,pF,nX,lL]
theorem QH (l:List UInt8):gH (Be l)=true:=by
 unfold Be
 split<;>simp[gH,pF,pP,Nb,lL]
theorem fJ {d:Nat} {H:aB}:fz (d+2) H (.agg [VB false,.tree [] .nil,.tree [] .nil])=some Jc:=oF (aJ (v:=VB false) rfl) tG tG
theorem I7 {neg:Bool} {t b:Nat} (hb:b≠0) (hg:Nat.gcd t b=1) (hn:¬(neg=true∧t=0)):cF (mkRat (iY neg t) b) = .agg [VB neg,bC t,bC b]:=by
 obtain⟨e1,e2⟩:=Gz (neg:=neg) hb hg
 refine DS ?_ (by rw[e1,lT]) e2
 rw[e1]
 cases neg with
 | false=>unfold iY;simp
 |
  true =>
  have:t≠0:=fun h=>hn ⟨rfl,h⟩
  unfold iY
  simp
  omega
theorem P0 (l:List UInt8):uE l=mE (isNeg (kH 47 l).1) (if isNeg (kH 47 l).1 then (kH 47 l).1.drop 1 else (kH 47 l).1) (kH 47 l).2:=by
 cases l with
 | nil=>rfl
 |
  cons c r =>
  unfold uE
  by_cases h47:c=47
  ·subst h47
   rfl
  ·have e:kH 47 (c::r)=(c::(kH 47 r).1,(kH 47 r).2):=by rw[kH,if_neg h47]
   by_cases h45:c=45
   ·subst h45
    rw[e]
    rfl
   ·rw[e,Ds,Ds,decide_eq_false h45]
    simp only[Bool.false_eq_true,if_false,e]
theorem O9 {c:UInt8}:∀ {l:List UInt8},(kH c l).1.length≤l.length∧∀t,(kH c l).2=some t→t.length≤l.length:=by
 intro l
 cases h:(kH c l).2 with
 | none=>rw[(yR h).2.1];exact⟨Nat.le_refl _,fun t ht=>by cases ht⟩
 |
  some r =>
  have:=congrArg List.length (EO h).2.1
  rw[List.length_append,List.length_cons] at this
  exact⟨by omega,fun t ht=>by cases ht;omega⟩
theorem Ko {n:Nat}:(((aC 4294967296 n).length:Nat):Int)=0↔n=0:=by
 rw[←kE (b:=4294967296) (n:=n) (by decide),←List.length_eq_zero_iff]
 omega
set_option maxRecDepth 100000 in
set_option maxHeartbeats 4000000 in
theorem Iq (l:List UInt8) (hl:l.length≤1000000000000):TC 89 [aR l] (Be l):=by
 refine TC.walk ⟨true,false⟩ HW rfl (Nat.le_of_ble_eq_true rfl) rfl (QH l) ?_
 have e1:=agV l hl
 obtain⟨l1,l2⟩:=O9 (c:=47) (l:=l)
 have hq:=P0 l
 unfold Be
 rw[hq]
 clear hq
 generalize (kH 47 l).1=f at *
 generalize (kH 47 l).2=s2 at *
 have e2:=Ot f
 have ld:(if isNeg f=true then f.drop 1 else f).length≤f.length:=by split<;>simp
 generalize (if isNeg f=true then f.drop 1 else f)=d at *
 generalize isNeg f=neg at *
 have e3:=Bz d (by omega)
 have c1:TC 101 [.sc (.int .u64 1)] (bC 1):=kZ 1 (by decide)
 cases hd:gC d with
 |
  false =>
  have hp:mE neg d s2=none:=if_pos (.inl hd)
  rw[hp]
  unfold yL at e3
  rw[hd,if_neg (by decide)] at e3
  simp only[dF,cM,e1,e2,e3,aE,gG,Nat.reduceLeDiff,Nat.reduceLT,Nat.reduceSub,VX,Nat.reduceEqDiff,Nat.reduceAdd]
  exact bH (d:=6) fJ (aJ (v:=VB false) rfl)
 |
  true =>
  unfold yL at e3
  rw[hd,if_pos rfl] at e3
  by_cases hz:neg=true∧bM d=0
  ·have hp:mE neg d s2=none:=if_pos (.inr hz)
   rw[hp]
   obtain⟨rfl,Cl⟩:=hz
   rw[Cl] at e3
   have xM:(((aC 4294967296 0).length:Nat):Int)=0:=Ko.2 rfl
   simp only[dF,cM,e1,e2,e3,dB,xM,aE,gG,Nat.reduceLeDiff,Nat.reduceLT,Nat.reduceSub,VX,Nat.reduceEqDiff,Nat.reduceAdd]
   exact bH (d:=6) fJ (aJ (v:=VB false) rfl)
  ·have hbt:=uD hd
   have xM:neg=true→¬(((aC 4294967296 (bM d)).length:Nat):Int)=0:=fun h h0=>hz ⟨h,Ko.1 h0⟩
   cases s2 with
   |
    none =>
    have hp:mE neg d none=some (mkRat (iY neg (bM d)) 1):=if_neg (by rw[hd];rintro(h | h);exact absurd h (by decide);exact hz h)
    rw[hp]
    simp only[]
    rw[I7 (by decide) (Nat.gcd_one_right _) hz]
    cases neg with
    |
     false =>
     simp only[dF,cM,e1,e2,e3,c1,Option.isSome_none,Option.getD_none,aE,aN,aO,aG,gG,Nat.reduceLeDiff,Nat.reduceLT,Nat.reduceSub,VX,Nat.reduceEqDiff,Nat.reduceAdd]
     exact bH (d:=6) (oF (aJ (v:=VB false) rfl) (aJ (bK _)) (aJ (bK _))) (aJ (v:=VB true) rfl)
    |
     true =>
     have xM:=xM rfl
     simp only[dF,cM,e1,e2,e3,c1,dB,xM,Option.isSome_none,Option.getD_none,aE,aN,aO,aG,gG,Nat.reduceLeDiff,Nat.reduceLT,Nat.reduceSub,VX,Nat.reduceEqDiff,Nat.reduceAdd]
     exact bH (d:=6) (oF (aJ (v:=VB true) rfl) (aJ (bK _)) (aJ (bK _))) (aJ (v:=VB true) rfl)
   |
    some t =>
    have e4:=Bz t (by have:=l2 t rfl;omega)
    have hp:mE neg d (some t)=if gC t=true∧1<bM t∧Nat.gcd (bM d) (bM t)=1 then some (mkRat (iY neg (bM d)) (bM t)) else none:=if_neg (by rw[hd];rintro(h | h);exact absurd h (by decide);exact hz h)
    rw[hp]
    cases ht:gC t with
    |
     false =>
     rw[if_neg (fun h=>absurd h.1 (by decide))]
     unfold yL at e4
     rw[ht,if_neg (by decide)] at e4
     cases neg with
     |
      false =>
      simp only[dF,cM,e1,e2,e3,e4,c1,Option.isSome_some,Option.getD_some,aE,aN,aO,aG,gG,Nat.reduceLeDiff,Nat.reduceLT,Nat.reduceSub,VX,Nat.reduceEqDiff,Nat.reduceAdd]
      exact bH (d:=6) fJ (aJ (v:=VB false) rfl)
     |
      true =>
      have xM:=xM rfl
      simp only[dF,cM,e1,e2,e3,e4,c1,dB,xM,Option.isSome_some,Option.getD_some,aE,aN,aO,aG,gG,Nat.reduceLeDiff,Nat.reduceLT,Nat.reduceSub,VX,Nat.reduceEqDiff,Nat.reduceAdd]
      exact bH (d:=6) fJ (aJ (v:=VB false) rfl)
    |
     true =>
     have Ii:=uD ht
     unfold yL at e4
     rw[ht,if_pos rfl] at e4
     have c2:=iP (bM t) 1 (eG (by omega)) (eG (Nat.le_trans (Cv (n:=1) (k:=1) (by decide)) (by decide)))
     have c3:=AK (bM d) (bM t) (eG (by omega)) (eG (by omega))
     by_cases h1:dX (bM t) 1≤0
     ·have hle:¬1<bM t:=fun h=>by unfold dX at h1;rw[if_neg (by omega),if_neg (by omega)] at h1;exact absurd h1 (by decide)
      rw[if_neg (fun h=>hle h.2.1)]
      cases neg with
      |
       false =>
       simp only[dF,cM,e1,e2,e3,e4,c1,c2,h1,Option.isSome_some,Option.getD_some,aE,aN,aO,aG,gG,Nat.reduceLeDiff,Nat.reduceLT,Nat.reduceSub,VX,Nat.reduceEqDiff,Nat.reduceAdd]
       exact bH (d:=6) fJ (aJ (v:=VB false) rfl)
      |
       true =>
       have xM:=xM rfl
       simp only[dF,cM,e1,e2,e3,e4,c1,c2,h1,dB,xM,Option.isSome_some,Option.getD_some,aE,aN,aO,aG,gG,Nat.reduceLeDiff,Nat.reduceLT,Nat.reduceSub,VX,Nat.reduceEqDiff,Nat.reduceAdd]
       exact bH (d:=6) fJ (aJ (v:=VB false) rfl)
     ·have aX:1<bM t:=by
       rcases Nat.lt_or_ge 1 (bM t) with h | h
       ·exact h
       ·exfalso
        apply h1
        unfold dX
        split
        ·decide
        ·rw[if_pos (by omega)];decide
      have WT:bl (Nat.gcd (bM d) (bM t))≤665:=Nat.le_trans (jM (Nat.le_of_dvd (by omega) (Nat.gcd_dvd_right _ _))) Ii
      have c4:=iP (Nat.gcd (bM d) (bM t)) 1 (eG (by omega)) (eG (Nat.le_trans (Cv (n:=1) (k:=1) (by decide)) (by decide)))
      by_cases hg:Nat.gcd (bM d) (bM t)=1
      ·have h4:dX (Nat.gcd (bM d) (bM t)) 1=0:=by rw[hg];rfl
       rw[if_pos ⟨rfl,aX,hg⟩]
       simp only[]
       rw[I7 (by omega) hg hz]
       cases neg with
       |
        false =>
        simp only[dF,cM,e1,e2,e3,e4,c1,c2,c3,c4,h1,h4,Option.isSome_some,Option.getD_some,aE,aN,aO,aG,gG,Nat.reduceLeDiff,Nat.reduceLT,Nat.reduceSub,VX,Nat.reduceEqDiff,Nat.reduceAdd]
        exact bH (d:=6) (oF (aJ (v:=VB false) rfl) (aJ (bK _)) (aJ (bK _))) (aJ (v:=VB true) rfl)
       |
        true =>
        have xM:=xM rfl
        simp only[dF,cM,e1,e2,e3,e4,c1,c2,c3,c4,h1,h4,dB,xM,Option.isSome_some,Option.getD_some,aE,aN,aO,aG,gG,Nat.reduceLeDiff,Nat.reduceLT,Nat.reduceSub,VX,Nat.reduceEqDiff,Nat.reduceAdd]
        exact bH (d:=6) (oF (aJ (v:=VB true) rfl) (aJ (bK _)) (aJ (bK _))) (aJ (v:=VB true) rfl)
      ·have h4:¬dX (Nat.gcd (bM d) (bM t)) 1=0:=by
        unfold dX
        split<;>(try split)<;>first | decide | omega
       rw[if_neg (fun h=>hg h.2.2)]
       cases neg with
       |
        false =>
        simp only[dF,cM,e1,e2,e3,e4,c1,c2,c3,c4,h1,h4,Option.isSome_some,Option.getD_some,aE,aN,aO,aG,gG,Nat.reduceLeDiff,Nat.reduceLT,Nat.reduceSub,VX,Nat.reduceEqDiff,Nat.reduceAdd]
        exact bH (d:=6) fJ (aJ (v:=VB false) rfl)
       |
        true =>
        have xM:=xM rfl
        simp only[dF,cM,e1,e2,e3,e4,c1,c2,c3,c4,h1,h4,dB,xM,Option.isSome_some,Option.getD_some,aE,aN,aO,aG,gG,Nat.reduceLeDiff,Nat.reduceLT,Nat.reduceSub,VX,Nat.reduceEqDiff,Nat.reduceAdd]
        exact bH (d:=6) fJ (aJ (v:=VB false) rfl)
end Go.PM
namespace Go.PM
open Go.Lib
theorem MY {l:List UInt8} {q:Rat} (h:uE l=some q):Be l = .eK [cF q,VB true]:=by unfold Be;rw[h]
theorem OM {l:List UInt8} (h:uE l=none):Be l = .eK [Jc,VB false]:=by unfold Be;rw[h]
theorem F7:aA Jc=[VB false,bC 0,bC 0]:=rfl
theorem I6:isAny Jc=false:=rfl
theorem Np:eX true 3 Jc 0=some Jc:=rfl
theorem FU (q:Rat):∃s k,Ew q = .eK [aR s,VB k]:=by
 unfold Ew
 split<;>exact⟨_,_,rfl⟩
end Go.PM
namespace Go.PM
open Go.Lib
theorem ET (q:Rat) (n:Nat) (hn:n≤1000) (hq:cC q≤100000):TC 98 [cF q,VI n] (cF (q^n)):=by
 refine TC.walk ⟨true,false⟩ Dk rfl (Nat.le_of_ble_eq_true rfl) (by simp only[aK,eT];rfl) (pP _) ?_
 have e1:TC 97 [VI 1] (cF 1):=nA 1 (by decide) (by decide)
 simp only[yI,uU,e1,aE,bJ,dM,aO,aN,aG,gG,Nat.reduceLeDiff,Nat.reduceLT,Nat.reduceSub,jE,bN,bX,dW,iJ,kP,bne_iff_ne,ne_eq,not_false_eq_true,not_true_eq_false,VX,Nat.reduceEqDiff,Nat.reduceAdd]
 refine bB (fun(i:Nat) ρ H=>i≤n∧H=[.row 0 [.agg [VB false,.tree [] .nil,.tree [] .nil]] 3 true,.row 0 [cF (q^i)] 3 true]∧ρ 2=(cF q).cO 0∧ρ 4 = .ptr 0 0 0 0∧ρ 5 = .ptr 1 0 0 0∧ρ 7=VI n∧ρ 8=VI i) (fun i=>n-i) 0 ⟨Nat.zero_le _,?_,rfl,rfl,rfl,rfl,rfl⟩ ?_
 ·rw[Rat.pow_zero]
 rintro i ρ H ⟨hi,rfl,g2,g4,g5,g7,g8⟩
 by_cases cX:(i:Int)<(n:Int)
 ·have wi:IntKind.i64.wrap ((i:Int)+1)=((i+1:Nat):Int):=wrapN (i+1) (by omega) (by omega)
  have hb:=B9 q i
  have X3:i*cC q≤1000*100000:=Nat.mul_le_mul (by omega) hq
  have e2:=AS (q^i) q (by omega) (by omega)
  rw[←Rat.pow_succ] at e2
  simp only[nP,g2,g4,g5,g7,g8,cX,e2,wi,aE,bJ,dM,aO,aN,aG,gG,Nat.reduceLeDiff,Nat.reduceLT,Nat.reduceSub,jE,bN,bX,dW,iJ,kP,bne_iff_ne,ne_eq,not_false_eq_true,not_true_eq_false,VX,Nat.reduceEqDiff,Nat.reduceAdd]
  exact⟨i+1,by omega,by omega,rfl,rfl⟩
 ·have qW:i=n:=by omega
  subst qW
  simp only[nP,g2,g4,g5,g7,g8,cX,aE,bJ,dM,aO,aN,aG,gG,Nat.reduceLeDiff,Nat.reduceLT,Nat.reduceSub,jE,bN,bX,dW,iJ,kP,bne_iff_ne,ne_eq,not_false_eq_true,not_true_eq_false,VX,Nat.reduceEqDiff,Nat.reduceAdd]
  exact aI (eT _)
end Go.PM
namespace Go.PM
open Go.Lib
theorem Ol {α:Type} {f:α→VV} {d e b g c:Nat} {xs:List α} {H:aB} {w:Bool} (hp:∀x,aW (f x)=true) (h:aV H b g=some (xs.map f,e,w)) (hc:xs.length≤c):fz (d+2) H (.ref b g 0 xs.length c)=some (bT f xs):=by
 have:aW (.ref b g 0 xs.length c)=false:=rfl
 unfold PM.fz
 simp only[this,h,Bool.false_eq_true,if_false]
 rw[if_pos ⟨by simp,hc⟩,List.drop_zero,List.take_of_length_le (by simp),mapM_pure (dY hp)]
 rfl
theorem Yu {d:Nat} {H:aB}:fz (d+1) H (.tree [] .nil)=some (.tree [] .op):=by
 unfold PM.fz
 have:aW (.tree [] .nil)=false:=by simp[aW]
 simp[this]
theorem Dt {H:aB}:fz depth H (.eK [.tree [] .nil,VB false])=some (.eK [.tree [] .op,VB false]):=bH (d:=6) Yu (aJ (v:=VB false) rfl)
theorem DB {u v:VV} (hu:gH u=true) (hv:gH v=true):gH (.eK [u,v])=true:=by simp only[gH,pF,hu,hv,Bool.and_self]
theorem T9 {u v:VV} (hu:aW u=true) (hv:aW v=true):aW (.eK [u,v])=true:=by simp only[aW,aK,hu,hv,Bool.and_self]
theorem abD {u:VV} (hu:aW u=true):aK [u]=true:=by simp only[aK,hu,Bool.and_self]
def pQ (s:ByteArray):Option Rat:=uE s.data.toList
theorem VD (s:ByteArray):sV s=aR s.data.toList:=rfl
def Aq (xs:List ByteArray):Option (List Rat):=if xs.length≤300 then xs.mapM pQ else none
def KV (o:Option (List Rat)):VV:=match o with
 | some qs => .eK [bT cF qs,VB true]
 | none => .eK [bT cF [],VB false]
theorem Ln (q:Rat):(aA (cF q)).length=3:=rfl
theorem oN (qs:List Rat):aW (bT cF qs)=true:=jA Ln eT
theorem SV (q:Rat):xG (cF q)=true:=by simp[xG,cF,bC]
theorem Kd (qs:List Rat):gH (bT cF qs)=true:=Bt Ln pP SV
theorem KC (o:Option (List Rat)):gH (KV o)=true:=by
 unfold KV
 split
 ·exact DB (Kd _) rfl
 ·exact DB (Kd []) rfl
theorem Kn {α β:Type} {f:α→Option β} {xs:List α} {ys:List β} {x:α} {y:β} (h:xs.mapM f=some ys) (hx:f x=some y):(xs++[x]).mapM f=some (ys++[y]):=by
 rw[List.mapM_append,h]
 simp[hx]
theorem mapM_none {α β:Type} {f:α→Option β} {x:α} (hx:f x=none):∀ {xs:List α},x∈xs→xs.mapM f=none
 | [],h=>by cases h
 |
  y::xs,h=>by
  rw[List.mapM_cons]
  cases hy:f y with
  | none=>rfl
  |
   some z =>
   rcases List.mem_cons.1 h with rfl | h
   ·rw[hx] at hy;cases hy
   ·show ((xs.mapM f).bind fun zs=>some (z::zs))=none
    rw[mapM_none hx h];rfl
theorem mapM_mem {α β:Type} {f:α→Option β} {P:β→Prop} (hP:∀x y,f x=some y→P y):∀ {xs:List α} {ys:List β},xs.mapM f=some ys→∀y∈ys,P y
 | [],ys,h,y,hy=>by simp at h;subst h;cases hy
 |
  x::xs,ys,h,y,hy=>by
  rw[List.mapM_cons] at h
  cases hx:f x with
  | none=>rw[hx] at h;cases h
  |
   some z =>
   rw[hx] at h
   cases hs:xs.mapM f with
   | none=>rw[hs] at h;cases h
   |
    some zs =>
    rw[hs] at h
    cases h
    rcases List.mem_cons.1 hy with rfl | hy
    ·exact hP _ _ hx
    ·exact mapM_mem hP hs _ hy
theorem E1 {α:Type} {xs:List α} {i:Nat} {x:α} (h:xs[i]? = some x):xs.take (i+1)=xs.take i++[x]:=by rw[List.take_add_one,h];rfl
theorem Db {xs:List ByteArray} {qs:List Rat} (h:Aq xs=some qs):(∀q∈qs,cC q≤665)∧qs.length≤300∧qs.length=xs.length:=by
 unfold Aq at h
 split at h
 ·rename_i hl
  have:=uI h
  exact⟨mapM_mem (fun _ _ h=>QQ h) h,by omega,this⟩
 ·cases h
set_option maxHeartbeats 1000000 in
theorem N1 (xs:List ByteArray) (hn:xs.length≤1000000000) (hs:∀s∈xs,s.size≤1000000000):TC 145 [fT xs] (KV (Aq xs)):=by
 refine TC.walk ⟨true,false⟩ Ox rfl (Nat.le_of_ble_eq_true rfl) (by simp[aK,dQ]) (KC _) ?_
 unfold Aq
 by_cases QZ:(300:Int)<(xs.length:Int)
 ·rw[if_neg (by omega)]
  simp only[Fy,Bp,QZ,VX,Nat.reduceEqDiff,Nat.reduceAdd]
  exact Dt
 rw[if_pos (by omega)]
 have e0:=fun H=>nR (H:=H) (lr:=false) (z:=[.bool false,.slice none 0 0,.slice none 0 0]) rfl
 simp only[Fy,Bp,QZ,e0,VX,Nat.reduceEqDiff,Nat.reduceAdd]
 refine EB (fun(s:Nat×List Rat) ρ H=>s.1≤xs.length∧(xs.take s.1).mapM pQ=some s.2∧H=[.row s.1 (s.2.map cF) 3 true]∧ρ 4 = .ref 0 s.1 0 s.1 s.1∧ρ 13=fT xs∧ρ 14=VI xs.length∧ρ 15=VI s.1) (fun s=>xs.length-s.1) (0,[]) ⟨Nat.zero_le _,rfl,rfl,rfl,rfl,rfl,rfl⟩ ?_
 rintro⟨i,out⟩ ρ H ⟨hi,ID,rfl,g4,g13,g14,g15⟩
 simp only at hi ID g4 g15
 have iC:out.length=i:=by rw[uI ID,List.length_take];omega
 by_cases cX:(i:Int)<(xs.length:Int)
 ·obtain⟨x,hx⟩:∃x,xs[i]? = some x:=⟨_,List.getElem?_eq_getElem (by omega)⟩
  have hxm:=List.mem_of_getElem? hx
  have e1:=fun H=>aP (f:=sV) (t := .op) (H:=H) (size:=1) (k := .i64) hx rfl
  have wi:IntKind.i64.wrap ((i:Int)+1)=((i+1:Nat):Int):=wrapN (i+1) (by omega) (by omega)
  have e2:=Iq x.data.toList (by have:=hs x hxm;rw[Array.length_toList];show x.size≤_;omega)
  rw[←VD] at e2
  cases hp:pQ x with
  |
   none =>
   rw[OM hp] at e2
   rw[mapM_none hp hxm]
   simp only[tI,g4,g13,g14,g15,cX,e1,e2,F7,I6,Np,aO,aN,aG,gG,Nat.reduceLeDiff,Nat.reduceLT,Nat.reduceSub,jE,bN,bX,dW,iJ,kP,bne_iff_ne,ne_eq,not_false_eq_true,not_true_eq_false,VX,Nat.reduceEqDiff,Nat.reduceAdd]
   exact Dt
  |
   some q =>
   rw[MY hp] at e2
   have eL:∀H,qV false [.bool false,.slice none 0 0,.slice none 0 0] 1 [(0,cF q)] H=some (.tree [cF q] (.cl 3),H):=fun H=>sL rfl rfl rfl
   have eS:∀H,eY 3 (.tree [cF q] (.cl 3)) H=some [cF q]:=fun H=>pB rfl rfl
   have eP:gF 0 3 56 (.ref 0 i 0 i i) [cF q] [.row i (out.map cF) 3 true,.row 0 [cF q] 3 true]=some (.ref 0 (i+1) 0 (i+1) (i+1),[.row (i+1) ((out++[q]).map cF) 3 true,.row 0 [cF q] 3 true]):=by
    rw[oX (f:=cF) (xs:=out) (by rw[cE]) iC.symm (Nat.le_refl _) (by decide) (by decide) (by omega),List.set_cons_zero]
   simp only[tI,g4,g13,g14,g15,cX,e1,e2,eL,eS,eP,wi,aE,bJ,dM,aO,aN,aG,gG,Nat.reduceLeDiff,Nat.reduceLT,Nat.reduceSub,jE,bN,bX,dW,iJ,kP,bne_iff_ne,ne_eq,not_false_eq_true,not_true_eq_false,VX,Nat.reduceEqDiff,Nat.reduceAdd]
   refine⟨(i+1,out++[q]),by simp only;omega,?_,by simp only;omega,by simp only[E1 hx];exact Kn ID hp,rfl,?_⟩
   ·rw[tX (kO _ (dY eT)),Ca]
   ·simp only[dP,g13,g14,pL (dQ _),yX (Nat.lt_succ_self 0),VX,Nat.reduceEqDiff,Nat.reduceAdd,List.take_zero,fL,List.all_nil,List.length_nil,dP,Ec,pL]
 ·have qW:i=xs.length:=by omega
  subst qW
  rw[List.take_length] at ID
  rw[ID]
  simp only[tI,g4,g13,g14,g15,cX,VX,Nat.reduceEqDiff,Nat.reduceAdd]
  refine bH (d:=6) ?_ (aJ (v:=VB true) rfl)
  have:=Ol (d:=5) (w:=true) (f:=cF) (e:=3) (b:=0) (g:=xs.length) (c:=xs.length) (xs:=out) (H:=[.row xs.length (out.map cF) 3 true]) eT (by rw[cE]) (by omega)
  rw[iC] at this
  exact this
end Go.PM
namespace Go.PM
open Go.Lib
theorem BQ {k b g j o:Nat} (h:b<k):CQ k (.ptr b g j o) = .ptr b g j o:=C2 (by simp[below,h])
abbrev cell0:jR := .row 0 [.agg [VB false,.tree [] .nil,.tree [] .nil]] 3 true
theorem F5 {k:Nat} {K:aB}:fL k (cell0::K)=fL k K:=tX rfl
theorem F3 {k:Nat} {q:Rat} {K:aB}:fL k (.row 0 [cF q] 3 true::K)=fL k K:=tX (kO _ (by simp only[aK,eT];rfl))
def Dd (qs:List Rat):Rat:=qs.foldl (· + ·) 0
theorem Kx {qs:List Rat} {i:Nat} {q:Rat} (h:qs[i]? = some q):Dd (qs.take (i+1))=Dd (qs.take i)+q:=by
 rw[E1 h,Dd,List.foldl_append];rfl
theorem KL {B:Nat}:∀ {qs:List Rat},(∀q∈qs,cC q≤B)→∀a:Rat,cC (qs.foldl (· + ·) a)≤qs.length*(B+1)+cC a
 | [],_,a=>by simp
 |
  q::qs,h,a=>by
  have h1:=KL (fun x hx=>h x (List.mem_cons_of_mem _ hx)) (a+q)
  have h2:=Kp a q
  have h3:=h q List.mem_cons_self
  rw[List.foldl_cons,List.length_cons,Nat.succ_mul]
  omega
theorem zG {B:Nat} {qs:List Rat} (h:∀q∈qs,cC q≤B) (i:Nat):cC (Dd (qs.take i))≤qs.length*(B+1)+1:=by
 have h1:=KL (qs:=qs.take i) (fun q hq=>h q (List.mem_of_mem_take hq)) 0
 have h2:(qs.take i).length*(B+1)≤qs.length*(B+1):=Nat.mul_le_mul_right _ (by rw[List.length_take];omega)
 rw[IE] at h1
 unfold Dd
 omega
set_option maxHeartbeats 1000000 in
theorem PS (qs:List Rat) {B:Nat} (hb:∀q∈qs,cC q≤B) (hk:qs.length*(B+1)+1≤1099511627776) (hB:B≤1099511627776) (hn:qs.length≤1000000000):TC 148 [bT cF qs] (cF (Dd qs)):=by
 refine TC.walk ⟨true,false⟩ QW rfl (Nat.le_of_ble_eq_true rfl) (by simp[aK,oN]) (pP _) ?_
 have e1:TC 97 [VI 0] (cF 0):=nA 0 (by decide) (by decide)
 simp only[N8,Ig,e1,aE,bJ,dM,aO,aN,aG,gG,Nat.reduceLeDiff,Nat.reduceLT,Nat.reduceSub,jE,bN,bX,dW,iJ,kP,bne_iff_ne,ne_eq,not_false_eq_true,not_true_eq_false,VX,Nat.reduceEqDiff,Nat.reduceAdd]
 refine EB (fun(i:Nat) ρ H=>i≤qs.length∧H=[cell0,.row 0 [cF (Dd (qs.take i))] 3 true]∧ρ 2 = .ptr 0 0 0 0∧ρ 3 = .ptr 1 0 0 0∧ρ 7=bT cF qs∧ρ 8=VI qs.length∧ρ 9=VI i) (fun i=>qs.length-i) 0 ⟨Nat.zero_le _,rfl,rfl,rfl,rfl,rfl,rfl⟩ ?_
 rintro i ρ H ⟨hi,rfl,g2,g3,g7,g8,g9⟩
 by_cases cX:(i:Int)<(qs.length:Int)
 ·obtain⟨q,hq⟩:∃q,qs[i]? = some q:=⟨_,List.getElem?_eq_getElem (by omega)⟩
  have e2:=fun H=>aP (f:=cF) (t := .op) (H:=H) (size:=3) (k := .i64) hq rfl
  have wi:IntKind.i64.wrap ((i:Int)+1)=((i+1:Nat):Int):=wrapN (i+1) (by omega) (by omega)
  have h1:=zG hb i
  have h2:=hb q (List.mem_of_getElem? hq)
  have e3:=Bo (Dd (qs.take i)) q (by omega) (by omega)
  rw[←Kx hq] at e3
  simp only[BF,g2,g3,g7,g8,g9,cX,e2,e3,wi,aE,bJ,dM,aO,aN,aG,gG,Nat.reduceLeDiff,Nat.reduceLT,Nat.reduceSub,jE,bN,bX,dW,iJ,kP,bne_iff_ne,ne_eq,not_false_eq_true,not_true_eq_false,VX,Nat.reduceEqDiff,Nat.reduceAdd]
  refine⟨i+1,by omega,by rw[F5,F3,Ca],by omega,rfl,?_⟩
  simp only[dP,g2,g3,g7,g8,pL (oN _),BQ (by decide:0<2),BQ (by decide:1<2),VX,Nat.reduceEqDiff,Nat.reduceAdd,List.take_zero,fL,List.all_nil,List.length_nil,dP,Ec,pL]
 ·have qW:i=qs.length:=by omega
  subst qW
  simp only[BF,g2,g3,g7,g8,g9,cX,List.take_length,aE,bJ,dM,aO,aN,aG,gG,Nat.reduceLeDiff,Nat.reduceLT,Nat.reduceSub,jE,bN,bX,dW,iJ,kP,bne_iff_ne,ne_eq,not_false_eq_true,not_true_eq_false,VX,Nat.reduceEqDiff,Nat.reduceAdd]
  exact aI (eT _)
theorem KA {q:Rat}:jH q<0↔q<0:=by
 have e:q.num<0↔q<0:=by rw[←Int.not_le,Rat.num_nonneg];constructor<;>intro h<;>grind
 rw[←e]
 rcases Int.lt_trichotomy q.num 0 with h | h | h
 ·rw[mW h];omega
 ·rw[jJ h];omega
 ·rw[nG h];omega
theorem Jl (q:Rat):TC 147 [cF q] (VB (decide (q<0))):=by
 refine TC.walk ⟨true,false⟩ HH rfl (Nat.le_of_ble_eq_true rfl) (by simp[aK,eT]) rfl ?_
 have e1:=gU q
 by_cases h:jH q<0
 ·rw[decide_eq_true (KA.1 h)]
  simp only[zJ,vI,e1,h,aE,bJ,dM,aO,aN,aG,gG,Nat.reduceLeDiff,Nat.reduceLT,Nat.reduceSub,jE,bN,bX,dW,iJ,kP,bne_iff_ne,ne_eq,not_false_eq_true,not_true_eq_false,VX,Nat.reduceEqDiff,Nat.reduceAdd]
  exact aI rfl
 ·rw[decide_eq_false (mt KA.2 h)]
  simp only[zJ,vI,e1,h,aE,bJ,dM,aO,aN,aG,gG,Nat.reduceLeDiff,Nat.reduceLT,Nat.reduceSub,jE,bN,bX,dW,iJ,kP,bne_iff_ne,ne_eq,not_false_eq_true,not_true_eq_false,VX,Nat.reduceEqDiff,Nat.reduceAdd]
  exact aI rfl
theorem zA (xs:List Rat) (g:Nat) (p:Rat→Bool) (hg:∀x∈xs,TC g [cF x] (VB (p x))) (hn:xs.length≤1000000000) :
  ∃k:Int,(0≤k↔xs.any p=true)∧TC 205 [bT cF xs,.sN g []] (VI k):=by
 refine⟨match xs.findIdx? p with | some i=>i | none => -1,?_,?_⟩
 ·cases h:xs.findIdx? p with
  |
   none =>
   rw[List.findIdx?_eq_none_iff] at h
   simp only[List.any_eq_true]
   constructor
   ·intro h';omega
   ·rintro⟨x,hx,hp⟩;rw[h x hx] at hp;cases hp
  |
   some i =>
   simp only[List.any_eq_true]
   obtain⟨hi,hp,_⟩:=List.findIdx?_eq_some_iff_getElem.1 h
   exact⟨fun _=>⟨_,List.getElem_mem hi,hp⟩,fun _=>by omega⟩
 ·refine TC.walk ⟨true,false⟩ mD rfl (Nat.le_of_ble_eq_true rfl) (by simp[aK,oN];rfl) rfl ?_
  simp only[gL,gA,VX,Nat.reduceEqDiff,Nat.reduceAdd]
  refine bB (fun(i:Nat) ρ H=>i≤xs.length∧H=[]∧(∀j x,j<i→xs[j]? = some x→p x=false)∧ρ 0=bT cF xs∧ρ 1 = .sN g []∧ρ 7=VI xs.length∧ρ 8=VI i) (fun i=>xs.length-i) 0 ⟨Nat.zero_le _,rfl,fun j x h=>by omega,rfl,rfl,rfl,rfl⟩ ?_
  rintro i ρ H ⟨hi,rfl,kG,h0,h1,h7,h8⟩
  by_cases cX:(i:Int)<(xs.length:Int)
  ·obtain⟨x,hx⟩:∃x,xs[i]? = some x:=⟨_,List.getElem?_eq_getElem (by omega)⟩
   have e1:=aP (f:=cF) (t := .op) (H:=[]) (size:=3) (k := .i64) hx rfl
   have wi:IntKind.i64.wrap ((i:Int)+1)=((i+1:Nat):Int):=wrapN (i+1) (by omega) (by omega)
   have e2:=hg x (List.mem_of_getElem? hx)
   cases hp:p x with
   |
    false =>
    rw[hp] at e2
    simp only[cB,h0,h1,h7,h8,cX,e1,e2,wi,zP,List.append_nil,aE,bJ,dM,aO,aN,aG,VX,Nat.reduceEqDiff,Nat.reduceAdd]
    refine⟨i+1,by omega,by omega,fun j y hj hy => ?_,by (repeat' apply And.intro)<;>first | rfl | trivial⟩
    rcases Nat.lt_or_ge j i with JD | JD
    ·exact kG j y JD hy
    ·have:j=i:=by omega
     subst this
     rw[hx] at hy
     injection hy with hy
     exact hy▸hp
   |
    true =>
    rw[hp] at e2
    simp only[cB,h0,h1,h7,h8,cX,e1,e2,wi,zP,List.append_nil,aE,bJ,dM,aO,aN,aG,VX,Nat.reduceEqDiff,Nat.reduceAdd]
    have:xs.findIdx? p=some i:=by
     rw[List.findIdx?_eq_some_iff_getElem]
     obtain⟨aX,Cp⟩:=List.getElem?_eq_some_iff.1 hx
     exact⟨aX,by rw[Cp];exact hp,fun j hj=>by
      have:=kG j _ hj (List.getElem?_eq_getElem (by omega))
      simp[this]⟩
    rw[this]
    exact aI rfl
  ·simp only[cB,h0,h1,h7,h8,cX,VX,Nat.reduceEqDiff,Nat.reduceAdd]
   have:xs.findIdx? p=none:=by
    rw[List.findIdx?_eq_none_iff]
    intro x hx
    obtain⟨j,hj⟩:=List.getElem?_of_mem hx
    exact kG j x (by have:=(List.getElem?_eq_some_iff.1 hj).1;omega) hj
   rw[this]
   exact aI rfl
theorem wD (xs:List Rat) (g:Nat) (p:Rat→Bool) (hg:∀x∈xs,TC g [cF x] (VB (p x))) (hn:xs.length≤1000000000):TC 146 [bT cF xs,.sN g []] (VB (xs.any p)):=by
 refine TC.walk ⟨true,false⟩ kR rfl (Nat.le_of_ble_eq_true rfl) (by simp[aK,oN];rfl) rfl ?_
 obtain⟨k,hk,hc⟩:=zA xs g p hg hn
 have e:decide (0≤k)=xs.any p:=by
  cases h:xs.any p with
  | true=>rw[decide_eq_true (hk.2 h)]
  | false=>rw[decide_eq_false fun h'=>by rw[hk.1 h'] at h;cases h]
 simp only[fR,fC,hc,e,VX,Nat.reduceEqDiff,Nat.reduceAdd]
 exact aI rfl
def jB (qs:List Rat):Bool := !(qs.any fun q=>decide (q<0))&&decide (Dd qs=1)
def pK (xs:List ByteArray):Option (List Rat):=match Aq xs with
 | some qs=>if jB qs=true then some qs else none
 | none=>none
theorem JN {xs:List ByteArray} {qs:List Rat} (h:pK xs=some qs):Aq xs=some qs∧jB qs=true:=by
 unfold pK at h
 split at h
 ·rename_i ps hp
  split at h
  ·rename_i hw
   cases h
   exact⟨hp,hw⟩
  ·cases h
 ·cases h
theorem Jh {n:Nat} (h:n≤300):n*(665+1)+1≤1099511627776:=by omega
theorem GL {xs:List ByteArray} {qs:List Rat} (h:Aq xs=some qs):pK xs=if jB qs=true then some qs else none:=by unfold pK;rw[h]
theorem GM {xs:List ByteArray} (h:Aq xs=none):pK xs=none:=by unfold pK;rw[h]
theorem vD:KV none = .eK [bT cF [],VB false]:=rfl
theorem Dn (qs:List Rat):KV (some qs) = .eK [bT cF qs,VB true]:=rfl
set_option maxHeartbeats 1000000 in
theorem EI (xs:List ByteArray) (hn:xs.length≤1000000000) (hs:∀s∈xs,s.size≤1000000000):TC 114 [fT xs] (KV (pK xs)):=by
 refine TC.walk ⟨true,false⟩ Fh rfl (Nat.le_of_ble_eq_true rfl) (by simp[aK,dQ]) (KC _) ?_
 have e1:=N1 xs hn hs
 cases h:Aq xs with
 |
  none =>
  rw[h,vD] at e1
  rw[GM h,vD]
  simp only[mU,jW,e1,VX,Nat.reduceEqDiff,Nat.reduceAdd]
  exact Dt
 |
  some qs =>
  rw[h,Dn] at e1
  rw[GL h]
  obtain⟨hb,hl,_⟩:=Db h
  have e2:=wD qs 147 (fun q=>decide (q<0)) (fun q _=>Jl q) (by omega)
  have hm:qs.length*666≤199800:=by omega
  have e3:=PS qs (B:=665) hb (Jh hl) (by decide) (by omega)
  have Ut:=zG hb qs.length
  rw[List.take_length] at Ut
  have e4:=FD (Dd qs) (by omega)
  cases Hg:qs.any (fun q=>decide (q<0)) with
  |
   true =>
   rw[Hg] at e2
   have hw:¬jB qs=true:=by unfold jB;rw[Hg];simp
   rw[if_neg hw,vD]
   simp only[mU,jW,e1,e2,VX,Nat.reduceEqDiff,Nat.reduceAdd]
   exact Dt
  |
   false =>
   rw[Hg] at e2
   by_cases Ub:Dd qs=1
   ·rw[decide_eq_true Ub] at e4
    have hw:jB qs=true:=by unfold jB;rw[Hg,decide_eq_true Ub];rfl
    rw[if_pos hw,Dn]
    simp only[mU,jW,e1,e2,e3,e4,VX,Nat.reduceEqDiff,Nat.reduceAdd]
    exact aI (T9 (oN _) rfl)
   ·rw[decide_eq_false Ub] at e4
    have hw:¬jB qs=true:=by unfold jB;rw[Hg,decide_eq_false Ub];simp
    rw[if_neg hw,vD]
    simp only[mU,jW,e1,e2,e3,e4,VX,Nat.reduceEqDiff,Nat.reduceAdd]
    exact Dt
end Go.PM
namespace Go.PM
open Go.Lib
def mK (qs:List Rat) (n:Nat):Nat→Rat
 | 0=>0
 | i+1=>mK qs n i+qs.getD i 0*(i:Rat)^n
theorem A4 {i:Nat} (h:i≤300) (n:Nat) (hn:n≤10):cC (((i:Int):Rat))≤9∧cC (((i:Int):Rat)^n)≤91:=by
 have h1:=S0 (i:Int)
 have h2:bl (i:Int).natAbs≤9:=by rw[Int.natAbs_natCast];exact Cv (by omega)
 have h3:cC (((i:Int):Rat))≤9:=by omega
 have h4:=B9 (((i:Int):Rat)) n
 have h5:n*cC (((i:Int):Rat))≤10*9:=Nat.mul_le_mul hn h3
 exact⟨h3,by omega⟩
theorem AY {qs:List Rat} {n:Nat} (hb:∀q∈qs,cC q≤665) (hl:qs.length≤300) (hn:n≤10):∀i,i≤qs.length→cC (mK qs n i)≤1000*i+1
 | 0,_=>by rw[mK,IE];omega
 |
  i+1,hi=>by
  have h1:=AY hb hl hn i (by omega)
  have hq:qs[i]? = some qs[i]:=List.getElem?_eq_getElem (by omega)
  have h2:=hb _ (List.getElem_mem (by omega:i<qs.length))
  have h3:=(A4 (i:=i) (by omega) n hn).2
  have h4:=BM qs[i] (((i:Int):Rat)^n)
  have h5:=Kp (mK qs n i) (qs[i]*((i:Int):Rat)^n)
  have e:((i:Nat):Rat)=((i:Int):Rat):=rfl
  rw[mK,List.getD_eq_getElem?_getD,hq,Option.getD_some,e]
  omega
set_option maxHeartbeats 1000000 in
theorem JE (qs:List Rat) (n:Nat) (hb:∀q∈qs,cC q≤665) (hl:qs.length≤300) (hn:n≤10):TC 120 [bT cF qs,VI n] (cF (mK qs n qs.length)):=by
 refine TC.walk ⟨true,false⟩ J1 rfl (Nat.le_of_ble_eq_true rfl) (by simp only[aK,oN];rfl) (pP _) ?_
 have e1:TC 97 [VI 0] (cF 0):=nA 0 (by decide) (by decide)
 simp only[Ga,CH,e1,aE,bJ,dM,aO,aN,aG,gG,Nat.reduceLeDiff,Nat.reduceLT,Nat.reduceSub,jE,bN,bX,dW,iJ,kP,bne_iff_ne,ne_eq,not_false_eq_true,not_true_eq_false,VX,Nat.reduceEqDiff,Nat.reduceAdd]
 refine EB (fun(i:Nat) ρ H=>i≤qs.length∧H=[cell0,.row 0 [cF (mK qs n i)] 3 true]∧ρ 1=VI n∧ρ 4 = .ptr 0 0 0 0∧ρ 5 = .ptr 1 0 0 0∧ρ 9=bT cF qs∧ρ 10=VI qs.length∧ρ 11=VI i) (fun i=>qs.length-i) 0 ⟨Nat.zero_le _,rfl,rfl,rfl,rfl,rfl,rfl,rfl⟩ ?_
 rintro i ρ H ⟨hi,rfl,g1,g4,g5,g9,g10,g11⟩
 by_cases cX:(i:Int)<(qs.length:Int)
 ·obtain⟨q,hq⟩:∃q,qs[i]? = some q:=⟨_,List.getElem?_eq_getElem (by omega)⟩
  have e2:=fun H=>aP (f:=cF) (t := .op) (H:=H) (size:=3) (k := .i64) hq rfl
  have wi:IntKind.i64.wrap ((i:Int)+1)=((i+1:Nat):Int):=wrapN (i+1) (by omega) (by omega)
  have h1:=AY hb hl hn i hi
  have h2:=hb q (List.mem_of_getElem? hq)
  obtain⟨h3,h4⟩:=A4 (i:=i) (by omega) n hn
  have h5:=BM q (((i:Int):Rat)^n)
  have e3:=nA (i:Int) (by omega) (by omega)
  have e4:=ET ((i:Int):Rat) n (by omega) (by omega)
  have e5:=AS q (((i:Int):Rat)^n) (by omega) (by omega)
  have e6:=Bo (mK qs n i) (q*((i:Int):Rat)^n) (by omega) (by omega)
  have e7:mK qs n i+q*((i:Int):Rat)^n=mK qs n (i+1):=by
   rw[mK,List.getD_eq_getElem?_getD,hq,Option.getD_some]
   rfl
  rw[e7] at e6
  simp only[uY,g1,g4,g5,g9,g10,g11,cX,e2,e3,e4,e5,e6,wi,aE,bJ,dM,aO,aN,aG,gG,Nat.reduceLeDiff,Nat.reduceLT,Nat.reduceSub,jE,bN,bX,dW,iJ,kP,bne_iff_ne,ne_eq,not_false_eq_true,not_true_eq_false,VX,Nat.reduceEqDiff,Nat.reduceAdd]
  refine⟨i+1,by omega,by rw[F5,F3,Ca],by omega,rfl,?_⟩
  simp only[dP,g1,g4,g5,g9,g10,pL (oN _),BQ (by decide:0<2),BQ (by decide:1<2),VX,Nat.reduceEqDiff,Nat.reduceAdd,List.take_zero,fL,List.all_nil,List.length_nil,dP,Ec,pL]
 ·have qW:i=qs.length:=by omega
  subst qW
  simp only[uY,g1,g4,g5,g9,g10,g11,cX,aE,bJ,dM,aO,aN,aG,gG,Nat.reduceLeDiff,Nat.reduceLT,Nat.reduceSub,jE,bN,bX,dW,iJ,kP,bne_iff_ne,ne_eq,not_false_eq_true,not_true_eq_false,VX,Nat.reduceEqDiff,Nat.reduceAdd]
  exact aI (eT _)
def JB (xs:List ByteArray) (n:Int):VV:=match pK xs with
 | some qs=>if 0≤n∧n≤10 then Ew (mK qs n.toNat qs.length) else .eK [aR [],VB false]
 | none => .eK [aR [],VB false]
theorem HP (xs:List ByteArray) (n:Int):gH (JB xs n)=true:=by
 unfold JB
 split
 ·split
  ·exact Ft _
  ·rfl
 ·rfl
theorem N3 (xs:List ByteArray) (n:Int):∃s k,JB xs n = .eK [aR s,VB k]:=by
 unfold JB
 split
 ·split
  ·exact FU _
  ·exact⟨_,_,rfl⟩
 ·exact⟨_,_,rfl⟩
theorem GU (xs:List ByteArray) (n:Int) (hn:xs.length≤1000000000) (hs:∀s∈xs,s.size≤1000000000):TC 47 [fT xs,VI n] (JB xs n):=by
 refine TC.walk ⟨true,false⟩ Hj rfl (Nat.le_of_ble_eq_true rfl) (by simp only[aK,dQ];rfl) (HP _ _) ?_
 have e1:=EI xs hn hs
 have e2:=Tq n 0 10
 unfold JB
 cases h:pK xs with
 |
  none =>
  rw[h,vD] at e1
  simp only[]
  simp only[rW,oG,e1,VX,Nat.reduceEqDiff,Nat.reduceAdd]
  exact aI rfl
 |
  some qs =>
  rw[h,Dn] at e1
  simp only[]
  by_cases hk:0≤n∧n≤10
  ·obtain⟨m,rfl⟩:∃m:Nat,n=m:=⟨n.toNat,by omega⟩
   rw[decide_eq_true hk] at e2
   rw[if_pos hk,Int.toNat_natCast]
   obtain⟨hb,hl,_⟩:=Db (JN h).1
   have e3:=JE qs m hb hl (by omega)
   have h3:=AY (n:=m) hb hl (by omega) qs.length (Nat.le_refl _)
   have e4:=Oc (mK qs m qs.length) (by omega)
   obtain⟨s,k,hsk⟩:=FU (mK qs m qs.length)
   rw[hsk] at e4 ⊢
   simp only[rW,oG,e1,e2,e3,e4,VX,Nat.reduceEqDiff,Nat.reduceAdd]
   exact aI rfl
  ·rw[decide_eq_false hk] at e2
   rw[if_neg hk]
   simp only[rW,oG,e1,e2,VX,Nat.reduceEqDiff,Nat.reduceAdd]
   exact aI rfl
theorem J0 (xs:List ByteArray) (hn:xs.length≤1000000000) (hs:∀s∈xs,s.size≤1000000000):TC 44 [fT xs] (JB xs 1):=by
 refine TC.walk ⟨true,false⟩ JF rfl (Nat.le_of_ble_eq_true rfl) (by simp only[aK,dQ];rfl) (HP _ _) ?_
 have e1:=GU xs 1 hn hs
 obtain⟨s,k,h⟩:=N3 xs 1
 rw[h] at e1 ⊢
 simp only[Gt,Cu,e1,VX,Nat.reduceEqDiff,Nat.reduceAdd]
 exact aI rfl
def ZJ (xs:List ByteArray):VV:=JB xs 1
theorem TQ (xs:List ByteArray):∃s k,ZJ xs = .eK [aR s,VB k]:=N3 xs 1
end Go.PM
namespace Go.PM
def rS:aF:=(LS [LO 2 (.mv (.const (.string ⟨#[]⟩))),LO 3 (.mv LF)] (LS [LM 7 0,LO 8 (.call 115 [(LT 7)]),LM 6 8,LO 9 (LX 6 0),LO 10 (LX 6 1),LM 4 9,LM 5 10] (.seq (LS [LM 11 5,LO 12 (.un .not (LT 11)),LM 13 12,LZ 13 14 (.mv (LT 4)),LZ 13 15 (.call 116 [(LT 14)]),LZ 13 16 (.un .not (LT 15)),LO 17 (.pick (LT 13) LG (LT 16))] (.cond (LT 17) (LS [LO 2 (.mv (.const (.string ⟨#[]⟩))),LO 3 (.mv LF)] .ret) .skip)) (LS [LM 18 4,LO 19 (.call 117 [(LT 18),(LI 1)]),LO 20 (.call 93 [(LT 19)]),LO 21 (LX 20 0),LO 22 (LX 20 1),LM 2 21,LM 3 22] .ret))))
def wX:aT:=⟨23,[(.tmp 2),(.tmp 3)],rS⟩
theorem JT:gZ 42=some wX:=by kernel_rfl
def Bx:aF:=(LS [LO 0 (.new [(.bool false),(.slice none 0 0),(.slice none 0 0)])] (LS [LO 1 (.call 166 [(LI 0)]),LN (.store 3 (LT 0) (LT 1))] .ret))
def EC:aT:=⟨2,[(.cell 0 true 3)],Bx⟩
theorem IF:gZ 136=some EC:=by kernel_rfl
def sA:aF:=(LS [LO 2 (.box (LT 0)),LO 3 (.box (LT 1)),LO 4 (.new [(.bool false),(.slice none 0 0),(.slice none 0 0)])] (LS [LO 8 (LA 1 2),LO 9 (LL 8),LO 10 (LA 2 3),LO 11 (LL 10),LO 12 (.call 162 [(LT 9),(LT 11)]),LM 5 12] (LS [LO 13 (LA 1 3),LO 14 (LL 13),LO 15 (LA 2 2),LO 16 (LL 15),LO 17 (.call 162 [(LT 14),(LT 16)]),LM 6 17] (LS [LO 18 (LA 2 2),LO 19 (LL 18),LO 20 (LA 2 3),LO 21 (LL 20),LO 22 (.call 162 [(LT 19),(LT 21)]),LM 7 22] (.seq (LS [LO 23 (LA 0 2),LO 24 (LL 23),LO 25 (LA 0 3),LO 26 (LL 25),LO 27 (.eqb false (LT 24) (LT 26))] (.cond (LT 27) (LS [LO 28 (LA 0 2),LO 29 (LL 28),LM 30 5,LM 31 6,LQ 32 (.call 177 [(LT 30),(LT 31)]),LM 33 7,LQ 34 (.call 164 [(LT 29),(LT 32),(LT 33)]),LN (.store 3 (LT 4) (LT 34))] .ret) .skip)) (.seq (LS [LM 35 5,LM 36 6,LO 37 (.call 178 [(LT 35),(LT 36)]),LO 38 (.bin .geq (LT 37) (LI 0))] (.cond (LT 38) (LS [LO 39 (LA 0 2),LO 40 (LL 39),LM 41 5,LM 42 6,LQ 43 (.call 179 [(LT 41),(LT 42)]),LM 44 7,LQ 45 (.call 164 [(LT 40),(LT 43),(LT 44)]),LN (.store 3 (LT 4) (LT 45))] .ret) .skip)) (LS [LO 46 (LA 0 3),LO 47 (LL 46),LM 48 6,LM 49 5,LQ 50 (.call 179 [(LT 48),(LT 49)]),LM 51 7,LQ 52 (.call 164 [(LT 47),(LT 50),(LT 51)]),LN (.store 3 (LT 4) (LT 52))] .ret)))))))
def wH:aT:=⟨53,[(.cell 4 true 3)],sA⟩
theorem J2:gZ 94=some wH:=by kernel_rfl
def Aj:aF:=(LS [LO 2 (.box (LT 0)),LO 3 (.box (LT 1)),LO 4 (.new [(.bool false),(.slice none 0 0),(.slice none 0 0)])] (LS [LO 5 (LA 0 2),LO 6 (LL 5),LO 7 (LA 0 3),LO 8 (LL 7),LO 9 (.eqb true (LT 6) (LT 8)),LO 10 (LA 1 2),LO 11 (LL 10),LO 12 (LA 1 3),LO 13 (LL 12),LQ 14 (.call 162 [(LT 11),(LT 13)]),LO 15 (LA 2 2),LO 16 (LL 15),LO 17 (LA 2 3),LO 18 (LL 17),LQ 19 (.call 162 [(LT 16),(LT 18)]),LQ 20 (.call 164 [(LT 9),(LT 14),(LT 19)]),LN (.store 3 (LT 4) (LT 20))] .ret))
def Cz:aT:=⟨21,[(.cell 4 true 3)],Aj⟩
theorem G5:gZ 137=some Cz:=by kernel_rfl
def xE:aF:=(LS [LO 2 (.new [(.bool false),(.slice none 0 0),(.slice none 0 0)])] (.seq (LS [LM 3 0,LO 4 (.bin .lss (LT 3) (LI 0))] (.cond (LT 4) (LS [LM 5 0,LO 6 (.un .neg (LT 5)),LO 7 (.call 161 [(LT 6)]),LO 8 (.lit [(.int .i64 0)] 1 [(0,(LI 1))]),LO 9 (.build [(.bool false),(.slice none 0 0),(.slice none 0 0)] [(0,1),(1,1),(2,1)] [(0,LG),(1,(LT 7)),(2,(LT 8))]),LN (.store 3 (LT 2) (LT 9))] .ret) .skip)) (LS [LM 10 0,LO 11 (.call 161 [(LT 10)]),LO 12 (.lit [(.int .i64 0)] 1 [(0,(LI 1))]),LO 13 (.build [(.bool false),(.slice none 0 0),(.slice none 0 0)] [(0,1),(1,1),(2,1)] [(1,(LT 11)),(2,(LT 12))]),LN (.store 3 (LT 2) (LT 13))] .ret)))
def A6:aT:=⟨14,[(.cell 2 true 3)],xE⟩
theorem Jr:gZ 166=some A6:=by kernel_rfl
def oC:aF:=(LS [LO 2 (.box (LT 0)),LO 3 (.box (LT 1)),LO 4 (.mv LF)] (LS [LO 5 (LA 0 2),LO 6 (LL 5),LO 7 (LA 0 3),LO 8 (LL 7),LO 9 (.eqb false (LT 6) (LT 8)),LM 10 9,LY 10 11 (LA 1 2),LY 10 12 (LL 11),LY 10 13 (LA 2 3),LY 10 14 (LL 13),⟨(some 15),(.call 162 [(LT 12),(LT 14)]),(some (10,true)),true,[]⟩,LY 10 16 (LA 1 3),LY 10 17 (LL 16),LY 10 18 (LA 2 2),LY 10 19 (LL 18),⟨(some 20),(.call 162 [(LT 17),(LT 19)]),(some (10,true)),true,[]⟩,⟨(some 21),(.call 178 [(LT 15),(LT 20)]),(some (10,true)),true,[]⟩,LY 10 22 (.bin .eql (LT 21) (LI 0)),LO 23 (.pick (LT 10) (LT 22) LF),LM 4 23] .ret))
def rU:aT:=⟨24,[(.tmp 4)],oC⟩
theorem G6:gZ 197=some rU:=by kernel_rfl
def oJ:aF:=(LS [LO 15 (.bin .lss (LT 14) (LT 13))] (.seq (.cond (LT 15) .skip (.exit 0)) (.seq (.block 1 (LS [LM 16 14,LM 5 16] (LS [LM 18 0,LM 19 5,LO 20 (.iaddr 1 (LT 18) (LT 19)),LO 21 (LL 20),LO 22 (.call 175 [(LT 21)]),LM 17 22,LO 23 (LX 17 0),LO 24 (LX 17 1),LO 6 (.new [(.bool false),(.slice none 0 0),(.slice none 0 0)]),LN (.store 3 (LT 6) (LT 23)),LM 7 24] (.seq (LS [LM 25 7,LO 26 (.un .not (LT 25))] (.cond (LT 26) (LS [LO 2 (.mv (.const (.slice none 0 0))),LO 3 (.mv LF)] .ret) .skip)) (.dU [LM 27 4,LO 28 (LK 6),LO 29 (.lit [(.bool false),(.slice none 0 0),(.slice none 0 0)] 1 [(0,(LT 28))]),LO 30 (.app 3 56 (LT 27) (LT 29)),LM 4 30]))))) (.dU [LO 31 (.bin .add (LT 14) (LI 1)),LM 14 31]))))
def vG:aF:=(LS [LO 2 (.mv (.const (.slice none 0 0))),LO 3 (.mv LF)] (.seq (LS [LM 8 0,LO 9 (.len (LT 8)),LO 10 (.bin .gtr (LT 9) (LI 300))] (.cond (LT 10) (LS [LO 2 (.mv (.const (.slice none 0 0))),LO 3 (.mv LF)] .ret) .skip)) (LS [LO 11 (.lit [(.bool false),(.slice none 0 0),(.slice none 0 0)] 0 []),LM 4 11] (.seq (LS [LM 12 0,LO 13 (.len (LT 12)),LO 14 (.mv (LI 0))] (.block 0 (.loop oJ))) (LS [LM 32 4,LM 2 32,LO 3 (.mv LG)] .ret)))))
def Ac:aT:=⟨33,[(.tmp 2),(.tmp 3)],vG⟩
theorem Jm:gZ 115=some Ac:=by kernel_rfl
def pX:aF:=(LS [LO 2 (.mv LF)] (LS [LM 3 0,LO 4 (.call 140 [(LT 3)]),LM 5 4,LY 5 6 (.mv (LT 0)),LY 5 7 (.call 142 [(LT 6)]),LY 5 8 (.call 124 []),LY 5 9 (.call 197 [(LT 7),(LT 8)]),LO 10 (.pick (LT 5) (LT 9) LF),LM 2 10] .ret))
def sP:aT:=⟨11,[(.tmp 2)],pX⟩
theorem Ek:gZ 116=some sP:=by kernel_rfl
def uN:aF:=(LS [LO 1 (.box (LT 0)),LO 2 (.mv (.const (.string ⟨#[]⟩))),LO 3 (.mv LF)] (.seq (LS [LO 4 (LK 1),LO 5 (.call 176 [(LT 4)]),LO 6 (.un .not (LT 5))] (.cond (LT 6) (LS [LO 2 (.mv (.const (.string ⟨#[]⟩))),LO 3 (.mv LF)] .ret) .skip)) (LS [LO 7 (LK 1),LO 8 (.call 163 [(LT 7)]),LM 2 8,LO 3 (.mv LG)] .ret)))
def zL:aT:=⟨9,[(.tmp 2),(.tmp 3)],uN⟩
theorem Hz:gZ 93=some zL:=by kernel_rfl
def qJ:aF:=(LS [LO 11 (.bin .lss (LT 10) (LT 9))] (.seq (.cond (LT 11) .skip (.exit 0)) (.seq (.block 1 (LS [LM 12 10,LM 6 12] (.dU [LO 13 (LK 5),LM 14 0,LM 15 6,LO 16 (.iaddr 3 (LT 14) (LT 15)),LO 17 (LK 16),LM 18 6,LQ 19 (.call 166 [(LT 18)]),LM 20 1,LQ 21 (.call 198 [(LT 19),(LT 20)]),LQ 22 (.call 137 [(LT 17),(LT 21)]),LQ 23 (.call 94 [(LT 13),(LT 22)]),LN (.store 3 (LT 5) (LT 23))]))) (.dU [LO 24 (.bin .add (LT 10) (LI 1)),LM 10 24]))))
def xR:aF:=(LS [LO 4 (.new [(.bool false),(.slice none 0 0),(.slice none 0 0)])] (LS [LO 7 (.call 136 []),LO 5 (.new [(.bool false),(.slice none 0 0),(.slice none 0 0)]),LN (.store 3 (LT 5) (LT 7))] (.seq (LS [LM 8 0,LO 9 (.len (LT 8)),LO 10 (.mv (LI 0))] (.block 0 (.loop qJ))) (LS [LO 25 (LK 5),LN (.store 3 (LT 4) (LT 25))] .ret))))
def Bi:aT:=⟨26,[(.cell 4 true 3)],xR⟩
theorem Fs:gZ 117=some Bi:=by kernel_rfl
def CS:aF:=(LS [LO 0 (.new [(.bool false),(.slice none 0 0),(.slice none 0 0)])] (LS [LO 1 (.call 166 [(LI 1)]),LN (.store 3 (LT 0) (LT 1))] .ret))
def GI:aT:=⟨2,[(.cell 0 true 3)],CS⟩
theorem Jx:gZ 124=some GI:=by kernel_rfl
def jT:aF:=(LS [LO 7 (.bin .lss (LT 6) (LT 5))] (.seq (.cond (LT 7) .skip (.exit 0)) (.seq (.block 1 (LS [LM 8 6,LM 3 8] (LS [LM 9 0,LM 10 3,LO 11 (.iaddr 3 (LT 9) (LT 10)),LO 12 (LA 0 11),LO 13 (LL 12)] (.cond (LT 13) (LS [LO 2 (.mv LF)] .ret) .skip)))) (.dU [LO 14 (.bin .add (LT 6) (LI 1)),LM 6 14]))))
def vA:aF:=(LS [LO 2 (.mv LF)] (.seq (LS [LM 4 0,LO 5 (.len (LT 4)),LO 6 (.mv (LI 0))] (.block 0 (.loop jT))) (LS [LO 2 (.mv LG)] .ret)))
def xS:aT:=⟨15,[(.tmp 2)],vA⟩
theorem Di:gZ 140=some xS:=by kernel_rfl
def rA:aF:=(LS [LO 9 (.bin .lss (LT 8) (LT 7))] (.seq (.cond (LT 9) .skip (.exit 0)) (.seq (.block 1 (LS [LM 10 8,LM 4 10] (.dU [LO 11 (LK 3),LM 12 0,LM 13 4,LO 14 (.iaddr 3 (LT 12) (LT 13)),LO 15 (LK 14),LQ 16 (.call 94 [(LT 11),(LT 15)]),LN (.store 3 (LT 3) (LT 16))]))) (.dU [LO 17 (.bin .add (LT 8) (LI 1)),LM 8 17]))))
def Ay:aF:=(LS [LO 2 (.new [(.bool false),(.slice none 0 0),(.slice none 0 0)])] (LS [LO 5 (.call 136 []),LO 3 (.new [(.bool false),(.slice none 0 0),(.slice none 0 0)]),LN (.store 3 (LT 3) (LT 5))] (.seq (LS [LM 6 0,LO 7 (.len (LT 6)),LO 8 (.mv (LI 0))] (.block 0 (.loop rA))) (LS [LO 18 (LK 3),LN (.store 3 (LT 2) (LT 18))] .ret))))
def Ct:aT:=⟨19,[(.cell 2 true 3)],Ay⟩
theorem GY:gZ 142=some Ct:=by kernel_rfl
def iQ:aF:=(LS [LO 6 (.new [(.bool false),(.slice none 0 0),(.slice none 0 0)])] (LS [LM 8 1,LM 9 2,LO 10 (.call 213 [(LT 8),(LT 9)]),LM 7 10] (.seq (LS [LM 11 7,LO 12 (.lit [(.int .i64 0)] 1 [(0,(LI 1))]),LO 13 (.call 178 [(LT 11),(LT 12)]),LO 14 (.bin .neq (LT 13) (LI 0))] (.cond (LT 14) (LS [LM 16 1,LM 17 7,LO 18 (.call 214 [(LT 16),(LT 17)]),LM 15 18,LO 19 (LX 15 0),LO 20 (LX 15 1),LM 1 19] (.dU [LM 22 2,LM 23 7,LO 24 (.call 214 [(LT 22),(LT 23)]),LM 21 24,LO 25 (LX 21 0),LO 26 (LX 21 1),LM 2 25])) .skip)) (LS [LM 27 0,LM 28 27,LY 28 29 (.mv (LT 1)),LY 28 30 (.len (LT 29)),LY 28 31 (.bin .gtr (LT 30) (LI 0)),LO 32 (.pick (LT 28) (LT 31) LF),LM 33 1,LM 34 2,LO 35 (.build [(.bool false),(.slice none 0 0),(.slice none 0 0)] [(0,1),(1,1),(2,1)] [(0,(LT 32)),(1,(LT 33)),(2,(LT 34))]),LN (.store 3 (LT 6) (LT 35))] .ret))))
def kX:aT:=⟨36,[(.cell 6 true 3)],iQ⟩
theorem H6:gZ 164=some kX:=by kernel_rfl
def mP:aF:=(.seq (LS [LM 19 5,LO 20 (.bin .geq (LT 19) (LI 0))] (.cond (LT 20) .skip (.exit 0))) (.seq (.block 1 (LS [LM 23 0,LM 24 5,LO 25 (.iaddr 1 (LT 23) (LT 24)),LO 26 (LL 25),LM 27 1,LM 28 5,LO 29 (.iaddr 1 (LT 27) (LT 28)),LO 30 (LL 29),LO 31 (.bin .neq (LT 26) (LT 30))] (.cond (LT 31) (.seq (LS [LM 32 0,LM 33 5,LO 34 (.iaddr 1 (LT 32) (LT 33)),LO 35 (LL 34),LM 36 1,LM 37 5,LO 38 (.iaddr 1 (LT 36) (LT 37)),LO 39 (LL 38),LO 40 (.bin .lss (LT 35) (LT 39))] (.cond (LT 40) (LS [LO 4 (.mv (LI (-1)))] .ret) .skip)) (LS [LO 4 (.mv (LI 1))] .ret)) .skip))) (.dU [LM 21 5,LO 22 (.bin .sub (LT 21) (LI 1)),LM 5 22])))
def rX:aF:=(LS [LO 4 (.mv (LI 0))] (.seq (LS [LM 6 0,LO 7 (.len (LT 6)),LM 8 1,LO 9 (.len (LT 8)),LO 10 (.bin .neq (LT 7) (LT 9))] (.cond (LT 10) (.seq (LS [LM 11 0,LO 12 (.len (LT 11)),LM 13 1,LO 14 (.len (LT 13)),LO 15 (.bin .lss (LT 12) (LT 14))] (.cond (LT 15) (LS [LO 4 (.mv (LI (-1)))] .ret) .skip)) (LS [LO 4 (.mv (LI 1))] .ret)) .skip)) (.seq (LS [LM 16 0,LO 17 (.len (LT 16)),LO 18 (.bin .sub (LT 17) (LI 1)),LM 5 18] (.block 0 (.loop mP))) (LS [LO 4 (.mv (LI 0))] .ret))))
def wP:aT:=⟨41,[(.tmp 4)],rX⟩
theorem JH:gZ 178=some wP:=by kernel_rfl
def qC:aF:=(LS [LO 24 (.bin .lss (LT 23) (LT 22))] (.seq (.cond (LT 24) .skip (.exit 2)) (.seq (.block 3 (LS [LM 25 23,LM 8 25] (LS [LM 26 5,LM 27 6,LM 28 8,LO 29 (.bin .add (LT 27) (LT 28)),LO 30 (.iaddr 1 (LT 26) (LT 29)),LO 31 (LL 30),LM 32 0,LM 33 6,LO 34 (.iaddr 1 (LT 32) (LT 33)),LO 35 (LL 34),LM 36 1,LM 37 8,LO 38 (.iaddr 1 (LT 36) (LT 37)),LO 39 (LL 38),LO 40 (.bin .mul (LT 35) (LT 39)),LO 41 (.bin .add (LT 31) (LT 40)),LM 42 7,LO 43 (.bin .add (LT 41) (LT 42)),LM 9 43] (LS [LM 44 5,LM 45 6,LM 46 8,LO 47 (.bin .add (LT 45) (LT 46)),LM 48 9,LO 49 (.bin .rem (LT 48) (LI 1000000000)),LO 50 (.iaddr 1 (LT 44) (LT 47)),LN (.store 1 (LT 50) (LT 49))] (.dU [LM 51 9,LO 52 (.bin .quo (LT 51) (LI 1000000000)),LM 7 52]))))) (.dU [LO 53 (.bin .add (LT 23) (LI 1)),LM 23 53]))))
def pM:aF:=(LS [LO 19 (.bin .lss (LT 18) (LT 17))] (.seq (.cond (LT 19) .skip (.exit 0)) (.seq (.block 1 (LS [LM 20 18,LM 6 20] (LS [LO 7 (.mv (LI 0))] (.seq (LS [LM 21 1,LO 22 (.len (LT 21)),LO 23 (.mv (LI 0))] (.block 2 (.loop qC))) (.dU [LM 54 5,LM 55 6,LM 56 1,LO 57 (.len (LT 56)),LO 58 (.bin .add (LT 55) (LT 57)),LO 59 (.iaddr 1 (LT 54) (LT 58)),LO 60 (LL 59),LM 61 7,LO 62 (.bin .add (LT 60) (LT 61)),LO 63 (.iaddr 1 (LT 54) (LT 58)),LN (.store 1 (LT 63) (LT 62))]))))) (.dU [LO 64 (.bin .add (LT 18) (LI 1)),LM 18 64]))))
def xT:aF:=(LS [LO 4 (.mv (.const (.slice none 0 0)))] (LS [LM 10 0,LO 11 (.len (LT 10)),LM 12 1,LO 13 (.len (LT 12)),LO 14 (.bin .add (LT 11) (LT 13)),LO 15 (.make [(.int .i64 0)] 8 (LT 14) (LT 14)),LM 5 15] (.seq (LS [LM 16 0,LO 17 (.len (LT 16)),LO 18 (.mv (LI 0))] (.block 0 (.loop pM))) (LS [LM 65 5,LO 66 (.call 211 [(LT 65)]),LM 4 66] .ret))))
def Bl:aT:=⟨67,[(.tmp 4)],xT⟩
theorem FI:gZ 162=some Bl:=by kernel_rfl
def jK:aF:=(.seq (LS [LM 10 7,LM 11 0,LO 12 (.len (LT 11)),LO 13 (.bin .lss (LT 10) (LT 12)),LM 14 13,LZ 14 15 (.mv (LT 7)),LZ 14 16 (.mv (LT 1)),LZ 14 17 (.len (LT 16)),LZ 14 18 (.bin .lss (LT 15) (LT 17)),LO 19 (.pick (LT 14) LG (LT 18)),LM 20 19,LZ 20 21 (.mv (LT 6)),LZ 20 22 (.bin .gtr (LT 21) (LI 0)),LO 23 (.pick (LT 20) LG (LT 22))] (.cond (LT 23) .skip (.exit 0))) (.seq (.block 1 (LS [LM 26 0,LM 27 7,LO 28 (.call 225 [(LT 26),(LT 27)]),LM 29 1,LM 30 7,LO 31 (.call 225 [(LT 29),(LT 30)]),LO 32 (.bin .add (LT 28) (LT 31)),LM 33 6,LO 34 (.bin .add (LT 32) (LT 33)),LM 8 34] (LS [LM 35 5,LM 36 8,LO 37 (.bin .rem (LT 36) (LI 1000000000)),LO 38 (.lit [(.int .i64 0)] 1 [(0,(LT 37))]),LO 39 (.app 1 8 (LT 35) (LT 38)),LM 5 39] (.dU [LM 40 8,LO 41 (.bin .quo (LT 40) (LI 1000000000)),LM 6 41])))) (.dU [LM 24 7,LO 25 (.bin .add (LT 24) (LI 1)),LM 7 25])))
def xO:aF:=(LS [LO 4 (.mv (.const (.slice none 0 0)))] (LS [LO 9 (.lit [(.int .i64 0)] 0 []),LM 5 9] (LS [LO 6 (.mv (LI 0))] (.seq (LS [LO 7 (.mv (LI 0))] (.block 0 (.loop jK))) (LS [LM 42 5,LM 4 42] .ret)))))
def AU:aT:=⟨43,[(.tmp 4)],xO⟩
theorem Fo:gZ 177=some AU:=by kernel_rfl
def kY:aF:=(LS [LO 13 (.bin .lss (LT 12) (LT 11))] (.seq (.cond (LT 13) .skip (.exit 0)) (.seq (.block 1 (LS [LM 14 12,LM 7 14] (LS [LM 15 0,LM 16 7,LO 17 (.iaddr 1 (LT 15) (LT 16)),LO 18 (LL 17),LM 19 1,LM 20 7,LQ 21 (.call 225 [(LT 19),(LT 20)]),LO 22 (.bin .sub (LT 18) (LT 21)),LM 23 6,LO 24 (.bin .sub (LT 22) (LT 23)),LM 8 24] (LS [LO 6 (.mv (LI 0))] (.seq (LS [LM 25 8,LO 26 (.bin .lss (LT 25) (LI 0))] (.cond (LT 26) (LS [LM 27 8,LO 28 (.bin .add (LT 27) (LI 1000000000)),LM 8 28] (.dU [LO 6 (.mv (LI 1))])) .skip)) (.dU [LM 29 5,LM 30 8,LO 31 (.lit [(.int .i64 0)] 1 [(0,(LT 30))]),LO 32 (.app 1 8 (LT 29) (LT 31)),LM 5 32])))))) (.dU [LO 33 (.bin .add (LT 12) (LI 1)),LM 12 33]))))
def xA:aF:=(LS [LO 4 (.mv (.const (.slice none 0 0)))] (LS [LO 9 (.lit [(.int .i64 0)] 0 []),LM 5 9] (LS [LO 6 (.mv (LI 0))] (.seq (LS [LM 10 0,LO 11 (.len (LT 10)),LO 12 (.mv (LI 0))] (.block 0 (.loop kY))) (LS [LM 34 5,LO 35 (.call 211 [(LT 34)]),LM 4 35] .ret)))))
def Ai:aT:=⟨36,[(.tmp 4)],xA⟩
theorem Eg:gZ 179=some Ai:=by kernel_rfl
def vY:aF:=(.seq (LS [LM 5 0,LO 6 (.bin .gtr (LT 5) (LI 0))] (.cond (LT 6) .skip (.exit 0))) (.block 1 (LS [LM 7 3,LM 8 0,LO 9 (.bin .rem (LT 8) (LI 1000000000)),LO 10 (.lit [(.int .i64 0)] 1 [(0,(LT 9))]),LO 11 (.app 1 8 (LT 7) (LT 10)),LM 3 11] (.dU [LM 12 0,LO 13 (.bin .quo (LT 12) (LI 1000000000)),LM 0 13]))))
def CO:aF:=(LS [LO 2 (.mv (.const (.slice none 0 0)))] (LS [LO 4 (.lit [(.int .i64 0)] 0 []),LM 3 4] (.seq (.block 0 (.loop vY)) (LS [LM 14 3,LM 2 14] .ret))))
def GC:aT:=⟨15,[(.tmp 2)],CO⟩
theorem JV:gZ 161=some GC:=by kernel_rfl
def aY:aF:=(LS [LO 2 (.new [(.bool false),(.slice none 0 0),(.slice none 0 0)]),LO 3 (.mv LF)] (LS [LM 8 0,LO 9 (.slen (LT 8)),LO 10 (.bin .gtr (LT 9) (LI 0)),LM 11 10,LY 11 12 (.mv (LT 0)),LY 11 13 (.sidx (LT 12) (LI 0)),LY 11 14 (.bin .eql (LT 13) (.const (.int .u8 45))),LO 15 (.pick (LT 11) (LT 14) LF),LM 4 15] (.seq (LS [LM 16 4] (.cond (LT 16) (.dU [LM 17 0,LO 18 (.ssub (LT 17) (some (LI 1)) none),LM 0 18]) .skip)) (LS [LM 19 0,LO 20 (.call 222 [(LT 19),(.const (.int .u8 47))]),LM 5 20] (.seq (LS [LM 21 5,LO 22 (.len (LT 21)),LO 23 (.bin .gtr (LT 22) (LI 2)),LM 24 23,LZ 24 25 (.mv (LT 5)),LZ 24 26 (.iaddr 1 (LT 25) (LI 0)),LZ 24 27 (LL 26),LZ 24 28 (.call 223 [(LT 27)]),LZ 24 29 (.un .not (LT 28)),LO 30 (.pick (LT 24) LG (LT 29))] (.cond (LT 30) (LS [LO 31 (.build [(.bool false),(.slice none 0 0),(.slice none 0 0)] [(0,1),(1,1),(2,1)] []),LN (.store 3 (LT 2) (LT 31)),LO 3 (.mv LF)] .ret) .skip)) (LS [LM 32 5,LO 33 (.iaddr 1 (LT 32) (LI 0)),LO 34 (LL 33),LO 35 (.call 224 [(LT 34)]),LM 6 35] (.seq (LS [LM 36 4,LM 37 36,LY 37 38 (.mv (LT 6)),LY 37 39 (.len (LT 38)),LY 37 40 (.bin .eql (LT 39) (LI 0)),LO 41 (.pick (LT 37) (LT 40) LF)] (.cond (LT 41) (LS [LO 42 (.build [(.bool false),(.slice none 0 0),(.slice none 0 0)] [(0,1),(1,1),(2,1)] []),LN (.store 3 (LT 2) (LT 42)),LO 3 (.mv LF)] .ret) .skip)) (.seq (LS [LM 43 5,LO 44 (.len (LT 43)),LO 45 (.bin .eql (LT 44) (LI 1))] (.cond (LT 45) (LS [LM 46 4,LM 47 6,LO 48 (.lit [(.int .i64 0)] 1 [(0,(LI 1))]),LO 49 (.build [(.bool false),(.slice none 0 0),(.slice none 0 0)] [(0,1),(1,1),(2,1)] [(0,(LT 46)),(1,(LT 47)),(2,(LT 48))]),LN (.store 3 (LT 2) (LT 49)),LO 3 (.mv LG)] .ret) .skip)) (.seq (LS [LM 50 5,LO 51 (.iaddr 1 (LT 50) (LI 1)),LO 52 (LL 51),LO 53 (.call 223 [(LT 52)]),LO 54 (.un .not (LT 53))] (.cond (LT 54) (LS [LO 55 (.build [(.bool false),(.slice none 0 0),(.slice none 0 0)] [(0,1),(1,1),(2,1)] []),LN (.store 3 (LT 2) (LT 55)),LO 3 (.mv LF)] .ret) .skip)) (LS [LM 56 5,LO 57 (.iaddr 1 (LT 56) (LI 1)),LO 58 (LL 57),LO 59 (.call 224 [(LT 58)]),LM 7 59] (.seq (LS [LM 60 7,LO 61 (.lit [(.int .i64 0)] 1 [(0,(LI 1))]),LO 62 (.call 178 [(LT 60),(LT 61)]),LO 63 (.bin .leq (LT 62) (LI 0)),LM 64 63,LZ 64 65 (.mv (LT 6)),LZ 64 66 (.mv (LT 7)),LZ 64 67 (.call 213 [(LT 65),(LT 66)]),LZ 64 68 (.lit [(.int .i64 0)] 1 [(0,(LI 1))]),LZ 64 69 (.call 178 [(LT 67),(LT 68)]),LZ 64 70 (.bin .neq (LT 69) (LI 0)),LO 71 (.pick (LT 64) LG (LT 70))] (.cond (LT 71) (LS [LO 72 (.build [(.bool false),(.slice none 0 0),(.slice none 0 0)] [(0,1),(1,1),(2,1)] []),LN (.store 3 (LT 2) (LT 72)),LO 3 (.mv LF)] .ret) .skip)) (LS [LM 73 4,LM 74 6,LM 75 7,LO 76 (.build [(.bool false),(.slice none 0 0),(.slice none 0 0)] [(0,1),(1,1),(2,1)] [(0,(LT 73)),(1,(LT 74)),(2,(LT 75))]),LN (.store 3 (LT 2) (LT 76)),LO 3 (.mv LG)] .ret))))))))))))
def bQ:aT:=⟨77,[(.cell 2 true 3),(.tmp 3)],aY⟩
theorem G1:gZ 175=some bQ:=by kernel_rfl
def vJ:aF:=(LS [LO 1 (.box (LT 0)),LO 2 (.mv LF)] (LS [LO 3 (LA 1 1),LO 4 (LL 3),LO 5 (.call 212 [(LT 4)]),LO 6 (.slen (LT 5)),LO 7 (.bin .leq (LT 6) (LI 200)),LM 8 7,LY 8 9 (LA 2 1),LY 8 10 (LL 9),LY 8 11 (.call 212 [(LT 10)]),LY 8 12 (.slen (LT 11)),LY 8 13 (.bin .leq (LT 12) (LI 200)),LO 14 (.pick (LT 8) (LT 13) LF),LM 2 14] .ret))
def zY:aT:=⟨15,[(.tmp 2)],vJ⟩
theorem IQ:gZ 176=some zY:=by kernel_rfl
def uZ:aF:=(LS [LO 1 (.box (LT 0)),LO 2 (.mv (.const (.string ⟨#[]⟩)))] (LS [LO 4 (LA 1 1),LO 5 (LL 4),LO 6 (.call 212 [(LT 5)]),LM 3 6] (.seq (LS [LO 7 (LA 0 1),LO 8 (LL 7)] (.cond (LT 8) (.dU [LM 9 3,LO 10 (.bin .add (.const (.string ⟨#[45]⟩)) (LT 9)),LM 3 10]) .skip)) (.seq (LS [LO 11 (LA 2 1),LO 12 (LL 11),LO 13 (.lit [(.int .i64 0)] 1 [(0,(LI 1))]),LO 14 (.call 178 [(LT 12),(LT 13)]),LO 15 (.bin .neq (LT 14) (LI 0))] (.cond (LT 15) (.dU [LM 16 3,LO 17 (LA 2 1),LO 18 (LL 17),LO 19 (.call 212 [(LT 18)]),LO 20 (.bin .add (.const (.string ⟨#[47]⟩)) (LT 19)),LO 21 (.bin .add (LT 16) (LT 20)),LM 3 21]) .skip)) (LS [LM 22 3,LM 2 22] .ret)))))
def zR:aT:=⟨23,[(.tmp 2)],uZ⟩
theorem Ij:gZ 163=some zR:=by kernel_rfl
def rB:aF:=(.seq (LS [LM 7 1,LO 8 (.bin .gtr (LT 7) (LI 0))] (.cond (LT 8) .skip (.exit 0))) (.seq (.block 1 (.dU [LO 11 (LK 5),LO 12 (LK 2),LO 13 (.call 137 [(LT 11),(LT 12)]),LN (.store 3 (LT 5) (LT 13))])) (.dU [LM 9 1,LO 10 (.bin .sub (LT 9) (LI 1)),LM 1 10])))
def Am:aF:=(LS [LO 2 (.box (LT 0)),LO 4 (.new [(.bool false),(.slice none 0 0),(.slice none 0 0)])] (LS [LO 6 (.call 124 []),LO 5 (.new [(.bool false),(.slice none 0 0),(.slice none 0 0)]),LN (.store 3 (LT 5) (LT 6))] (.seq (.block 0 (.loop rB)) (LS [LO 14 (LK 5),LN (.store 3 (LT 4) (LT 14))] .ret))))
def Cr:aT:=⟨15,[(.cell 4 true 3)],Am⟩
theorem G0:gZ 198=some Cr:=by kernel_rfl
def vW:aF:=(.seq (LS [LM 7 1,LO 8 (.len (LT 7)),LO 9 (.bin .gtr (LT 8) (LI 0))] (.cond (LT 9) .skip (.exit 0))) (.block 1 (LS [LM 11 0,LM 12 1,LO 13 (.call 214 [(LT 11),(LT 12)]),LM 10 13,LO 14 (LX 10 0),LO 15 (LX 10 1),LM 5 14,LM 6 15] (LS [LM 16 1,LM 0 16] (.dU [LM 17 6,LM 1 17])))))
def CT:aF:=(LS [LO 4 (.mv (.const (.slice none 0 0)))] (.seq (.block 0 (.loop vW)) (LS [LM 18 0,LM 4 18] .ret)))
def Ge:aT:=⟨19,[(.tmp 4)],CT⟩
theorem Jv:gZ 213=some Ge:=by kernel_rfl
def fF:aF:=(.seq (LS [LM 132 19,LO 133 (.bin .geq (LT 132) (LI 1000000000)),LM 134 133,LZ 134 135 (.mv (LT 19)),LZ 134 136 (.mv (LT 14)),LZ 134 137 (.mv (LT 15)),LZ 134 138 (.bin .sub (LT 137) (LI 2)),LZ 134 139 (.iaddr 1 (LT 136) (LT 138)),LZ 134 140 (LL 139),LZ 134 141 (.bin .mul (LT 135) (LT 140)),LZ 134 142 (.mv (LT 20)),LZ 134 143 (.bin .mul (LT 142) (LI 1000000000)),LZ 134 144 (.mv (LT 13)),LZ 134 145 (.mv (LT 17)),LZ 134 146 (.mv (LT 15)),LZ 134 147 (.bin .add (LT 145) (LT 146)),LZ 134 148 (.bin .sub (LT 147) (LI 2)),LZ 134 149 (.iaddr 1 (LT 144) (LT 148)),LZ 134 150 (LL 149),LZ 134 151 (.bin .add (LT 143) (LT 150)),LZ 134 152 (.bin .gtr (LT 141) (LT 151)),LO 153 (.pick (LT 134) LG (LT 152))] (.cond (LT 153) .skip (.exit 2))) (.block 3 (LS [LM 154 19,LO 155 (.bin .sub (LT 154) (LI 1)),LM 19 155] (LS [LM 156 20,LM 157 14,LM 158 15,LO 159 (.bin .sub (LT 158) (LI 1)),LO 160 (.iaddr 1 (LT 157) (LT 159)),LO 161 (LL 160),LO 162 (.bin .add (LT 156) (LT 161)),LM 20 162] (LS [LM 163 20,LO 164 (.bin .geq (LT 163) (LI 1000000000))] (.cond (LT 164) (.exit 2) .skip))))))
def gP:aF:=(.seq (LS [LM 99 17,LO 100 (.bin .geq (LT 99) (LI 0))] (.cond (LT 100) .skip (.exit 0))) (.seq (.block 1 (LS [LM 103 13,LM 104 17,LM 105 15,LO 106 (.bin .add (LT 104) (LT 105)),LO 107 (.iaddr 1 (LT 103) (LT 106)),LO 108 (LL 107),LO 109 (.bin .mul (LT 108) (LI 1000000000)),LM 110 13,LM 111 17,LM 112 15,LO 113 (.bin .add (LT 111) (LT 112)),LO 114 (.bin .sub (LT 113) (LI 1)),LO 115 (.iaddr 1 (LT 110) (LT 114)),LO 116 (LL 115),LO 117 (.bin .add (LT 109) (LT 116)),LM 18 117] (LS [LM 118 18,LM 119 14,LM 120 15,LO 121 (.bin .sub (LT 120) (LI 1)),LO 122 (.iaddr 1 (LT 119) (LT 121)),LO 123 (LL 122),LO 124 (.bin .quo (LT 118) (LT 123)),LM 125 18,LM 126 14,LM 127 15,LO 128 (.bin .sub (LT 127) (LI 1)),LO 129 (.iaddr 1 (LT 126) (LT 128)),LO 130 (LL 129),LO 131 (.bin .rem (LT 125) (LT 130)),LM 19 124,LM 20 131] (.seq (.block 2 (.loop fF)) (.seq (LS [LM 165 13,LM 166 14,LM 167 17,LM 168 19,LO 169 (.call 239 [(LT 165),(LT 166),(LT 167),(LT 168)])] (.cond (LT 169) (LS [LM 170 19,LO 171 (.bin .sub (LT 170) (LI 1)),LM 19 171] (.dU [LM 172 13,LM 173 14,LM 174 17,LO 175 (.call 240 [(LT 172),(LT 173),(LT 174)])])) .skip)) (.dU [LM 176 16,LM 177 17,LM 178 19,LO 179 (.iaddr 1 (LT 176) (LT 177)),LN (.store 1 (LT 179) (LT 178))])))))) (.dU [LM 101 17,LO 102 (.bin .sub (LT 101) (LI 1)),LM 17 102])))
def cT:aF:=(LS [LO 4 (.mv (.const (.slice none 0 0))),LO 5 (.mv (.const (.slice none 0 0)))] (LS [LM 24 0,LO 25 (.call 236 [(LT 24)]),LM 23 25,LO 26 (LX 23 0),LO 27 (LX 23 1),LM 6 26,LM 7 27] (LS [LM 29 1,LO 30 (.call 236 [(LT 29)]),LM 28 30,LO 31 (LX 28 0),LO 32 (LX 28 1),LM 8 31,LM 9 32] (.seq (LS [LM 33 7,LM 34 33,LY 34 35 (.mv (LT 9)),LO 36 (.pick (LT 34) (LT 35) LF)] (.cond (LT 36) (LS [LM 37 6,LM 38 8,LO 39 (.bin .quo (LT 37) (LT 38)),LQ 40 (.call 161 [(LT 39)]),LM 41 6,LM 42 8,LO 43 (.bin .rem (LT 41) (LT 42)),LQ 44 (.call 161 [(LT 43)]),LM 4 40,LM 5 44] .ret) .skip)) (.seq (LS [LM 45 0,LM 46 1,LO 47 (.call 178 [(LT 45),(LT 46)]),LO 48 (.bin .lss (LT 47) (LI 0))] (.cond (LT 48) (LS [LO 49 (.lit [(.int .i64 0)] 0 []),LO 50 (.lit [(.int .i64 0)] 0 []),LM 51 0,LO 52 (.app 1 8 (LT 50) (LT 51)),LM 4 49,LM 5 52] .ret) .skip)) (.seq (LS [LM 53 1,LO 54 (.len (LT 53)),LO 55 (.bin .eql (LT 54) (LI 1))] (.cond (LT 55) (LS [LM 57 0,LM 58 1,LO 59 (.iaddr 1 (LT 58) (LI 0)),LO 60 (LL 59),LO 61 (.call 237 [(LT 57),(LT 60)]),LM 56 61,LO 62 (LX 56 0),LO 63 (LX 56 1),LM 10 62,LM 11 63] (LS [LM 64 10,LM 65 11,LO 66 (.call 161 [(LT 65)]),LM 4 64,LM 5 66] .ret)) .skip)) (LS [LM 67 1,LM 68 1,LO 69 (.len (LT 68)),LO 70 (.bin .sub (LT 69) (LI 1)),LO 71 (.iaddr 1 (LT 67) (LT 70)),LO 72 (LL 71),LO 73 (.bin .add (LT 72) (LI 1)),LO 74 (.bin .quo (LI 1000000000) (LT 73)),LM 12 74] (LS [LM 75 0,LO 76 (.len (LT 75)),LO 77 (.bin .add (LT 76) (LI 1)),LO 78 (.make [(.int .i64 0)] 8 (LT 77) (LT 77)),LM 13 78] (LS [LM 79 13,LM 80 0,LM 81 12,LO 82 (.call 238 [(LT 80),(LT 81)]),LO 83 (.copy 1 (LT 79) (LT 82))] (LS [LM 84 1,LM 85 12,LO 86 (.call 238 [(LT 84),(LT 85)]),LM 14 86] (LS [LM 87 14,LO 88 (.len (LT 87)),LM 15 88] (LS [LM 89 13,LO 90 (.len (LT 89)),LM 91 15,LO 92 (.bin .sub (LT 90) (LT 91)),LO 93 (.make [(.int .i64 0)] 8 (LT 92) (LT 92)),LM 16 93] (.seq (LS [LM 94 13,LO 95 (.len (LT 94)),LM 96 15,LO 97 (.bin .sub (LT 95) (LT 96)),LO 98 (.bin .sub (LT 97) (LI 1)),LM 17 98] (.block 0 (.loop gP))) (LS [LM 181 13,LO 182 (.call 211 [(LT 181)]),LM 183 12,LO 184 (.call 237 [(LT 182),(LT 183)]),LM 180 184,LO 185 (LX 180 0),LO 186 (LX 180 1),LM 21 185,LM 22 186] (LS [LM 187 16,LO 188 (.call 211 [(LT 187)]),LM 189 21,LM 4 188,LM 5 189] .ret)))))))))))))))
def dV:aT:=⟨190,[(.tmp 4),(.tmp 5)],cT⟩
theorem EY:gZ 214=some dV:=by kernel_rfl
def oK:aF:=(.seq (LS [LM 3 0,LO 4 (.len (LT 3)),LO 5 (.bin .gtr (LT 4) (LI 0)),LM 6 5,LY 6 7 (.mv (LT 0)),LY 6 8 (.mv (LT 0)),LY 6 9 (.len (LT 8)),LY 6 10 (.bin .sub (LT 9) (LI 1)),LY 6 11 (.iaddr 1 (LT 7) (LT 10)),LY 6 12 (LL 11),LY 6 13 (.bin .eql (LT 12) (LI 0)),LO 14 (.pick (LT 6) (LT 13) LF)] (.cond (LT 14) .skip (.exit 0))) (.block 1 (.dU [LM 15 0,LM 16 0,LO 17 (.len (LT 16)),LO 18 (.bin .sub (LT 17) (LI 1)),LO 19 (.sub 1 (LT 15) none (some (LT 18)) none),LM 0 19])))
def Bk:aF:=(LS [LO 2 (.mv (.const (.slice none 0 0)))] (.seq (.block 0 (.loop oK)) (LS [LM 20 0,LM 2 20] .ret)))
def Ef:aT:=⟨21,[(.tmp 2)],Bk⟩
theorem Im:gZ 211=some Ef:=by kernel_rfl
def sQ:aF:=(LS [LO 4 (.mv (LI 0))] (.seq (LS [LM 5 1,LM 6 0,LO 7 (.len (LT 6)),LO 8 (.bin .lss (LT 5) (LT 7))] (.cond (LT 8) (LS [LM 9 0,LM 10 1,LO 11 (.iaddr 1 (LT 9) (LT 10)),LO 12 (LL 11),LM 4 12] .ret) .skip)) (LS [LO 4 (.mv (LI 0))] .ret)))
def xI:aT:=⟨13,[(.tmp 4)],sQ⟩
theorem He:gZ 225=some xI:=by kernel_rfl
def mO:aF:=(.seq (LS [LM 9 7,LM 10 0,LO 11 (.slen (LT 10)),LO 12 (.bin .leq (LT 9) (LT 11))] (.cond (LT 12) .skip (.exit 0))) (.seq (.block 1 (LS [LM 15 7,LM 16 0,LO 17 (.slen (LT 16)),LO 18 (.bin .eql (LT 15) (LT 17)),LM 19 18,LZ 19 20 (.mv (LT 0)),LZ 19 21 (.mv (LT 7)),LZ 19 22 (.sidx (LT 20) (LT 21)),LZ 19 23 (.mv (LT 1)),LZ 19 24 (.bin .eql (LT 22) (LT 23)),LO 25 (.pick (LT 19) LG (LT 24))] (.cond (LT 25) (LS [LM 26 5,LM 27 0,LM 28 6,LM 29 7,LO 30 (.ssub (LT 27) (some (LT 28)) (some (LT 29))),LO 31 (.lit [(.string ⟨#[]⟩)] 1 [(0,(LT 30))]),LO 32 (.app 1 16 (LT 26) (LT 31)),LM 5 32] (.dU [LM 33 7,LO 34 (.bin .add (LT 33) (LI 1)),LM 6 34])) .skip))) (.dU [LM 13 7,LO 14 (.bin .add (LT 13) (LI 1)),LM 7 14])))
def Cs:aF:=(LS [LO 4 (.mv (.const (.slice none 0 0)))] (LS [LO 8 (.lit [(.string ⟨#[]⟩)] 0 []),LM 5 8] (LS [LO 6 (.mv (LI 0))] (.seq (LS [LO 7 (.mv (LI 0))] (.block 0 (.loop mO))) (LS [LM 35 5,LM 4 35] .ret)))))
def Gy:aT:=⟨36,[(.tmp 4)],Cs⟩
theorem JR:gZ 222=some Gy:=by kernel_rfl
def cW:aF:=(.seq (LS [LM 4 3,LM 5 0,LO 6 (.slen (LT 5)),LO 7 (.bin .lss (LT 4) (LT 6))] (.cond (LT 7) .skip (.exit 0))) (.seq (.block 1 (LS [LM 10 0,LM 11 3,LO 12 (.sidx (LT 10) (LT 11)),LO 13 (.bin .lss (LT 12) (.const (.int .u8 48))),LM 14 13,LZ 14 15 (.mv (LT 0)),LZ 14 16 (.mv (LT 3)),LZ 14 17 (.sidx (LT 15) (LT 16)),LZ 14 18 (.bin .gtr (LT 17) (.const (.int .u8 57))),LO 19 (.pick (LT 14) LG (LT 18))] (.cond (LT 19) (LS [LO 2 (.mv LF)] .ret) .skip))) (.dU [LM 8 3,LO 9 (.bin .add (LT 8) (LI 1)),LM 3 9])))
def xW:aF:=(LS [LO 2 (.mv LF)] (.seq (LS [LO 3 (.mv (LI 0))] (.block 0 (.loop cW))) (LS [LM 20 0,LO 21 (.slen (LT 20)),LO 22 (.bin .geq (LT 21) (LI 1)),LM 23 22,LY 23 24 (.mv (LT 0)),LY 23 25 (.slen (LT 24)),LY 23 26 (.bin .leq (LT 25) (LI 200)),LO 27 (.pick (LT 23) (LT 26) LF),LM 28 27,LY 28 29 (.mv (LT 0)),LY 28 30 (.slen (LT 29)),LY 28 31 (.bin .eql (LT 30) (LI 1)),LY 28 32 (.mv (LT 31)),LZ 32 33 (.mv (LT 0)),LZ 32 34 (.sidx (LT 33) (LI 0)),LZ 32 35 (.bin .neq (LT 34) (.const (.int .u8 48))),LY 28 36 (.pick (LT 32) LG (LT 35)),LO 37 (.pick (LT 28) (LT 36) LF),LM 2 37] .ret)))
def AQ:aT:=⟨38,[(.tmp 2)],xW⟩
theorem FR:gZ 223=some AQ:=by kernel_rfl
def kS:aF:=(.seq (LS [LM 20 7,LM 21 4,LO 22 (.bin .lss (LT 20) (LT 21))] (.cond (LT 22) .skip (.exit 2))) (.seq (.block 3 (.dU [LM 25 6,LO 26 (.bin .mul (LI 10) (LT 25)),LM 27 0,LM 28 7,LO 29 (.sidx (LT 27) (LT 28)),LO 30 (.bin .sub (LT 29) (.const (.int .u8 48))),LO 31 (.cvt .i64 (LT 30)),LO 32 (.bin .add (LT 26) (LT 31)),LM 6 32])) (.dU [LM 23 7,LO 24 (.bin .add (LT 23) (LI 1)),LM 7 24])))
def lA:aF:=(.seq (LS [LM 11 4,LO 12 (.bin .gtr (LT 11) (LI 0))] (.cond (LT 12) .skip (.exit 0))) (.seq (.block 1 (LS [LO 5 (.mv (LI 0))] (.seq (LS [LM 15 4,LO 16 (.bin .gtr (LT 15) (LI 9))] (.cond (LT 16) (.dU [LM 17 4,LO 18 (.bin .sub (LT 17) (LI 9)),LM 5 18]) .skip)) (LS [LO 6 (.mv (LI 0))] (.seq (LS [LM 19 5,LM 7 19] (.block 2 (.loop kS))) (.dU [LM 33 3,LM 34 6,LO 35 (.lit [(.int .i64 0)] 1 [(0,(LT 34))]),LO 36 (.app 1 8 (LT 33) (LT 35)),LM 3 36])))))) (.dU [LM 13 4,LO 14 (.bin .sub (LT 13) (LI 9)),LM 4 14])))
def wW:aF:=(LS [LO 2 (.mv (.const (.slice none 0 0)))] (LS [LO 8 (.lit [(.int .i64 0)] 0 []),LM 3 8] (.seq (LS [LM 9 0,LO 10 (.slen (LT 9)),LM 4 10] (.block 0 (.loop lA))) (LS [LM 37 3,LO 38 (.call 211 [(LT 37)]),LM 2 38] .ret))))
def Ae:aT:=⟨39,[(.tmp 2)],wW⟩
theorem Eu:gZ 224=some Ae:=by kernel_rfl
def oR:aF:=(.seq (LS [LM 19 4,LO 20 (.bin .geq (LT 19) (LI 0))] (.cond (LT 20) .skip (.exit 0))) (.seq (.block 1 (LS [LM 23 0,LM 24 4,LO 25 (.iaddr 1 (LT 23) (LT 24)),LO 26 (LL 25),LO 27 (.bin .add (LT 26) (LI 1000000000)),LO 28 (.call 235 [(LT 27)]),LM 5 28] (.dU [LM 29 3,LM 30 5,LO 31 (.ssub (LT 30) (some (LI 1)) none),LO 32 (.bin .add (LT 29) (LT 31)),LM 3 32]))) (.dU [LM 21 4,LO 22 (.bin .sub (LT 21) (LI 1)),LM 4 22])))
def pV:aF:=(LS [LO 2 (.mv (.const (.string ⟨#[]⟩)))] (.seq (LS [LM 6 0,LO 7 (.len (LT 6)),LO 8 (.bin .eql (LT 7) (LI 0))] (.cond (LT 8) (LS [LO 2 (.mv (.const (.string ⟨#[48]⟩)))] .ret) .skip)) (LS [LM 9 0,LM 10 0,LO 11 (.len (LT 10)),LO 12 (.bin .sub (LT 11) (LI 1)),LO 13 (.iaddr 1 (LT 9) (LT 12)),LO 14 (LL 13),LO 15 (.call 235 [(LT 14)]),LM 3 15] (.seq (LS [LM 16 0,LO 17 (.len (LT 16)),LO 18 (.bin .sub (LT 17) (LI 2)),LM 4 18] (.block 0 (.loop oR))) (LS [LM 33 3,LM 2 33] .ret)))))
def sR:aT:=⟨34,[(.tmp 2)],pV⟩
theorem D7:gZ 212=some sR:=by kernel_rfl
def sT:aF:=(LS [LO 2 (.mv (LI 0)),LO 3 (.mv LF)] (.seq (LS [LM 4 0,LO 5 (.len (LT 4)),LO 6 (.bin .gtr (LT 5) (LI 2))] (.cond (LT 6) (LS [LO 2 (.mv (LI 0)),LO 3 (.mv LF)] .ret) .skip)) (LS [LM 7 0,LO 8 (.call 225 [(LT 7),(LI 0)]),LM 9 0,LO 10 (.call 225 [(LT 9),(LI 1)]),LO 11 (.bin .mul (LI 1000000000) (LT 10)),LO 12 (.bin .add (LT 8) (LT 11)),LM 2 12,LO 3 (.mv LG)] .ret)))
def xH:aT:=⟨13,[(.tmp 2),(.tmp 3)],sT⟩
theorem G8:gZ 236=some xH:=by kernel_rfl
def nO:aF:=(.seq (LS [LM 16 8,LO 17 (.bin .geq (LT 16) (LI 0))] (.cond (LT 17) .skip (.exit 0))) (.seq (.block 1 (LS [LM 20 7,LO 21 (.bin .mul (LT 20) (LI 1000000000)),LM 22 0,LM 23 8,LO 24 (.iaddr 1 (LT 22) (LT 23)),LO 25 (LL 24),LO 26 (.bin .add (LT 21) (LT 25)),LM 9 26] (LS [LM 27 6,LM 28 8,LM 29 9,LM 30 1,LO 31 (.bin .quo (LT 29) (LT 30)),LO 32 (.iaddr 1 (LT 27) (LT 28)),LN (.store 1 (LT 32) (LT 31))] (.dU [LM 33 9,LM 34 1,LO 35 (.bin .rem (LT 33) (LT 34)),LM 7 35])))) (.dU [LM 18 8,LO 19 (.bin .sub (LT 18) (LI 1)),LM 8 19])))
def vV:aF:=(LS [LO 4 (.mv (.const (.slice none 0 0))),LO 5 (.mv (LI 0))] (LS [LM 10 0,LO 11 (.len (LT 10)),LO 12 (.make [(.int .i64 0)] 8 (LT 11) (LT 11)),LM 6 12] (LS [LO 7 (.mv (LI 0))] (.seq (LS [LM 13 0,LO 14 (.len (LT 13)),LO 15 (.bin .sub (LT 14) (LI 1)),LM 8 15] (.block 0 (.loop nO))) (LS [LM 36 6,LO 37 (.call 211 [(LT 36)]),LM 38 7,LM 4 37,LM 5 38] .ret)))))
def xX:aT:=⟨39,[(.tmp 4),(.tmp 5)],vV⟩
theorem Df:gZ 237=some xX:=by kernel_rfl
def jU:aF:=(LS [LO 17 (.bin .lss (LT 16) (LT 15))] (.seq (.cond (LT 17) .skip (.exit 0)) (.seq (.block 1 (LS [LO 18 (.iaddr 1 (LT 14) (LT 16)),LO 19 (LL 18),LM 8 19] (LS [LM 20 8,LM 21 1,LO 22 (.bin .mul (LT 20) (LT 21)),LM 23 6,LO 24 (.bin .add (LT 22) (LT 23)),LM 9 24] (LS [LM 25 5,LM 26 9,LO 27 (.bin .rem (LT 26) (LI 1000000000)),LO 28 (.lit [(.int .i64 0)] 1 [(0,(LT 27))]),LO 29 (.app 1 8 (LT 25) (LT 28)),LM 5 29] (.dU [LM 30 9,LO 31 (.bin .quo (LT 30) (LI 1000000000)),LM 6 31]))))) (.dU [LO 32 (.bin .add (LT 16) (LI 1)),LM 16 32]))))
def vX:aF:=(LS [LO 4 (.mv (.const (.slice none 0 0)))] (LS [LM 10 0,LO 11 (.len (LT 10)),LO 12 (.bin .add (LT 11) (LI 1)),LO 13 (.make [(.int .i64 0)] 8 (LI 0) (LT 12)),LM 5 13] (LS [LO 6 (.mv (LI 0))] (.seq (LS [LM 14 0,LO 15 (.len (LT 14)),LO 16 (.mv (LI 0))] (.block 0 (.loop jU))) (.seq (LS [LM 33 6,LO 34 (.bin .gtr (LT 33) (LI 0))] (.cond (LT 34) (.dU [LM 35 5,LM 36 6,LO 37 (.lit [(.int .i64 0)] 1 [(0,(LT 36))]),LO 38 (.app 1 8 (LT 35) (LT 37)),LM 5 38]) .skip)) (LS [LM 39 5,LM 4 39] .ret))))))
def yG:aT:=⟨40,[(.tmp 4)],vX⟩
theorem C5:gZ 238=some yG:=by kernel_rfl
def iR:aF:=(LS [LO 16 (.bin .lss (LT 15) (LT 14))] (.seq (.cond (LT 16) .skip (.exit 0)) (.seq (.block 1 (LS [LM 17 15,LO 18 (.iaddr 1 (LT 13) (LT 15)),LO 19 (LL 18),LM 10 17,LM 11 19] (LS [LM 20 0,LM 21 2,LM 22 10,LO 23 (.bin .add (LT 21) (LT 22)),LO 24 (.iaddr 1 (LT 20) (LT 23)),LO 25 (LL 24),LM 26 11,LM 27 3,LO 28 (.bin .mul (LT 26) (LT 27)),LO 29 (.bin .rem (LT 28) (LI 1000000000)),LO 30 (.bin .sub (LT 25) (LT 29)),LM 31 9,LO 32 (.bin .sub (LT 30) (LT 31)),LM 12 32] (LS [LM 33 11,LM 34 3,LO 35 (.bin .mul (LT 33) (LT 34)),LO 36 (.bin .quo (LT 35) (LI 1000000000)),LM 9 36] (.seq (LS [LM 37 12,LO 38 (.bin .lss (LT 37) (LI 0))] (.cond (LT 38) (LS [LM 39 12,LO 40 (.bin .add (LT 39) (LI 1000000000)),LM 12 40] (LS [LM 41 9,LO 42 (.bin .add (LT 41) (LI 1)),LM 9 42] (LS [LM 43 12,LO 44 (.bin .lss (LT 43) (LI 0))] (.cond (LT 44) (LS [LM 45 12,LO 46 (.bin .add (LT 45) (LI 1000000000)),LM 12 46] (.dU [LM 47 9,LO 48 (.bin .add (LT 47) (LI 1)),LM 9 48])) .skip)))) .skip)) (.dU [LM 49 0,LM 50 2,LM 51 10,LO 52 (.bin .add (LT 50) (LT 51)),LM 53 12,LO 54 (.iaddr 1 (LT 49) (LT 52)),LN (.store 1 (LT 54) (LT 53))])))))) (.dU [LO 55 (.bin .add (LT 15) (LI 1)),LM 15 55]))))
def wI:aF:=(LS [LO 8 (.mv LF)] (LS [LO 9 (.mv (LI 0))] (.seq (LS [LM 13 1,LO 14 (.len (LT 13)),LO 15 (.mv (LI 0))] (.block 0 (.loop iR))) (LS [LM 56 0,LM 57 2,LM 58 1,LO 59 (.len (LT 58)),LO 60 (.bin .add (LT 57) (LT 59)),LO 61 (.iaddr 1 (LT 56) (LT 60)),LO 62 (LL 61),LM 63 9,LO 64 (.bin .sub (LT 62) (LT 63)),LO 65 (.iaddr 1 (LT 56) (LT 60)),LN (.store 1 (LT 65) (LT 64))] (LS [LM 66 0,LM 67 2,LM 68 1,LO 69 (.len (LT 68)),LO 70 (.bin .add (LT 67) (LT 69)),LO 71 (.iaddr 1 (LT 66) (LT 70)),LO 72 (LL 71),LO 73 (.bin .lss (LT 72) (LI 0)),LM 8 73] .ret)))))
def Ar:aT:=⟨74,[(.tmp 8)],wI⟩
theorem DW:gZ 239=some Ar:=by kernel_rfl
def oT:aF:=(LS [LO 13 (.bin .lss (LT 12) (LT 11))] (.seq (.cond (LT 13) .skip (.exit 0)) (.seq (.block 1 (LS [LM 14 12,LO 15 (.iaddr 1 (LT 10) (LT 12)),LO 16 (LL 15),LM 7 14,LM 8 16] (LS [LM 17 0,LM 18 2,LM 19 7,LO 20 (.bin .add (LT 18) (LT 19)),LO 21 (.iaddr 1 (LT 17) (LT 20)),LO 22 (LL 21),LM 23 8,LO 24 (.bin .add (LT 22) (LT 23)),LM 25 6,LO 26 (.bin .add (LT 24) (LT 25)),LM 9 26] (LS [LM 27 9,LO 28 (.bin .quo (LT 27) (LI 1000000000)),LM 6 28] (.dU [LM 29 0,LM 30 2,LM 31 7,LO 32 (.bin .add (LT 30) (LT 31)),LM 33 9,LO 34 (.bin .rem (LT 33) (LI 1000000000)),LO 35 (.iaddr 1 (LT 29) (LT 32)),LN (.store 1 (LT 35) (LT 34))]))))) (.dU [LO 36 (.bin .add (LT 12) (LI 1)),LM 12 36]))))
def xB:aF:=(LS [LO 6 (.mv (LI 0))] (.seq (LS [LM 10 1,LO 11 (.len (LT 10)),LO 12 (.mv (LI 0))] (.block 0 (.loop oT))) (.dU [LM 37 0,LM 38 2,LM 39 1,LO 40 (.len (LT 39)),LO 41 (.bin .add (LT 38) (LT 40)),LO 42 (.iaddr 1 (LT 37) (LT 41)),LO 43 (LL 42),LM 44 6,LO 45 (.bin .add (LT 43) (LT 44)),LO 46 (.iaddr 1 (LT 37) (LT 41)),LN (.store 1 (LT 46) (LT 45))])))
def Aw:aT:=⟨47,[],xB⟩
theorem DD:gZ 240=some Aw:=by kernel_rfl
def iT:aF:=(.seq (LS [LM 8 3,LO 9 (.len (LT 8)),LO 10 (.bin .eql (LT 9) (LI 0)),LM 11 10,LZ 11 12 (.mv (LT 4)),LZ 11 13 (.bin .neq (LT 12) (LI 0)),LO 14 (.pick (LT 11) LG (LT 13))] (.cond (LT 14) .skip (.exit 0))) (.block 1 (LS [LM 15 4,LO 16 (.bin .rem (LT 15) (LI 10)),LM 5 16] (.seq (LS [LM 17 5,LO 18 (.bin .lss (LT 17) (LI 0))] (.cond (LT 18) (.dU [LM 19 5,LO 20 (.un .neg (LT 19)),LM 5 20]) .skip)) (LS [LM 21 5,LO 22 (.bin .add (LI 48) (LT 21)),LO 23 (.cvt .u8 (LT 22)),LO 24 (.lit [(.int .u8 0)] 1 [(0,(LT 23))]),LM 25 3,LO 26 (.app 1 1 (LT 24) (LT 25)),LM 3 26] (.dU [LM 27 4,LO 28 (.bin .quo (LT 27) (LI 10)),LM 4 28]))))))
def CI:aF:=(LS [LO 2 (.mv (.const (.string ⟨#[]⟩)))] (LS [LO 6 (.lit [(.int .u8 0)] 0 []),LM 3 6] (LS [LM 7 0,LM 4 7] (.seq (.block 0 (.loop iT)) (.seq (LS [LM 29 0,LO 30 (.bin .lss (LT 29) (LI 0))] (.cond (LT 30) (.dU [LO 31 (.lit [(.int .u8 0)] 1 [(0,(.const (.int .u8 45)))]),LM 32 3,LO 33 (.app 1 1 (LT 31) (LT 32)),LM 3 33]) .skip)) (LS [LM 34 3,LO 35 (.b2s (LT 34)),LM 2 35] .ret))))))
def Gh:aT:=⟨36,[(.tmp 2)],CI⟩
theorem JS:gZ 235=some Gh:=by kernel_rfl
end Go.PM
namespace Go.PM
section
variable {b:Nat}
theorem EX (hb:2≤b) (n i:Nat):(aC b n).getD i 0=n / b^i % b:=by
 induction i generalizing n with
 |
  zero =>
  by_cases h:n=0
  ·subst h;simp[bR]
  ·rw[hC hb h,List.getD_cons_zero,Nat.pow_zero,Nat.div_one]
 |
  succ i ih =>
  by_cases h:n=0
  ·subst h;simp[bR]
  ·rw[hC hb h,List.getD_cons_succ,ih,Nat.div_div_eq_div_mul,Nat.pow_succ,Nat.mul_comm b]
theorem BN (hb:2≤b) {n i:Nat}:i<(aC b n).length↔n / b^i≠0:=by
 induction i generalizing n with
 |
  zero =>
  rw[Nat.pow_zero,Nat.div_one,List.length_pos_iff]
  exact not_congr (kE hb)
 |
  succ i ih =>
  by_cases h:n=0
  ·subst h;simp[bR]
  ·rw[hC hb h,List.length_cons,Nat.add_lt_add_iff_right,ih,Nat.div_div_eq_div_mul,Nat.pow_succ,Nat.mul_comm b]
theorem IN (hb:2≤b) {n i:Nat} (h:i<(aC b n).length):(aC b n)[i]? = some (n / b^i % b):=by
 rw[←EX hb,List.getD_eq_getElem?_getD,List.getElem?_eq_getElem h]
 rfl
theorem SL (hb:2≤b) (n i:Nat):(aC b n).drop i=aC b (n / b^i):=by
 induction i generalizing n with
 | zero=>simp
 |
  succ i ih =>
  by_cases h:n=0
  ·subst h;simp[bR]
  ·rw[hC hb h,List.drop_succ_cons,ih,Nat.div_div_eq_div_mul,Nat.pow_succ,Nat.mul_comm b]
theorem pT (n i:Nat):n / b^(i+1)=n / b^i / b:=by rw[Nat.div_div_eq_div_mul,Nat.pow_succ]
theorem CB (xs:List Nat) (i:Nat):val b (xs.take (i+1))=val b (xs.take i)+b^i*xs.getD i 0:=by
 by_cases h:i<xs.length
 ·rw[aS (List.getElem?_eq_getElem h),List.getD_eq_getElem?_getD,List.getElem?_eq_getElem h]
  rfl
 ·rw[iG (by omega),iG (by omega),List.getD_eq_getElem?_getD,List.getElem?_eq_none (by omega)]
  simp
theorem K9 (hb:2≤b) {n d q:Nat} (hn:n≠0) (h:n=d+b*q) (hd:d<b):aC b n=d::aC b q:=by
 rw[hC hb hn,h,Nat.add_mul_mod_self_left,Nat.mod_eq_of_lt hd,Nat.add_mul_div_left _ _ (by omega),Nat.div_eq_of_lt hd,Nat.zero_add]
theorem Tf (hb:2≤b) {x y c:Nat} (h:x+y+c≠0):aC b (x+y+c)=(x % b+y % b+c) % b::aC b (x / b+y / b+(x % b+y % b+c) / b):=by
 refine K9 hb h ?_ (Nat.mod_lt _ (by omega))
 have h1:=Nat.mod_add_div x b
 have h2:=Nat.mod_add_div y b
 have h3:=Nat.mod_add_div (x % b+y % b+c) b
 have e:b*(x / b+y / b+(x % b+y % b+c) / b)=b*(x / b)+b*(y / b)+b*((x % b+y % b+c) / b):=by grind
 omega
theorem SZ (hb:2≤b) {x d c:Nat} (h:x*d+c≠0):aC b (x*d+c)=(x % b*d+c) % b::aC b (x / b*d+(x % b*d+c) / b):=by
 refine K9 hb h ?_ (Nat.mod_lt _ (by omega))
 have h1:=Nat.mod_add_div x b
 have h3:=Nat.mod_add_div (x % b*d+c) b
 have e:b*(x / b*d+(x % b*d+c) / b)=b*(x / b)*d+b*((x % b*d+c) / b):=by grind
 have e2:x*d=x % b*d+b*(x / b)*d:=by
  conv=>lhs;rw[←h1,Nat.add_mul]
 omega
theorem Mx (hb:2≤b) {m n k:Nat} (hm:(aC b m).length≤k) (hn:(aC b n).length≤k):(aC b (m+n)).length≤k+1:=by
 refine kI hb ?_
 have y1:=fN hb m
 have y2:=fN hb n
 have y3:b^(aC b m).length≤b^k:=Nat.pow_le_pow_right (by omega) hm
 have y4:b^(aC b n).length≤b^k:=Nat.pow_le_pow_right (by omega) hn
 have y5:b^k*2≤b^k*b:=Nat.mul_le_mul_left _ hb
 rw[Nat.pow_succ]
 omega
theorem MP (hb:2≤b) (m n:Nat):(aC b (m*n)).length≤(aC b m).length+(aC b n).length:=by
 refine kI hb ?_
 rw[Nat.pow_add]
 exact Nat.mul_lt_mul'' (fN hb m) (fN hb n)
theorem BD (hb:2≤b) {c:Nat} (h:c≠0) (hc:c<b):aC b c=[c]:=by
 rw[hC hb h,Nat.mod_eq_of_lt hc,Nat.div_eq_of_lt hc,bR]
end
end Go.PM