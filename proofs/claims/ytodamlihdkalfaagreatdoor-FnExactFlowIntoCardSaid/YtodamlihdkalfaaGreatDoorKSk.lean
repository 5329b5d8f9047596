/- Texts of a claim, in one: part 11. -/
import Derived.ChangeMaps5
import Derived.Test.YtodamlihdkalfaaGreatDoorKSj
set_option linter.unusedSimpArgs false
set_option linter.unusedVariables false
namespace Go.PM
open Go.Lib
theorem C1 (l:List UInt8) {i:Nat} (h:i<l.length):Gb (.string ⟨l.toArray⟩) (.int .i64 (i:Int))=some (.int .u8 ((l.getD i 0).toNat:Int)):=by
 have hs:(⟨l.toArray⟩:ByteArray).size=l.length:=by simp[ByteArray.size]
 have e1:(0:Int)≤i∧(i:Int)<(l.length:Int):=by omega
 simp only[Gb,hs,e1,and_self,if_true,Int.toNat_natCast]
theorem GQ (l:List UInt8) (h:0<l.length):Gb (.string ⟨l.toArray⟩) (.int .i64 0)=some (.int .u8 ((l.getD 0 0).toNat:Int)):=C1 l h
theorem FA (l:List UInt8) (a b:Nat):(⟨l.toArray⟩:ByteArray).extract a b=⟨((l.drop a).take (b-a)).toArray⟩:=by
 rw[ByteArray.ext_iff,ByteArray.data_extract]
 simp[List.extract_toArray,List.extract_eq_take_drop]
theorem EK (l:List UInt8) {a:Nat} (h:a≤l.length):vA (aW l) (some (VI (a:Int))) none=some (aW (l.drop a)):=by
 have hs:(⟨l.toArray⟩:ByteArray).size=l.length:=by simp[ByteArray.size]
 have e2:(0:Int)≤a∧(a:Int)≤(l.length:Int):=by omega
 simp only[vA,FB,zS,hs,eV,e2,and_self,if_true,Int.toNat_natCast,FA]
 rw[List.take_of_length_le (by simp)]
theorem J5 (l:List UInt8) {b:Nat} (hb:b≤l.length):vA (aW l) none (some (VI (b:Int)))=some (aW (l.take b)):=by
 have hs:(⟨l.toArray⟩:ByteArray).size=l.length:=by simp[ByteArray.size]
 have e1:(0:Int)≤b∧(b:Int)≤(l.length:Int):=by omega
 simp only[vA,FB,zS,hs,eV,e1,and_self,if_true,Int.toNat_natCast,FA]
 rw[List.drop_zero,Nat.sub_zero]
theorem Qa (l:List UInt8):dF .eql (.string ⟨l.toArray⟩) (.string ⟨#[]⟩)=some (.bool (decide (l=[]))):=Uc l []
theorem HZ (l:List UInt8):dF .neq (.string ⟨l.toArray⟩) (.string ⟨#[]⟩)=some (.bool (!decide (l=[]))):=NY l []
theorem Qy (l:List UInt8):TC 229 [aW l,aW [45]] (VB (isNeg l)):=by
 refine TC.walk ⟨true,false⟩ sK rfl (Nat.le_of_ble_eq_true rfl) rfl rfl ?_
 have e1:A2 (.string ⟨#[45]⟩)=some (.int .i64 1):=rfl
 by_cases h:(1:Int)≤(l.length:Int)
 ·have e2:=J5 l (b:=1) (by omega)
  have e2:vA (aW l) none (some (VI 1))=some (aW (l.take 1)):=e2
  have e3:dF .eql (.string ⟨(l.take 1).toArray⟩) (.string ⟨#[45]⟩)=some (.bool (decide (l.take 1=[45]))):=Uc (l.take 1) [45]
  have e4:isNeg l=decide (l.take 1=[45]):=by
   cases l with
   | nil=>exact absurd h (by decide)
   | cons c l=>rw[EZ];simp
  rw[e4]
  simp only[hJ,fW,bF,e1,ge_iff_le,h,e2,e3,VX,Nat.reduceEqDiff,Nat.reduceAdd]
  exact aG rfl
 ·have e4:isNeg l=false:=by unfold isNeg;rw[decide_eq_false (by omega)];rfl
  rw[e4]
  simp only[hJ,fW,bF,e1,ge_iff_le,h,VX,Nat.reduceEqDiff,Nat.reduceAdd]
  exact aG rfl
theorem Ox (l:List UInt8):TC 216 [aW l,aW [45]] (.dL [aW (if isNeg l then l.drop 1 else l),VB (isNeg l)]):=by
 refine TC.walk ⟨true,false⟩ sA rfl (Nat.le_of_ble_eq_true rfl) rfl rfl ?_
 have e0:=Qy l
 have e1:A2 (.string ⟨#[45]⟩)=some (.int .i64 1):=rfl
 cases h:isNeg l with
 |
  true =>
  rw[h] at e0
  have hl:1≤l.length:=by
   cases l with
   | nil=>cases h
   | cons c l=>simp
  have e2:vA (aW l) (some (VI 1)) none=some (aW (l.drop 1)):=EK l (a:=1) hl
  simp only[iA,gF,e0,e1,e2,VX,Nat.reduceEqDiff,Nat.reduceAdd]
  exact aG rfl
 |
  false =>
  rw[h] at e0
  simp only[iA,gF,e0,Bool.false_eq_true,if_false,VX,Nat.reduceEqDiff,Nat.reduceAdd]
  exact aG rfl
theorem QV (l:List UInt8):TC 168 [aW l,aW [45]] (.dL [aW (if isNeg l then l.drop 1 else l),VB (isNeg l)]):=by
 refine TC.walk ⟨true,false⟩ DW rfl (Nat.le_of_ble_eq_true rfl) rfl rfl ?_
 have e0:=Ox l
 simp only[Ac,vU,e0,VX,Nat.reduceEqDiff,Nat.reduceAdd]
 exact aG rfl
theorem aiB (l:List UInt8) (hl:l.length≤1000000000000):TC 215 [aW l,aW [47]] (.dL [aW (lS 47 l).1,aW ((lS 47 l).2.getD []),VB (lS 47 l).2.isSome]):=by
 refine TC.walk ⟨true,false⟩ yD rfl (Nat.le_of_ble_eq_true rfl) rfl rfl ?_
 have e0:=aaP l 47
 have e1:A2 (.string ⟨#[47]⟩)=some (.int .i64 1):=rfl
 cases h:(lS 47 l).2 with
 |
  none =>
  obtain⟨h1,h2,_⟩:=AR h
  rw[h1] at e0
  rw[h2]
  simp only[kY,kB,e0,ge_iff_le,Int.reduceNeg,Int.reduceLE,VX,Nat.reduceEqDiff,Nat.reduceAdd]
  exact aG rfl
 |
  some r =>
  obtain⟨h1,h2,_⟩:=GN h
  rw[h1] at e0
  generalize (lS 47 l).1=a at *
  subst h2
  rw[List.length_append,List.length_cons] at hl
  have h0:(0:Int)≤(a.length:Int):=by omega
  have e2:=J5 (a++47::r) (b:=a.length) (by simp)
  have e3:=EK (a++47::r) (a:=a.length+1) (by simp)
  rw[List.take_left] at e2
  have ed:(a++47::r).drop (a.length+1)=r:=by rw[List.drop_append];simp
  rw[ed] at e3
  have w:IntKind.i64.wrap ((a.length:Int)+1)=((a.length+1:Nat):Int):=wrapN _ (by omega) (by omega)
  simp only[kY,kB,e0,e1,ge_iff_le,h0,w,e2,e3,VX,Nat.reduceEqDiff,Nat.reduceAdd]
  exact aG rfl
theorem akW (l:List UInt8) (hl:l.length≤1000000000000):TC 167 [aW l,aW [47]] (.dL [aW (lS 47 l).1,aW ((lS 47 l).2.getD []),VB (lS 47 l).2.isSome]):=by
 refine TC.walk ⟨true,false⟩ L6 rfl (Nat.le_of_ble_eq_true rfl) rfl rfl ?_
 have e0:=aiB l hl
 simp only[Ig,Ep,e0,VX,Nat.reduceEqDiff,Nat.reduceAdd]
 exact aG rfl
def Av (l:List UInt8):VV:=if iD l=true then .dL [bH (bP l),VB true] else .dL [bH 0,VB false]
theorem Vg (l:List UInt8):eQ (Av l)=true:=by
 unfold Av
 split<;>simp[eQ,pR,pW,nF]
theorem ajG {d:Nat}:fz (d+1) [.row 0 [] 1 true] (.ref 0 0 0 0 0)=some (bH 0):=by
 rw[DP]
 cases d with
 | zero=>rfl
 | succ d=>rfl
theorem Lo {n:Nat} (hn:n≤9) {lo:Nat} {H:aA} {ρ:cP} {Q:VQ} (h58:ρ 58=VI n) (h59:ρ 59=VI 0) (h9:ρ 9=VK .u64 1) (hQ:∀aZ,(∀t,t<9→aZ t=ρ t)→aZ 9=VK .u64 ((10^n:Nat):Int)→Q .normal aZ H):VW ⟨true,false⟩ lo (.loop qC) (Ai 4 Q) ρ H:=by
 refine bC (fun(i:Nat) aZ H'=>i≤n∧H'=H∧(∀t,t<9→aZ t=ρ t)∧aZ 58=VI n∧aZ 59=VI i∧aZ 9=VK .u64 ((10^i:Nat):Int)) (fun i=>n-i) 0 ⟨Nat.zero_le _,rfl,fun _ _=>rfl,h58,h59,h9⟩ ?_
 rintro i aZ H' ⟨hi,rfl,hk,g58,g59,g9⟩
 by_cases cQ:(i:Int)<(n:Int)
 ·have wi:IntKind.i64.wrap ((i:Int)+1)=((i+1:Nat):Int):=wrapN (i+1) (by omega) (by omega)
  have hp:10^i≤10^8:=Nat.pow_le_pow_right (by decide) (by omega)
  have e8:(10:Nat)^8=100000000:=by decide
  have wp:IntKind.u64.wrap (((10^i:Nat):Int)*10)=((10^(i+1):Nat):Int):=by
   rw[Nat.pow_succ]
   generalize 10^i=p at *
   have:=fH (p*10) (by omega)
   rw[Int.natCast_mul] at this
   rw[Int.natCast_mul]
   exact this
  simp only[qC,g58,g59,g9,cQ,wi,wp,VX,Nat.reduceEqDiff,Nat.reduceAdd]
  refine⟨i+1,by omega,by omega,fun t ht => ?_,rfl,rfl⟩
  try simp only[uX]
  repeat rw[if_neg (by omega)]
  exact hk t ht
 ·have qR:i=n:=by omega
  subst qR
  simp only[qC,g58,g59,cQ,VX,Nat.reduceEqDiff,Nat.reduceAdd]
  refine hQ _ (fun t ht => ?_) ?_
  ·try simp only[uX]
   repeat rw[if_neg (by omega)]
   exact hk t ht
  ·simp only[g9,VX,Nat.reduceEqDiff,Nat.reduceAdd]
theorem Xo {l:List UInt8} {i:Nat} (h:i<l.length):(l.take (i+1)).all iL=((l.take i).all iL&&iL (l.getD i 0)):=by
 rw[List.take_add_one,List.all_append]
 have:l[i]? = some (l.getD i 0):=by rw[List.getElem?_eq_getElem h,List.getD_eq_getElem?_getD,List.getElem?_eq_getElem h];rfl
 rw[this]
 simp
theorem JW {l:List UInt8} (hl:l.length≤1000000000000) {lo:Nat} {H:aA} {ρ:cP} {Q:VQ} (h0:ρ 0=aW l) (h29:ρ 29=VI l.length) (h30:ρ 30=VI 0)
  (hR:l.all iL=false→∀aZ:cP,aZ 2 = .tree [] .nil→aZ 3=VB false→Q .ret aZ H) (hN:l.all iL=true→∀aZ:cP,(∀t,t<5→aZ t=ρ t)→Q .normal aZ H):VW ⟨true,false⟩ lo (.loop kJ) (Ai 0 Q) ρ H:=by
 refine bC (fun(i:Nat) aZ H'=>i≤l.length∧H'=H∧(l.take i).all iL=true∧(∀t,t<5→aZ t=ρ t)∧aZ 29=VI l.length∧aZ 30=VI i) (fun i=>l.length-i) 0 ⟨Nat.zero_le _,rfl,rfl,fun _ _=>rfl,h29,h30⟩ ?_
 rintro i aZ H' ⟨hi,rfl,hd,hk,g29,g30⟩
 have g0:=(hk 0 (by decide)).trans h0
 by_cases cQ:(i:Int)<(l.length:Int)
 ·have Si:i<l.length:=by omega
  have e1:=C1 l Si
  have wi:IntKind.i64.wrap ((i:Int)+1)=((i+1:Nat):Int):=wrapN (i+1) (by omega) (by omega)
  have ht:=Xo Si
  rw[hd,Bool.true_and] at ht
  have SK:iL (l.getD i 0)=(decide (48≤(l.getD i 0).toNat)&&decide ((l.getD i 0).toNat≤57)):=rfl
  have lP:iL (l.getD i 0)=false→l.all iL=false:=by
   intro h
   rw[h] at ht
   rw[←List.take_append_drop (i+1) l,List.all_append,ht,Bool.false_and]
  generalize (l.getD i 0).toNat=c at *
  by_cases q1:(c:Int)<48
  ·have:=lP (by rw[SK,decide_eq_false (by omega)];rfl)
   simp only[kJ,g0,g29,g30,cQ,e1,q1,VX,Nat.reduceEqDiff,Nat.reduceAdd]
   exact hR this _ (by simp only[VX,Nat.reduceEqDiff,Nat.reduceAdd]) (by simp only[VX,Nat.reduceEqDiff,Nat.reduceAdd])
  ·by_cases q2:(57:Int)<(c:Int)
   ·have:=lP (by rw[SK,decide_eq_false (show ¬c≤57 by omega),Bool.and_false])
    simp only[kJ,g0,g29,g30,cQ,e1,q1,q2,VX,Nat.reduceEqDiff,Nat.reduceAdd]
    exact hR this _ (by simp only[VX,Nat.reduceEqDiff,Nat.reduceAdd]) (by simp only[VX,Nat.reduceEqDiff,Nat.reduceAdd])
   ·rw[SK,decide_eq_true (by omega),decide_eq_true (by omega),Bool.and_self] at ht
    simp only[kJ,g0,g29,g30,cQ,e1,q1,q2,wi,VX,Nat.reduceEqDiff,Nat.reduceAdd]
    refine⟨i+1,by omega,by omega,ht,fun t ht => ?_,rfl⟩
    try simp only[uX]
    repeat rw[if_neg (by omega)]
    exact hk t ht
 ·have qR:i=l.length:=by omega
  subst qR
  rw[List.take_length] at hd
  simp only[kJ,g29,g30,cQ,VX,Nat.reduceEqDiff,Nat.reduceAdd]
  refine hN hd _ fun t ht => ?_
  try simp only[uX]
  repeat rw[if_neg (by omega)]
  exact hk t ht
set_option maxHeartbeats 2000000 in
theorem KQ {l:List UInt8} (hd:l.all iL=true) (hl:l.length≤200) (fR:l≠[]) {ρ:cP} {Q:VQ} (h0:ρ 0=aW l) (h4:ρ 4 = .ref 0 0 0 0 0)
  (hQ:∀(aZ:cP),aZ 4=bH (bP l)→Q .normal aZ [.row 0 [] 1 false]):VW ⟨true,false⟩ 0 (.loop mW) (Ai 2 Q) ρ [.row 0 [] 1 true]:=by
 refine bC (fun(s:List UInt8×List UInt8) aZ H'=>l=s.1++s.2∧aZ 0=aW s.2∧((H'=[.row 0 [] 1 true]∧aZ 4 = .ref 0 0 0 0 0∧s.1=[])∨(H'=[.row 0 [] 1 false]∧aZ 4=bH (bP s.1)))) (fun s=>s.2.length) ([],l) ⟨rfl,h0,.inl ⟨rfl,h4,rfl⟩⟩ ?_
 rintro⟨pre,rest⟩ aZ H' ⟨Q5,g0,hv⟩
 simp only at Q5 g0 hv
 have e1:=HZ rest
 by_cases he:rest=[]
 ·subst he
  rw[List.append_nil] at Q5
  subst Q5
  rcases hv with⟨_,_,h⟩ | ⟨rfl,g4⟩
  ·exact absurd h fR
  have UG:dF .neq (.string ⟨#[]⟩) (.string ⟨#[]⟩)=some (.bool false):=by
   have:=HZ []
   rw[decide_eq_true rfl] at this
   exact this
  simp only[mW,g0,UG,VX,Nat.reduceEqDiff,Nat.reduceAdd]
  exact hQ _ (by simp only[g4,VX,Nat.reduceEqDiff,Nat.reduceAdd])
 ·rw[Q5,List.all_append,Bool.and_eq_true] at hd
  obtain⟨hd1,hd2⟩:=hd
  rw[Q5,List.length_append] at hl
  have lA:0<rest.length:=List.length_pos_iff.2 he
  have UG:dF .neq (.string ⟨rest.toArray⟩) (.string ⟨#[]⟩)=some (.bool true):=by rw[e1,decide_eq_false he];rfl
  have wm:(rest.length:Int).tmod 9=((rest.length % 9:Nat):Int):=by rw[Int.tmod_eq_emod_of_nonneg (by omega)];simp
  have er:dF .rem (.int .i64 (rest.length:Int)) (.int .i64 9)=some (.int .i64 ((rest.length % 9:Nat):Int)):=by
   rw[←wm]
   rfl
  obtain⟨n,hn⟩:∃n,n=if rest.length % 9=0 then 9 else rest.length % 9:=⟨_,rfl⟩
  have hn1:1≤n∧n≤9∧n≤rest.length:=by
   rw[hn]
   split<;>omega
  obtain⟨n1,n9,nl⟩:=hn1
  have e2:=J5 rest nl
  have e3:=EK rest nl
  have hch:(rest.take n).length=n:=by rw[List.length_take];omega
  have hcd:(rest.take n).all iL=true:=by
   rw[←List.take_append_drop n rest,List.all_append,Bool.and_eq_true] at hd2
   exact hd2.1
  have hp:=abV (rest.take n) (bP (rest.take n)) (by omega) (agA hcd (fun h=>by rw[h] at hch;simp at hch;omega) (by omega))
  have D3:=Gc hcd
  rw[hch] at D3
  have hp9:10^n≤10^9:=Nat.pow_le_pow_right (by decide) n9
  have e9:(10:Nat)^9=1000000000:=by decide
  have aAS:bP (rest.take n)<1000000000:=by omega
  have c1:=mR (10^n) (by omega)
  have c2:=mR (bP (rest.take n)) (by omega)
  have hbp:bl (bP pre)≤665:=by
   refine Fk (Nat.lt_of_lt_of_le (Gc hd1) ?_)
   exact Nat.le_trans (Nat.pow_le_pow_right (by decide) (by omega:pre.length≤200)) (by decide +kernel)
  have hb9:bl (10^n)≤64:=Fk (by omega)
  have hbm:=nH (bP pre) (10^n)
  have hbc:bl (bP (rest.take n))≤64:=Fk (by omega)
  have tm:=iJ (bP pre) (10^n) (fG (by omega)) (fG (by omega))
  have c4:=Cp (bP pre*10^n) (bP (rest.take n)) (fG (by omega)) (fG (by omega))
  have tT:bP pre*10^n+bP (rest.take n)=bP (pre++rest.take n):=by rw[JD,hch]
  rw[tT] at c4
  have fin:(rest.drop n).length<rest.length∧pre++rest=(pre++rest.take n)++rest.drop n:=⟨by rw[List.length_drop];omega,by rw[List.append_assoc,List.take_append_drop]⟩
  obtain⟨v4,g4,c3⟩:∃v4,aZ 4=v4∧∀lo K,cT 180 [v4,bH (10^n)] lo H' K=K (bH (bP pre*10^n)) [.row 0 [] 1 false]:=by
   rcases hv with⟨rfl,g4,hp0⟩ | ⟨rfl,g4⟩
   ·refine⟨_,g4,fun lo K => ?_⟩
    subst hp0
    have:=tm.FT (H:=[.row 0 [] 1 true]) (args:=[.ref 0 0 0 0 0,bH (10^n)]) (lo:=lo) (k:=K) rfl (by simp[aJ,bM]) (fz2 ajG (aH (bM _))) rfl
    rw[this,show Ix (bH (bP []*10^n))=false from rfl,if_neg (by decide),List.flatMap_cons,List.flatMap_cons,List.flatMap_nil,EF (bM _),Ms (n:=0) (c:=0) (es:=[]) (e:=1) (w:=true) bK rfl rfl]
    rfl
   ·exact⟨_,g4,fun lo K=>tm lo [.row 0 [] 1 false] K⟩
  clear hv
  obtain⟨P,hP⟩:∃P,P=10^n:=⟨_,rfl⟩
  rw[←hP] at c1 c4 c3
  have hnI:(rest.length % 9:Nat)=0∨¬(rest.length % 9:Nat)=0:=by omega
  rcases hnI with h9 | h9
  ·rw[if_pos h9] at hn
   subst hn
   have q:((rest.length % 9:Nat):Int)=0:=by omega
   have e2':vA (aW rest) none (some (VI 9))=some (aW (rest.take 9)):=e2
   have e3':vA (aW rest) (some (VI 9)) none=some (aW (rest.drop 9)):=e3
   simp only[mW,g0,g4,UG,bF,er,q,e2',hp,VX,Nat.reduceEqDiff,Nat.reduceAdd]
   refine Lo (n:=9) (by decide) ?_ ?_ ?_ fun wO k1 q9 => ?_
   ·simp only[VX,Nat.reduceEqDiff,Nat.reduceAdd];rfl
   ·simp only[VX,Nat.reduceEqDiff,Nat.reduceAdd]
   ·simp only[VX,Nat.reduceEqDiff,Nat.reduceAdd]
   rw[←hP] at q9
   have u0:wO 0=aW rest:=by rw[k1 0 (by decide)];simp only[g0,VX,Nat.reduceEqDiff,Nat.reduceAdd]
   have u4:wO 4=v4:=by rw[k1 4 (by decide)];simp only[g4,VX,Nat.reduceEqDiff,Nat.reduceAdd]
   have u6:wO 6=VI 9:=by rw[k1 6 (by decide)];simp only[VX,Nat.reduceEqDiff,Nat.reduceAdd]
   have u7:wO 7=VK .u64 (bP (rest.take 9)):=by rw[k1 7 (by decide)];simp only[VX,Nat.reduceEqDiff,Nat.reduceAdd]
   simp only[u0,u4,u6,u7,q9,c1,c2,c3,c4,e3',VX,Nat.reduceEqDiff,Nat.reduceAdd]
   exact⟨(pre++rest.take 9,rest.drop 9),fin.1,Q5.trans fin.2,rfl,.inr rfl⟩
  ·rw[if_neg h9] at hn
   rw[←hn] at er
   have q:¬(n:Int)=0:=by omega
   simp only[mW,g0,g4,UG,bF,er,q,e2,hp,VX,Nat.reduceEqDiff,Nat.reduceAdd]
   refine Lo (n:=n) n9 ?_ ?_ ?_ fun wO k1 q9 => ?_
   ·simp only[VX,Nat.reduceEqDiff,Nat.reduceAdd]
   ·simp only[VX,Nat.reduceEqDiff,Nat.reduceAdd]
   ·simp only[VX,Nat.reduceEqDiff,Nat.reduceAdd]
   rw[←hP] at q9
   have u0:wO 0=aW rest:=by rw[k1 0 (by decide)];simp only[g0,VX,Nat.reduceEqDiff,Nat.reduceAdd]
   have u4:wO 4=v4:=by rw[k1 4 (by decide)];simp only[g4,VX,Nat.reduceEqDiff,Nat.reduceAdd]
   have u6:wO 6=VI n:=by rw[k1 6 (by decide)];simp only[VX,Nat.reduceEqDiff,Nat.reduceAdd]
   have u7:wO 7=VK .u64 (bP (rest.take n)):=by rw[k1 7 (by decide)];simp only[VX,Nat.reduceEqDiff,Nat.reduceAdd]
   simp only[u0,u4,u6,u7,q9,c1,c2,c3,c4,e3,VX,Nat.reduceEqDiff,Nat.reduceAdd]
   exact⟨(pre++rest.take n,rest.drop n),fin.1,Q5.trans fin.2,rfl,.inr rfl⟩
set_option maxHeartbeats 2000000 in
theorem CF (l:List UInt8) (hl:l.length≤1000000000000):TC 169 [aW l] (Av l):=by
 refine TC.walk ⟨true,false⟩ JB rfl (Nat.le_of_ble_eq_true rfl) rfl (Vg l) ?_
 have e1:=Qa l
 by_cases he:l=[]
 ·have hk:iD l=false:=by rw[he];rfl
  have UG:dF .eql (.string ⟨l.toArray⟩) (.string ⟨#[]⟩)=some (.bool true):=by rw[e1,decide_eq_true he]
  unfold Av
  rw[hk]
  simp only[pD,lK,UG,Bool.false_eq_true,if_false,VX,Nat.reduceEqDiff,Nat.reduceAdd]
  exact bG (d:=6) vZ (aH (v:=VB false) rfl)
 have lA:0<l.length:=List.length_pos_iff.2 he
 by_cases acU:(200:Int)<(l.length:Int)
 ·have hk:iD l=false:=by
   cases h:iD l with
   | false=>rfl
   | true=>have:=(jS.1 h).2.2.1;omega
  unfold Av
  rw[hk]
  simp only[pD,lK,e1,he,decide_false,bF,acU,Bool.false_eq_true,if_false,VX,Nat.reduceEqDiff,Nat.reduceAdd]
  exact bG (d:=6) vZ (aH (v:=VB false) rfl)
 have e2:=GQ l lA
 by_cases hz:(((l.getD 0 0).toNat:Int)=48∧1<(l.length:Int))
 ·obtain⟨Hn,RC⟩:=hz
  have hk:iD l=false:=by
   cases h:iD l with
   | false=>rfl
   |
    true =>
    rcases(jS.1 h).2.2.2 with h1 | h1
    ·omega
    ·exact absurd (UInt8.toNat_inj.1 (by rw[show (48:UInt8).toNat=48 from rfl];omega)) h1
  unfold Av
  rw[hk]
  simp only[pD,lK,e1,he,decide_false,bF,acU,e2,Hn,RC,Bool.false_eq_true,if_false,VX,Nat.reduceEqDiff,Nat.reduceAdd]
  exact bG (d:=6) vZ (aH (v:=VB false) rfl)
 have alH:l.length=1∨l.getD 0 0≠48:=by
  by_cases h1:l.length=1
  ·exact .inl h1
  ·right
   intro h2
   apply hz
   rw[h2]
   exact⟨rfl,by omega⟩
 have e3:∀lr,pT lr [.int .u32 0] 0 [] []=some (.ref 0 0 0 0 0,[.row 0 [] 1 true]):=fun lr=>oH (H:=[]) (lr:=lr) (z:=[.int .u32 0]) rfl
 have kN:l.all iL=true→iD l=true:=fun h=>jS.2 ⟨h,lA,by omega,alH⟩
 have kF:l.all iL=false→iD l=false:=fun h=>by unfold iD;rw[h];rfl
 have rF:iD l=false→Av l = .dL [bH 0,VB false]:=fun h=>by unfold Av;rw[h];rfl
 have rT:iD l=true→Av l = .dL [bH (bP l),VB true]:=fun h=>if_pos h
 by_cases hA:(((l.getD 0 0).toNat:Int)=48)
 ·have hB:¬1<(l.length:Int):=fun h=>hz ⟨hA,h⟩
  simp only[pD,lK,e1,e3,he,decide_false,bF,acU,e2,hA,hB,Bool.false_eq_true,if_false,VX,Nat.reduceEqDiff,Nat.reduceAdd]
  refine JW hl ?_ ?_ ?_ (fun hd wO g2 g3 => ?_) fun hd wO k1 => ?_
  ·simp only[VX,Nat.reduceEqDiff,Nat.reduceAdd]
  ·simp only[VX,Nat.reduceEqDiff,Nat.reduceAdd]
  ·simp only[VX,Nat.reduceEqDiff,Nat.reduceAdd]
  ·rw[rF (kF hd)]
   simp only[g2,g3,VX,Nat.reduceEqDiff,Nat.reduceAdd]
   exact bG (d:=6) vZ (aH (v:=VB false) rfl)
  ·rw[rT (kN hd)]
   simp only[VX,Nat.reduceEqDiff,Nat.reduceAdd]
   refine KQ hd (by omega) he ?_ ?_ fun Nu g4 => ?_
   ·rw[k1 0 (by decide)];simp only[VX,Nat.reduceEqDiff,Nat.reduceAdd]
   ·rw[k1 4 (by decide)];simp only[VX,Nat.reduceEqDiff,Nat.reduceAdd]
   ·simp only[g4,VX,Nat.reduceEqDiff,Nat.reduceAdd]
    exact bG (d:=6) (aH (bM _)) (aH (v:=VB true) rfl)
 ·simp only[pD,lK,e1,e3,he,decide_false,bF,acU,e2,hA,Bool.false_eq_true,if_false,VX,Nat.reduceEqDiff,Nat.reduceAdd]
  refine JW hl ?_ ?_ ?_ (fun hd wO g2 g3 => ?_) fun hd wO k1 => ?_
  ·simp only[VX,Nat.reduceEqDiff,Nat.reduceAdd]
  ·simp only[VX,Nat.reduceEqDiff,Nat.reduceAdd]
  ·simp only[VX,Nat.reduceEqDiff,Nat.reduceAdd]
  ·rw[rF (kF hd)]
   simp only[g2,g3,VX,Nat.reduceEqDiff,Nat.reduceAdd]
   exact bG (d:=6) vZ (aH (v:=VB false) rfl)
  ·rw[rT (kN hd)]
   simp only[VX,Nat.reduceEqDiff,Nat.reduceAdd]
   refine KQ hd (by omega) he ?_ ?_ fun Nu g4 => ?_
   ·rw[k1 0 (by decide)];simp only[VX,Nat.reduceEqDiff,Nat.reduceAdd]
   ·rw[k1 4 (by decide)];simp only[VX,Nat.reduceEqDiff,Nat.reduceAdd]
   ·simp only[g4,VX,Nat.reduceEqDiff,Nat.reduceAdd]
    exact bG (d:=6) (aH (bM _)) (aH (v:=VB true) rfl)
def Lp:VV := .agg [VB false,bH 0,bH 0]
def Cu (l:List UInt8):VV:=match xD l with
 | some q => .dL [bR q,VB true]
 | none => .dL [Lp,VB false]
theorem Rz:eQ Lp=true:=by simp[Lp,eQ,pR,pW,nF]
theorem RP (l:List UInt8):eQ (Cu l)=true:=by
 unfold Cu
 split<;>simp[eQ,pR,AE,Rz,nF]
theorem fZ {d:Nat} {H:aA}:fz (d+2) H (.agg [VB false,.tree [] .nil,.tree [] .nil])=some Lp:=pZ (aH (v:=VB false) rfl) vZ vZ
theorem Lk {neg:Bool} {t b:Nat} (hb:b≠0) (hg:Nat.gcd t b=1) (hn:¬(neg=true∧t=0)):bR (mkRat (kG neg t) b) = .agg [VB neg,bH t,bH b]:=by
 obtain⟨e1,e2⟩:=IA (neg:=neg) hb hg
 refine Fz ?_ (by rw[e1,nP]) e2
 rw[e1]
 cases neg with
 | false=>unfold kG;simp
 |
  true =>
  have:t≠0:=fun h=>hn ⟨rfl,h⟩
  unfold kG
  simp
  omega
theorem Sw (l:List UInt8):xD l=nZ (isNeg (lS 47 l).1) (if isNeg (lS 47 l).1 then (lS 47 l).1.drop 1 else (lS 47 l).1) (lS 47 l).2:=by
 cases l with
 | nil=>rfl
 |
  cons c r =>
  unfold xD
  by_cases h47:c=47
  ·subst h47
   rfl
  ·have e:lS 47 (c::r)=(c::(lS 47 r).1,(lS 47 r).2):=by rw[lS,if_neg h47]
   by_cases h45:c=45
   ·subst h45
    rw[e]
    rfl
   ·rw[e,EZ,EZ,decide_eq_false h45]
    simp only[Bool.false_eq_true,if_false,e]
theorem QG {c:UInt8}:∀ {l:List UInt8},(lS c l).1.length≤l.length∧∀t,(lS c l).2=some t→t.length≤l.length:=by
 intro l
 cases h:(lS c l).2 with
 | none=>rw[(AR h).2.1];exact⟨Nat.le_refl _,fun t ht=>by cases ht⟩
 |
  some r =>
  have:=congrArg List.length (GN h).2.1
  rw[List.length_append,List.length_cons] at this
  exact⟨by omega,fun t ht=>by cases ht;omega⟩
theorem Mu {n:Nat}:(((aC 4294967296 n).length:Nat):Int)=0↔n=0:=by
 rw[←lM (b:=4294967296) (n:=n) (by decide),←List.length_eq_zero_iff]
 omega
set_option maxRecDepth 100000 in
set_option maxHeartbeats 4000000 in
theorem Kb (l:List UInt8) (hl:l.length≤1000000000000):TC 89 [aW l] (Cu l):=by
 refine TC.walk ⟨true,false⟩ JZ rfl (Nat.le_of_ble_eq_true rfl) rfl (RP l) ?_
 have e1:=akW l hl
 obtain⟨l1,l2⟩:=QG (c:=47) (l:=l)
 have hq:=Sw l
 unfold Cu
 rw[hq]
 clear hq
 generalize (lS 47 l).1=f at *
 generalize (lS 47 l).2=s2 at *
 have e2:=QV f
 have ld:(if isNeg f=true then f.drop 1 else f).length≤f.length:=by split<;>simp
 generalize (if isNeg f=true then f.drop 1 else f)=d at *
 generalize isNeg f=neg at *
 have e3:=CF d (by omega)
 have c1:TC 101 [.sc (.int .u64 1)] (bH 1):=mR 1 (by decide)
 cases hd:iD d with
 |
  false =>
  have hp:nZ neg d s2=none:=if_pos (.inl hd)
  rw[hp]
  unfold Av at e3
  rw[hd,if_neg (by decide)] at e3
  simp only[dX,cU,e1,e2,e3,aF,fD,Nat.reduceLeDiff,Nat.reduceLT,Nat.reduceSub,VX,Nat.reduceEqDiff,Nat.reduceAdd]
  exact bG (d:=6) fZ (aH (v:=VB false) rfl)
 |
  true =>
  unfold Av at e3
  rw[hd,if_pos rfl] at e3
  by_cases hz:neg=true∧bP d=0
  ·have hp:nZ neg d s2=none:=if_pos (.inr hz)
   rw[hp]
   obtain⟨rfl,DQ⟩:=hz
   rw[DQ] at e3
   have zX:(((aC 4294967296 0).length:Nat):Int)=0:=Mu.2 rfl
   simp only[dX,cU,e1,e2,e3,dO,zX,aF,fD,Nat.reduceLeDiff,Nat.reduceLT,Nat.reduceSub,VX,Nat.reduceEqDiff,Nat.reduceAdd]
   exact bG (d:=6) fZ (aH (v:=VB false) rfl)
  ·have hbt:=yJ hd
   have zX:neg=true→¬(((aC 4294967296 (bP d)).length:Nat):Int)=0:=fun h h0=>hz ⟨h,Mu.1 h0⟩
   cases s2 with
   |
    none =>
    have hp:nZ neg d none=some (mkRat (kG neg (bP d)) 1):=if_neg (by rw[hd];rintro(h | h);exact absurd h (by decide);exact hz h)
    rw[hp]
    simp only[]
    rw[Lk (by decide) (Nat.gcd_one_right _) hz]
    cases neg with
    |
     false =>
     simp only[dX,cU,e1,e2,e3,c1,Option.isSome_none,Option.getD_none,aF,aT,aS,aN,fD,Nat.reduceLeDiff,Nat.reduceLT,Nat.reduceSub,VX,Nat.reduceEqDiff,Nat.reduceAdd]
     exact bG (d:=6) (pZ (aH (v:=VB false) rfl) (aH (bM _)) (aH (bM _))) (aH (v:=VB true) rfl)
    |
     true =>
     have zX:=zX rfl
     simp only[dX,cU,e1,e2,e3,c1,dO,zX,Option.isSome_none,Option.getD_none,aF,aT,aS,aN,fD,Nat.reduceLeDiff,Nat.reduceLT,Nat.reduceSub,VX,Nat.reduceEqDiff,Nat.reduceAdd]
     exact bG (d:=6) (pZ (aH (v:=VB true) rfl) (aH (bM _)) (aH (bM _))) (aH (v:=VB true) rfl)
   |
    some t =>
    have e4:=CF t (by have:=l2 t rfl;omega)
    have hp:nZ neg d (some t)=if iD t=true∧1<bP t∧Nat.gcd (bP d) (bP t)=1 then some (mkRat (kG neg (bP d)) (bP t)) else none:=if_neg (by rw[hd];rintro(h | h);exact absurd h (by decide);exact hz h)
    rw[hp]
    cases ht:iD t with
    |
     false =>
     rw[if_neg (fun h=>absurd h.1 (by decide))]
     unfold Av at e4
     rw[ht,if_neg (by decide)] at e4
     cases neg with
     |
      false =>
      simp only[dX,cU,e1,e2,e3,e4,c1,Option.isSome_some,Option.getD_some,aF,aT,aS,aN,fD,Nat.reduceLeDiff,Nat.reduceLT,Nat.reduceSub,VX,Nat.reduceEqDiff,Nat.reduceAdd]
      exact bG (d:=6) fZ (aH (v:=VB false) rfl)
     |
      true =>
      have zX:=zX rfl
      simp only[dX,cU,e1,e2,e3,e4,c1,dO,zX,Option.isSome_some,Option.getD_some,aF,aT,aS,aN,fD,Nat.reduceLeDiff,Nat.reduceLT,Nat.reduceSub,VX,Nat.reduceEqDiff,Nat.reduceAdd]
      exact bG (d:=6) fZ (aH (v:=VB false) rfl)
    |
     true =>
     have JE:=yJ ht
     unfold Av at e4
     rw[ht,if_pos rfl] at e4
     have c2:=jV (bP t) 1 (fG (by omega)) (fG (Nat.le_trans (Fk (n:=1) (k:=1) (by decide)) (by decide)))
     have c3:=Da (bP d) (bP t) (fG (by omega)) (fG (by omega))
     by_cases h1:fC (bP t) 1≤0
     ·have hle:¬1<bP t:=fun h=>by unfold fC at h1;rw[if_neg (by omega),if_neg (by omega)] at h1;exact absurd h1 (by decide)
      rw[if_neg (fun h=>hle h.2.1)]
      cases neg with
      |
       false =>
       simp only[dX,cU,e1,e2,e3,e4,c1,c2,h1,Option.isSome_some,Option.getD_some,aF,aT,aS,aN,fD,Nat.reduceLeDiff,Nat.reduceLT,Nat.reduceSub,VX,Nat.reduceEqDiff,Nat.reduceAdd]
       exact bG (d:=6) fZ (aH (v:=VB false) rfl)
      |
       true =>
       have zX:=zX rfl
       simp only[dX,cU,e1,e2,e3,e4,c1,c2,h1,dO,zX,Option.isSome_some,Option.getD_some,aF,aT,aS,aN,fD,Nat.reduceLeDiff,Nat.reduceLT,Nat.reduceSub,VX,Nat.reduceEqDiff,Nat.reduceAdd]
       exact bG (d:=6) fZ (aH (v:=VB false) rfl)
     ·have bD:1<bP t:=by
       rcases Nat.lt_or_ge 1 (bP t) with h | h
       ·exact h
       ·exfalso
        apply h1
        unfold fC
        split
        ·decide
        ·rw[if_pos (by omega)];decide
      have YQ:bl (Nat.gcd (bP d) (bP t))≤665:=Nat.le_trans (kV (Nat.le_of_dvd (by omega) (Nat.gcd_dvd_right _ _))) JE
      have c4:=jV (Nat.gcd (bP d) (bP t)) 1 (fG (by omega)) (fG (Nat.le_trans (Fk (n:=1) (k:=1) (by decide)) (by decide)))
      by_cases hg:Nat.gcd (bP d) (bP t)=1
      ·have h4:fC (Nat.gcd (bP d) (bP t)) 1=0:=by rw[hg];rfl
       rw[if_pos ⟨rfl,bD,hg⟩]
       simp only[]
       rw[Lk (by omega) hg hz]
       cases neg with
       |
        false =>
        simp only[dX,cU,e1,e2,e3,e4,c1,c2,c3,c4,h1,h4,Option.isSome_some,Option.getD_some,aF,aT,aS,aN,fD,Nat.reduceLeDiff,Nat.reduceLT,Nat.reduceSub,VX,Nat.reduceEqDiff,Nat.reduceAdd]
        exact bG (d:=6) (pZ (aH (v:=VB false) rfl) (aH (bM _)) (aH (bM _))) (aH (v:=VB true) rfl)
       |
        true =>
        have zX:=zX rfl
        simp only[dX,cU,e1,e2,e3,e4,c1,c2,c3,c4,h1,h4,dO,zX,Option.isSome_some,Option.getD_some,aF,aT,aS,aN,fD,Nat.reduceLeDiff,Nat.reduceLT,Nat.reduceSub,VX,Nat.reduceEqDiff,Nat.reduceAdd]
        exact bG (d:=6) (pZ (aH (v:=VB true) rfl) (aH (bM _)) (aH (bM _))) (aH (v:=VB true) rfl)
      ·have h4:¬fC (Nat.gcd (bP d) (bP t)) 1=0:=by
        unfold fC
        split<;>(try split)<;>first | decide | omega
       rw[if_neg (fun h=>hg h.2.2)]
       cases neg with
       |
        false =>
        simp only[dX,cU,e1,e2,e3,e4,c1,c2,c3,c4,h1,h4,Option.isSome_some,Option.getD_some,aF,aT,aS,aN,fD,Nat.reduceLeDiff,Nat.reduceLT,Nat.reduceSub,VX,Nat.reduceEqDiff,Nat.reduceAdd]
        exact bG (d:=6) fZ (aH (v:=VB false) rfl)
       |
        true =>
        have zX:=zX rfl
        simp only[dX,cU,e1,e2,e3,e4,c1,c2,c3,c4,h1,h4,dO,zX,Option.isSome_some,Option.getD_some,aF,aT,aS,aN,fD,Nat.reduceLeDiff,Nat.reduceLT,Nat.reduceSub,VX,Nat.reduceEqDiff,Nat.reduceAdd]
        exact bG (d:=6) fZ (aH (v:=VB false) rfl)
end Go.PM
namespace Go.PM
open Go.Lib
theorem Qe {l:List UInt8} {q:Rat} (h:xD l=some q):Cu l = .dL [bR q,VB true]:=by unfold Cu;rw[h]
theorem Pj {l:List UInt8} (h:xD l=none):Cu l = .dL [Lp,VB false]:=by unfold Cu;rw[h]
theorem Iy:aB Lp=[VB false,bH 0,bH 0]:=rfl
theorem Jy:isAny Lp=false:=rfl
theorem P8:dA true 3 Lp 0=some Lp:=rfl
theorem GK (q:Rat):∃s k,BY q = .dL [aW s,VB k]:=by
 unfold BY
 split<;>exact⟨_,_,rfl⟩
end Go.PM
namespace Go.PM
open Go.Lib
end Go.PM
namespace Go.PM
open Go.Lib
theorem FR {α:Type} {f:α→VV} {d e b g c:Nat} {xs:List α} {H:aA} {w:Bool} (hp:∀x,aM (f x)=true) (h:aP H b g=some (xs.map f,e,w)) (hc:xs.length≤c):fz (d+2) H (.ref b g 0 xs.length c)=some (aL f xs):=by
 have:aM (.ref b g 0 xs.length c)=false:=rfl
 unfold PM.fz
 simp only[this,h,Bool.false_eq_true,if_false]
 rw[if_pos ⟨by simp,hc⟩,List.drop_zero,List.take_of_length_le (by simp),mapM_pure (eO hp)]
 rfl
theorem Ux {d:Nat} {H:aA}:fz (d+1) H (.tree [] .nil)=some (.tree [] .op):=by
 unfold PM.fz
 have:aM (.tree [] .nil)=false:=by simp[aM]
 simp[this]
theorem xL {H:aA}:fz depth H (.dL [.tree [] .nil,VB false])=some (.dL [.tree [] .op,VB false]):=bG (d:=6) Ux (aH (v:=VB false) rfl)
theorem uP {u v:VV} (hu:eQ u=true) (hv:eQ v=true):eQ (.dL [u,v])=true:=by simp only[eQ,pR,hu,hv,Bool.and_self]
theorem X8 {u v w:VV} (hu:eQ u=true) (hv:eQ v=true) (hw:eQ w=true):eQ (.dL [u,v,w])=true:=by simp only[eQ,pR,hu,hv,hw,Bool.and_self]
theorem U7 {u v:VV} (hu:aM u=true) (hv:aM v=true):aM (.dL [u,v])=true:=by simp only[aM,aJ,hu,hv,Bool.and_self]
theorem AV {u v w:VV} (hu:aM u=true) (hv:aM v=true) (hw:aM w=true):aM (.dL [u,v,w])=true:=by simp only[aM,aJ,hu,hv,hw,Bool.and_self]
theorem Tg {u:VV} (hu:aM u=true):aJ [u]=true:=by simp only[aJ,hu,Bool.and_self]
theorem Ow {u v:VV} (hu:aM u=true) (hv:aM v=true):aJ [u,v]=true:=by simp only[aJ,hu,hv,Bool.and_self]
theorem Kv {u v w:VV} (hu:aM u=true) (hv:aM v=true) (hw:aM w=true):aJ [u,v,w]=true:=by simp only[aJ,hu,hv,hw,Bool.and_self]
theorem uW {u:VV} (hu:aM u=true):aM (.agg [u])=true:=by simp only[aM,aJ,hu,Bool.and_self]
def pQ (s:ByteArray):Option Rat:=xD s.data.toList
theorem YA (s:ByteArray):sV s=aW s.data.toList:=rfl
def zT (xs:List ByteArray):Option (List Rat):=if xs.length≤300 then xs.mapM pQ else none
def Ii (o:Option (List Rat)):VV:=match o with
 | some qs => .dL [aL bR qs,VB true]
 | none => .dL [aL bR [],VB false]
theorem G9 (q:Rat):(aB (bR q)).length=3:=rfl
theorem kZ (qs:List Rat):aM (aL bR qs)=true:=gW G9 jR
theorem Wb (q:Rat):yH (bR q)=true:=by simp[yH,bR,bH]
theorem Dy (qs:List Rat):eQ (aL bR qs)=true:=xF G9 AE Wb
theorem Mi (o:Option (List Rat)):eQ (Ii o)=true:=by
 unfold Ii
 split
 ·exact uP (Dy _) rfl
 ·exact uP (Dy []) rfl
theorem AO {α β:Type} {f:α→Option β} {xs:List α} {ys:List β} {x:α} {y:β} (h:xs.mapM f=some ys) (hx:f x=some y):(xs++[x]).mapM f=some (ys++[y]):=by
 rw[List.mapM_append,h]
 simp[hx]
theorem mapM_none {α β:Type} {f:α→Option β} {x:α} (hx:f x=none):∀ {xs:List α},x∈xs→xs.mapM f=none
 | [],h=>by cases h
 |
  y::xs,h=>by
  rw[List.mapM_cons]
  cases hy:f y with
  | none=>rfl
  |
   some z =>
   rcases List.mem_cons.1 h with rfl | h
   ·rw[hx] at hy;cases hy
   ·show ((xs.mapM f).bind fun zs=>some (z::zs))=none
    rw[mapM_none hx h];rfl
theorem mapM_mem {α β:Type} {f:α→Option β} {P:β→Prop} (hP:∀x y,f x=some y→P y):∀ {xs:List α} {ys:List β},xs.mapM f=some ys→∀y∈ys,P y
 | [],ys,h,y,hy=>by simp at h;subst h;cases hy
 |
  x::xs,ys,h,y,hy=>by
  rw[List.mapM_cons] at h
  cases hx:f x with
  | none=>rw[hx] at h;cases h
  |
   some z =>
   rw[hx] at h
   cases hs:xs.mapM f with
   | none=>rw[hs] at h;cases h
   |
    some zs =>
    rw[hs] at h
    cases h
    rcases List.mem_cons.1 hy with rfl | hy
    ·exact hP _ _ hx
    ·exact mapM_mem hP hs _ hy
theorem wM {α:Type} {xs:List α} {i:Nat} {x:α} (h:xs[i]? = some x):xs.take (i+1)=xs.take i++[x]:=by rw[List.take_add_one,h];rfl
theorem tD {xs:List ByteArray} {qs:List Rat} (h:zT xs=some qs):(∀q∈qs,cW q≤665)∧qs.length≤300∧qs.length=xs.length:=by
 unfold zT at h
 split at h
 ·rename_i hl
  have:=pL h
  exact⟨mapM_mem (fun _ _ h=>RW h) h,by omega,this⟩
 ·cases h
set_option maxHeartbeats 1000000 in
theorem Rj (xs:List ByteArray) (hn:xs.length≤1000000000) (hs:∀s∈xs,s.size≤1000000000):TC 145 [dI xs] (Ii (zT xs)):=by
 refine TC.walk ⟨true,false⟩ Q9 rfl (Nat.le_of_ble_eq_true rfl) (by simp[aJ,dG]) (Mi _) ?_
 unfold zT
 by_cases Sj:(300:Int)<(xs.length:Int)
 ·rw[if_neg (by omega)]
  simp only[GR,CB,Sj,VX,Nat.reduceEqDiff,Nat.reduceAdd]
  exact xL
 rw[if_pos (by omega)]
 have e0:=fun H=>oH (H:=H) (lr:=false) (z:=[.bool false,.slice none 0 0,.slice none 0 0]) rfl
 simp only[GR,CB,Sj,e0,VX,Nat.reduceEqDiff,Nat.reduceAdd]
 refine KO (fun(s:Nat×List Rat) ρ H=>s.1≤xs.length∧(xs.take s.1).mapM pQ=some s.2∧H=[.row s.1 (s.2.map bR) 3 true]∧ρ 4 = .ref 0 s.1 0 s.1 s.1∧ρ 13=dI xs∧ρ 14=VI xs.length∧ρ 15=VI s.1) (fun s=>xs.length-s.1) (0,[]) ⟨Nat.zero_le _,rfl,rfl,rfl,rfl,rfl,rfl⟩ ?_
 rintro⟨i,out⟩ ρ H ⟨hi,wI,rfl,g4,g13,g14,g15⟩
 simp only at hi wI g4 g15
 have iK:out.length=i:=by rw[pL wI,List.length_take];omega
 by_cases cQ:(i:Int)<(xs.length:Int)
 ·obtain⟨x,hx⟩:∃x,xs[i]? = some x:=⟨_,List.getElem?_eq_getElem (by omega)⟩
  have hxm:=List.mem_of_getElem? hx
  have e1:=fun H=>aI (f:=sV) (t := .op) (H:=H) (size:=1) (k := .i64) hx rfl
  have wi:IntKind.i64.wrap ((i:Int)+1)=((i+1:Nat):Int):=wrapN (i+1) (by omega) (by omega)
  have e2:=Kb x.data.toList (by have:=hs x hxm;rw[Array.length_toList];show x.size≤_;omega)
  rw[←YA] at e2
  cases hp:pQ x with
  |
   none =>
   rw[Pj hp] at e2
   rw[mapM_none hp hxm]
   simp only[wD,g4,g13,g14,g15,cQ,e1,e2,Iy,Jy,P8,aS,aT,aN,fD,Nat.reduceLeDiff,Nat.reduceLT,Nat.reduceSub,dU,aR,aX,cC,dJ,gR,bne_iff_ne,ne_eq,not_false_eq_true,not_true_eq_false,VX,Nat.reduceEqDiff,Nat.reduceAdd]
   exact xL
  |
   some q =>
   rw[Qe hp] at e2
   have eL:∀H,pT false [.bool false,.slice none 0 0,.slice none 0 0] 1 [(0,bR q)] H=some (.tree [bR q] (.cl 3),H):=fun H=>pN rfl rfl rfl
   have eS:∀H,eW 3 (.tree [bR q] (.cl 3)) H=some [bR q]:=fun H=>lY rfl rfl
   have eP:fE 0 3 56 (.ref 0 i 0 i i) [bR q] [.row i (out.map bR) 3 true,.row 0 [bR q] 3 true]=some (.ref 0 (i+1) 0 (i+1) (i+1),[.row (i+1) ((out++[q]).map bR) 3 true,.row 0 [bR q] 3 true]):=by
    rw[lT (f:=bR) (xs:=out) (by rw[bK]) iK.symm (Nat.le_refl _) (by decide) (by decide) (by omega),List.set_cons_zero]
   simp only[wD,g4,g13,g14,g15,cQ,e1,e2,eL,eS,eP,wi,aF,cB,dP,aS,aT,aN,fD,Nat.reduceLeDiff,Nat.reduceLT,Nat.reduceSub,dU,aR,aX,cC,dJ,gR,bne_iff_ne,ne_eq,not_false_eq_true,not_true_eq_false,VX,Nat.reduceEqDiff,Nat.reduceAdd]
   refine⟨(i+1,out++[q]),by simp only;omega,?_,by simp only;omega,by simp only[wM hx];exact AO wI hp,rfl,?_⟩
   ·rw[Aw (mA _ (eO jR)),Dm]
   ·simp only[eU,g13,g14,oC (dG _),A1 (Nat.lt_succ_self 0),VX,Nat.reduceEqDiff,Nat.reduceAdd,List.take_zero,iW,List.all_nil,List.length_nil,eU,Fi,oC]
 ·have qR:i=xs.length:=by omega
  subst qR
  rw[List.take_length] at wI
  rw[wI]
  simp only[wD,g4,g13,g14,g15,cQ,VX,Nat.reduceEqDiff,Nat.reduceAdd]
  refine bG (d:=6) ?_ (aH (v:=VB true) rfl)
  have:=FR (d:=5) (w:=true) (f:=bR) (e:=3) (b:=0) (g:=xs.length) (c:=xs.length) (xs:=out) (H:=[.row xs.length (out.map bR) 3 true]) jR (by rw[bK]) (by omega)
  rw[iK] at this
  exact this
end Go.PM
namespace Go.PM
open Go.Lib
theorem Yc {α:Type} {l:List α} (h:l.Nodup) {i j:Nat} {x:α} (hi:l[i]? = some x) (hj:l[j]? = some x):i=j:=by
 obtain⟨hi,B7⟩:=List.getElem?_eq_some_iff.1 hi
 obtain⟨hj,hj'⟩:=List.getElem?_eq_some_iff.1 hj
 have h:=List.pairwise_iff_getElem.1 h
 rcases Nat.lt_trichotomy i j with bD | heq | hgt
 ·exact absurd (B7.trans hj'.symm) (h i j hi hj bD)
 ·exact heq
 ·exact absurd (hj'.trans B7.symm) (h j i hj hi hgt)
section
variable {α:Type} {f:α→VV} {e lo hi:Nat} {H H':aA} {v:VV}
def nM (lo hi:Nat) (H H':aA):Prop:=∀b g x,lo≤b→b<hi→aP H b g=some x→aP H' b g=some x
theorem nM.pre (h:H <+: H'):nM lo hi H H':=fun _ _ _ _ _=>eR h
theorem nM.refl:nM lo hi H H:=fun _ _ _ _ _ h=>h
theorem nM.trans {H'':aA} (h:nM lo hi H H') (h':nM lo hi H' H''):nM lo hi H H'':=fun b g x h1 h2 h3=>h' b g x h1 h2 (h b g x h1 h2 h3)
theorem nM.sub {l h':Nat} (h:nM lo hi H H') (hl:lo≤l) (hh:h'≤hi):nM l h' H H':=fun b g x h1 h2=>h b g x (by omega) (by omega)
theorem nM.set {b:Nat} {x:fU} (hb:b<lo∨hi≤b):nM lo hi H (H.set b x):=fun _ _ _ h1 h2=>dQ (by omega)
theorem nM.move {L:aA}:nM H.length hi (List.replicate H.length .dead++L) (H++L):=fun _ _ _ h1 _=>Hb h1
def ZI (f:α→VV) (e:Nat) (cH:List α) (lo hi:Nat) (H:aA) (v:VV):Prop :=
 (v = .tree [] .nil∧cH=[])∨∃b g c,lo≤b∧b<hi∧v = .ref b g 0 cH.length c∧cH.length≤c∧aP H b g=some (cH.map f,e,true)
theorem ZI.eI {cH:List α} (h:ZI f e cH lo hi H v) (hk:nM lo hi H H'):ZI f e cH lo hi H' v:=by
 rcases h with h | ⟨b,g,c,h1,h2,h3,h4,h5⟩
 ·exact .inl h
 ·exact .inr ⟨b,g,c,h1,h2,h3,h4,hk _ _ _ h1 h2 h5⟩
theorem Tu {d b g c:Nat} {xs:List α} {w:Bool} (hp:∀x,aM (f x)=true) (h:aP H b g=some (xs.map f,e,w)) (hc:xs.length≤c):fz (d+2) H (.ref b g 0 xs.length c)=some (aL f xs):=by
 have:aM (.ref b g 0 xs.length c)=false:=rfl
 show PM.fz ((d+1)+1) H _=_
 unfold PM.fz
 simp only[this,h,Bool.false_eq_true,if_false]
 rw[if_pos ⟨by simp,hc⟩,List.drop_zero,List.take_of_length_le (by simp),mapM_pure (n:=d) (eO hp)]
 rfl
theorem ZI.fz {d:Nat} {cH:List α} (h:ZI f e cH lo hi H v) (hp:∀x,aM (f x)=true):PM.fz (d+2) H v=some (aL f cH):=by
 rcases h with⟨rfl,rfl⟩ | ⟨b,g,c,h1,h2,rfl,h4,h5⟩
 ·exact Kd
 ·exact Tu hp h5 h4
structure Fh (α:Type) where
 b:Nat
 g:Nat
 c:Nat
 xs:List α
def M8 (r:Fh α):VV := .ref r.b r.g 0 r.xs.length r.c
structure XF (f:α→VV) (e lo hi b:Nat) (H:aA) (rs:List (Fh α)):Prop where
 nd:(rs.map (·.b)).Nodup
 row:∀r∈rs,lo≤r.b∧r.b<hi∧r.b≠b∧r.xs.length≤r.c∧aP H r.b r.g=some (r.xs.map f,e,true)
def RG (f:α→VV) (e:Nat) (cH:List (List α)) (lo hi:Nat) (H:aA) (v:VV):Prop :=
 (v = .tree [] .nil∧cH=[])∨∃b g c rs,lo≤b∧b<hi∧v = .ref b g 0 cH.length c∧cH.length≤c∧aP H b g=some (rs.map M8,1,true)∧rs.map (·.xs)=cH∧XF f e lo hi b H rs
theorem RG.eI {cH:List (List α)} (h:RG f e cH lo hi H v) (hk:nM lo hi H H'):RG f e cH lo hi H' v:=by
 rcases h with h | ⟨b,g,c,rs,h1,h2,h3,h4,h5,h6,h7⟩
 ·exact .inl h
 ·exact .inr ⟨b,g,c,rs,h1,h2,h3,h4,hk _ _ _ h1 h2 h5,h6,h7.nd,fun r hr=>by
   obtain⟨k1,k2,k3,k4,k5⟩:=h7.row r hr
   exact⟨k1,k2,k3,k4,hk _ _ _ k1 k2 k5⟩⟩
theorem UI {d b g c lo hi:Nat} {rs:List (Fh α)} {w:Bool} (hp:∀x,aM (f x)=true) (h:aP H b g=some (rs.map M8,1,w)) (hc:rs.length≤c) (hR:XF f e lo hi b H rs) :
  fz (d+3) H (.ref b g 0 rs.length c)=some (aL (aL f) (rs.map (·.xs))):=by
 have:aM (.ref b g 0 rs.length c)=false:=rfl
 show PM.fz ((d+2)+1) H _=_
 unfold PM.fz
 simp only[this,h,Bool.false_eq_true,if_false]
 rw[if_pos ⟨by simp,hc⟩,List.drop_zero,List.take_of_length_le (by simp),mapM_map (f:=M8) (f':=fun r=>aL f r.xs) fun r hr=>Tu hp (hR.row r hr).2.2.2.2 (hR.row r hr).2.2.2.1]
 simp[aL,List.map_map]
theorem RG.fz {d:Nat} {cH:List (List α)} (h:RG f e cH lo hi H v) (hp:∀x,aM (f x)=true):PM.fz (d+3) H v=some (aL (aL f) cH):=by
 rcases h with⟨rfl,rfl⟩ | ⟨b,g,c,rs,h1,h2,rfl,h4,h5,rfl,h7⟩
 ·exact Kd
 ·rw[List.length_map] at h4 ⊢
  exact UI hp h5 h4 h7
theorem TH {d:Nat} {us EG:List VV} (h:us.mapM (PM.fz (d+1) H)=some EG):PM.fz (d+2) H (.agg us)=some (.agg EG):=by
 have e:PM.fz (d+2) H (.agg us)=if aM (.agg us)=true then some (.agg us) else (us.mapM (PM.fz (d+1) H)).map .agg:=rfl
 rw[e]
 by_cases hq:aM (.agg us)=true
 ·rw[if_pos hq]
  have:us.mapM (PM.fz (d+1) H)=some us:=mapM_pure hq
  rw[this] at h
  cases h
  rfl
 ·rw[if_neg hq,h]
  rfl
end
def Iu (T:VV) (lo hi:Nat) (H:aA) (v:VV):Prop:=∀H',nM lo hi H H'→fz depth H' v=some T
theorem Iu.eI {T:VV}:∀ {lo hi H H' v},Iu T lo hi H v→nM lo hi H H'→Iu T lo hi H' v:=fun h hk _ h'=>h _ (hk.trans h')
theorem Iu.now {T v:VV} {lo hi:Nat} {H:aA} (h:Iu T lo hi H v):fz depth H v=some T:=h H nM.refl
def CG (cH:List (List ByteArray)) (lo hi:Nat) (H:aA) (v:VV):Prop:=∃c,v = .agg [c]∧RG sV 1 cH lo hi H c
theorem CG.eI {cH:List (List ByteArray)}:∀ {lo hi H H' v},CG cH lo hi H v→nM lo hi H H'→CG cH lo hi H' v:=by
 rintro lo hi H H' v ⟨c,h1,h2⟩ hk
 exact⟨c,h1,h2.eI hk⟩
theorem CG.fz {cH:List (List ByteArray)} {lo hi:Nat} {H:aA} {v:VV} (h:CG cH lo hi H v):PM.fz depth H v=some (Uw cH):=by
 obtain⟨c,rfl,h⟩:=h
 refine TH (d:=6) ?_
 rw[List.mapM_cons,h.fz (d:=4) fun _=>rfl]
 rfl
theorem CG.seen {cH:List (List ByteArray)} {lo hi:Nat} {H:aA} {v:VV} (h:CG cH lo hi H v):Iu (Uw cH) lo hi H v:=fun _ hk=>(h.eI hk).fz
def SvG (s:YY) (lo hi:Nat) (H:aA) (v:VV):Prop:=∃a b c m1 m2,v = .agg [a,b,c]∧lo≤m1∧m1≤m2∧m2≤hi∧ZI sV 1 s.b lo m1 H a∧RG sV 1 s.g m1 m2 H b∧ZI sV 1 s.e m2 hi H c
theorem SvG.eI {s:YY}:∀ {lo hi H H' v},SvG s lo hi H v→nM lo hi H H'→SvG s lo hi H' v:=by
 rintro lo hi H H' v ⟨a,b,c,m1,m2,h1,k1,k2,k3,h2,h3,h4⟩ hk
 exact⟨a,b,c,m1,m2,h1,k1,k2,k3,h2.eI (hk.sub (by omega) (by omega)),h3.eI (hk.sub (by omega) (by omega)),h4.eI (hk.sub (by omega) (by omega))⟩
theorem aiF {s:YY} {l1 h1 l2 h2 l3 h3:Nat} {H:aA} {a b c:VV} (ha:ZI sV 1 s.b l1 h1 H a) (hb:RG sV 1 s.g l2 h2 H b) (hc:ZI sV 1 s.e l3 h3 H c):PM.fz depth H (.agg [a,b,c])=some (svV s):=by
 refine TH (d:=6) ?_
 rw[List.mapM_cons,ha.fz (d:=5) fun _=>rfl]
 rw[List.mapM_cons,hb.fz (d:=4) fun _=>rfl]
 rw[List.mapM_cons,hc.fz (d:=5) fun _=>rfl]
 rfl
theorem SvG.fz {s:YY} {lo hi:Nat} {H:aA} {v:VV} (h:SvG s lo hi H v):PM.fz depth H v=some (svV s):=by
 obtain⟨a,b,c,m1,m2,rfl,k1,k2,k3,h2,h3,h4⟩:=h
 exact aiF h2 h3 h4
theorem SvG.seen {s:YY} {lo hi:Nat} {H:aA} {v:VV} (h:SvG s lo hi H v):Iu (svV s) lo hi H v:=fun _ hk=>(h.eI hk).fz
theorem ZI.seen {cH:List ByteArray} {lo hi:Nat} {H:aA} {v:VV} (h:ZI sV 1 cH lo hi H v):Iu (dI cH) lo hi H v:=fun _ hk=>(h.eI hk).fz (d:=6) fun _=>rfl
end Go.PM
namespace Go.PM
structure Lin where
 u:List ByteArray
 d:List ByteArray
 deriving Inhabited
end Go.PM
namespace Go.Proofs.YtodamlihdkalfaaGreatDoor
open Go.ChangeShapes Go.WideShapes Go.ChangeAt Go.RowKit Go.PM
theorem Vz {T:Type} {sT:TypeId×Value→T} {P:Program} {W:World} {t t0:TypeId} {fs:Array Field} {S0:List VV→Prop} (ht:P.underlying t=some (.struct fs)) (hc:P.cellsOf t=1)
  (h0:∃f,fs[0]? = some f∧f.type=t0∧f.offset=0) (c0:P.cellsOf t0=1) (o0:En sT P W t0 1 S0):En sT P W t 1 S0:=by
 intro fuel cs y h m H hI
 obtain⟨xs,n,_,_,hl,hlen,hf⟩:=DataW.trod_struct ht h
 rw[hc] at hl
 obtain⟨f0,g0,rfl,z0⟩:=h0
 have l0:0<xs.length:=by have:=(Array.getElem?_eq_some_iff.1 g0).1;omega
 have k0:=hf 0 f0 g0
 rw[z0,c0,List.getElem?_eq_getElem l0] at k0
 match cs,hl with
 | [u],_=>exact o0 _ _ _ k0 m H hI
theorem O5 {T:Type} {sT:TypeId×Value→T} {W:World} (hB:tZ W):En sT Tryz.prog W 67 1 fun vs=>∃s:List (List ByteArray),X2 s∧vs=aB (Uw s):=by
 intro fuel cs y h m H hI
 obtain⟨hl,m',L,E3,vs,ho,sb,b1,b2,rfl⟩:=Vz Tryz.underlying67 (by kernel_rfl) ⟨_,rfl,rfl,rfl⟩ (by kernel_rfl) (Rt hB) fuel cs y h m H hI
 exact⟨hl,m',L,E3,_,ho,sb,⟨b1,b2⟩,rfl⟩
set_option maxRecDepth 100000 in
theorem Sn {T:Type} {sT:TypeId×Value→T} {W:World} {v:Value} {d:DataW T} {ps:List MemPlace} {base:Nat} {m:cZ} {H:aE} (h:DataW.Trod sT Tryz.prog W 0 (fun _=>true) true 67 v d ps) (hv:Value.okWide Tryz.prog W .any base 67 v) (hI:In m H W) :
  ∃m' L pv s,In m' (H++L) W∧(∀b l,m b=some l→m' b=some l)∧RV m' pv v∧VR (bare (· < (H++L).length) (H++L)) (Uw s) pv∧X2 s:=by
 have hv':=hv
 obtain⟨cs,rfl,KM⟩:=okWide_struct Tryz.underlying67 hv
 by_cases hB:tZ W
 ·obtain⟨fuel,hf⟩:=h
  have e:(Value.agg cs).cells.toList=cs.toList:=rfl
  rw[e] at hf
  obtain⟨hl,m',L,E3,vs,ho,s,hs,rfl⟩:=O5 hB fuel _ _ hf m H hI
  refine⟨m',L,.agg E3.toArray,s,ho.inn,ho.ext,.agg _ _ ?_ fun i hi => ?_,.agg _ _ ho.tree,hs⟩
  ·have:=ho.len
   simpa using this
  ·have B7:i<cs.toList.length:=by have:=ho.len;simp at hi ⊢;simp at this;omega
   have:=ho.rv i B7
   rw[Qr]
   have e2:cs.getD i Go.undef=cs.toList.getD i Go.undef:=by
    rw[←Qr]
   rw[e2]
   exact this
 ·have Tm:Tryz.prog.cellTypes Tryz.prog.depth 67=some [23]:=by kernel_rfl
  have h3:Tryz.prog.cellsOf 67=1:=by kernel_rfl
  rw[h3] at KM
  simp only[Value.okWide,Tryz.underlying67] at hv'
  obtain⟨Ae,e1,_,ts,e2,_,hc⟩:=hv'
  cases e1
  rw[Tm] at e2
  cases e2
  have c0:cs[0]? = some (.slice none 0 0):=by
   have e:cs[0]? = some cs[0]:=Array.getElem?_eq_getElem (by omega)
   obtain⟨u,hu,hk⟩:=hc 0 _ e
   cases hu
   rw[e,JN Tryz.underlying23 hk hB]
  refine⟨m,[],.agg #[.slice none 0 0],[],by rw[List.append_nil];exact hI,fun _ _ h=>h,.agg _ _ (by rw[KM];rfl) fun i hi => ?_,.agg [.tree [] .op] [.slice none 0 0] (.cons _ _ _ _ (.nG _ (.inl rfl)) .nil),⟨Nat.zero_le _,fun x hx=>(by cases hx)⟩⟩
  match i,hi with
  | 0,_=>rw[show cs.getD 0 Go.undef = .slice none 0 0 by rw[Array.getD_eq_getD_getElem?,c0];rfl];exact .Ky
end Go.Proofs.YtodamlihdkalfaaGreatDoor
namespace Go.PM
section
variable {α:Type} {f:α→VV} {e:Nat}
structure Rd (f:α→VV) (e:Nat) (xs:List α) (H:aA) (v:VV):Prop where
 len:∀H',H <+: H'→pV v H'=some (VI xs.length)
 get:∀H',H <+: H'→∀(i:Nat) x,xs[i]? = some x→∃p,bJ e v (VI i) H'=some p∧∀ag,dN ag e p H'=dA ag e (f x) 0
 cell:aB v=[v]∧cI v=true∧isAny v=false
theorem Rd.pre {xs:List α} {H H':aA} {v:VV} (h:Rd f e xs H v) (hh:H <+: H'):Rd f e xs H' v:=⟨fun H2 h2=>h.len H2 (hh.trans h2),fun H2 h2=>h.get H2 (hh.trans h2),h.cell⟩
theorem Rd.tree {xs:List α} {H:aA} {t:TK} (hs:∀x,(aB (f x)).length=e):Rd f e xs H (.tree (xs.map f) t) :=
 ⟨fun _ _=>eK,fun _ _ i x hx=>⟨_,aI hx (hs x),fun ag=>OF⟩,rfl,rfl,rfl⟩
theorem Rd.row {xs:List α} {H:aA} {b g n c:Nat} {w:Bool} (h:aP H b g=some (xs.map f,e,w)) (hn:n=xs.length):Rd f e xs H (.ref b g 0 n c):=by
 subst hn
 refine⟨fun H' hh=>fM (eR hh h),fun H' hh i x hx => ?_,rfl,rfl,rfl⟩
 have hi:=(List.getElem?_eq_some_iff.1 hx).1
 have e1:=bB (o:=0) (n:=xs.length) (c:=c) (i:=i) (k := .i64) (eR hh h) hi
 rw[Nat.zero_add] at e1
 exact⟨_,e1,fun ag=>tN (f:=f) (eR hh h) hx⟩
structure MG (f:α→VV) (e lo hi b g:Nat) (H:aA) (rs:List (Fh α)):Prop where
 out:aP H b g=some (rs.map M8,1,true)
 blo:lo≤b
 bhi:b<hi
 rows:XF f e lo hi b H rs
variable {lo hi b g:Nat} {H H':aA} {rs:List (Fh α)}
theorem MG.eI (h:MG f e lo hi b g H rs) (hk:nM lo hi H H'):MG f e lo hi b g H' rs :=
 ⟨hk _ _ _ h.blo h.bhi h.out,h.blo,h.bhi,h.rows.nd,fun r hr=>by
  obtain⟨k1,k2,k3,k4,k5⟩:=h.rows.row r hr
  exact⟨k1,k2,k3,k4,hk _ _ _ k1 k2 k5⟩⟩
theorem MG.pre (h:MG f e lo hi b g H rs) (hh:H <+: H'):MG f e lo hi b g H' rs:=h.eI (nM.pre hh)
theorem MG.len {n c:Nat} (h:MG f e lo hi b g H rs):pV (.ref b g 0 n c) H=some (VI n):=fM h.out
theorem MG.cell {i:Nat} {r:Fh α} (h:MG f e lo hi b g H rs) (hr:rs[i]? = some r):dN false 1 (.ptr b g i 0) H=some (.ref r.b r.g 0 r.xs.length r.c):=by
 rw[tN (f:=M8) h.out hr]
 rfl
theorem MG.row {i:Nat} {r:Fh α} (h:MG f e lo hi b g H rs) (hr:rs[i]? = some r):aP H r.b r.g=some (r.xs.map f,e,true):=(h.rows.row r (List.mem_of_getElem? hr)).2.2.2.2
theorem MG.at {i j n c:Nat} {r:Fh α} (h:MG f e lo hi b g H rs) (hr:rs[i]? = some r) (hj:j<n):bJ e (.ref r.b r.g 0 n c) (VI j) H=some (.ptr r.b r.g j 0):=by
 have:=bB (o:=0) (n:=n) (c:=c) (i:=j) (k := .i64) (h.row hr) hj
 rwa [Nat.zero_add] at this
theorem MG.get {i j:Nat} {ag:Bool} {r:Fh α} {x:α} (h:MG f e lo hi b g H rs) (hr:rs[i]? = some r) (hx:r.xs[j]? = some x):dN ag e (.ptr r.b r.g j 0) H=dA ag e (f x) 0:=tN (f:=f) (h.row hr) hx
theorem MG.inj {i j:Nat} {r s:Fh α} (h:MG f e lo hi b g H rs) (hr:rs[i]? = some r) (hs:rs[j]? = some s) (he:r.b=s.b):i=j:=by
 have h1:(rs.map (·.b))[i]? = some r.b:=by simp[hr]
 have h2:(rs.map (·.b))[j]? = some r.b:=by simp[hs,he]
 exact Yc h.rows.nd h1 h2
theorem J9 {β γ:Type} {F:β→γ} {l:List β} {i:Nat} {x y:β} (hx:l[i]? = some x) (he:F y=F x):(l.set i y).map F=l.map F:=by
 apply List.ext_getElem?
 intro j
 rw[List.getElem?_map,List.getElem?_map,List.getElem?_set]
 split
 ·rename_i So
  subst So
  split
  ·rw[hx,Option.map_some,Option.map_some,he]
  ·rename_i hn
   rw[(List.getElem?_eq_none (by omega))] at hx
   cases hx
 ·rfl
theorem MG.set {i:Nat} {r:Fh α} {ys:List α} (h:MG f e lo hi b g H rs) (hr:rs[i]? = some r) (hl:ys.length=r.xs.length):MG f e lo hi b g (H.set r.b (.row r.g (ys.map f) e true)) (rs.set i { r with xs:=ys }):=by
 have Se:=h.rows.row r (List.mem_of_getElem? hr)
 refine⟨?_,h.blo,h.bhi,?_,fun s hs => ?_⟩
 ·rw[J9 hr (by simp[M8,hl])]
  exact dQ Se.2.2.1 h.out
 ·rw[J9 (F:=fun r:Fh α=>r.b) (y:={ r with xs:=ys }) hr rfl]
  exact h.rows.nd
 ·obtain⟨j,hj⟩:=List.getElem?_of_mem hs
  rw[List.getElem?_set] at hj
  split at hj
  ·rename_i So
   split at hj
   ·cases hj
    exact⟨Se.1,Se.2.1,Se.2.2.1,by rw[hl];exact Se.2.2.2.1,kM Se.2.2.2.2⟩
   ·cases hj
  ·rename_i So
   have Z9:=h.rows.row s (List.mem_of_getElem? hj)
   exact⟨Z9.1,Z9.2.1,Z9.2.2.1,Z9.2.2.2.1,dQ (fun he=>So (h.inj hr hj he)) Z9.2.2.2.2⟩
theorem MG.put {i j BF:Nat} {r:Fh α} {y:α} (h:MG f e lo hi b g H rs) (hr:rs[i]? = some r) (hj:j<r.xs.length) (iC:BF≤lo) (hv:(aB (f y)).length=e) (hs:(aB (f y)).all cI=true) :
  cR BF e (.ptr r.b r.g j 0) (f y) H=some (H.set r.b (.row r.g ((r.xs.set j y).map f) e true)) :=
 gI (f:=f) (h.row hr) hj (Nat.le_trans iC (h.rows.row r (List.mem_of_getElem? hr)).1) hv hs
theorem MG.lt {i:Nat} {r:Fh α} (h:MG f e lo hi b g H rs) (hr:rs[i]? = some r):lo≤r.b∧r.b<hi∧r.b<H.length:=⟨(h.rows.row r (List.mem_of_getElem? hr)).1,(h.rows.row r (List.mem_of_getElem? hr)).2.1,F7 (h.row hr)⟩
theorem MG.cH {c:Nat} (h:MG f e lo hi b g H rs) (hc:rs.length≤c):RG f e (rs.map (·.xs)) lo hi H (.ref b g 0 rs.length c) := .inr ⟨b,g,c,rs,h.blo,h.bhi,by rw[List.length_map],by rw[List.length_map];exact hc,h.out,rfl,h.rows⟩
theorem MG.fz {d c:Nat} (h:MG f e lo hi b g H rs) (hc:rs.length≤c) (hp:∀x,aM (f x)=true):PM.fz (d+3) H (.ref b g 0 rs.length c)=some (aL (aL f) (rs.map (·.xs))):=UI hp h.out hc h.rows
end
theorem VEX:type_of% (And.intro @xS<|And.intro @Bv<|And.intro @mF.eq_1<|And.intro @oP.eq_1<|And.intro @oP.eq_2<|And.intro @CU.eq_1<|And.intro @CU.eq_2<|And.intro @yC.eq_1<|And.intro @yC.eq_2<|And.intro @FJ<|And.intro @BD<|And.intro @Dw<|And.intro @DD<|And.intro @List.take_zero.{0}<|And.intro @List.take_succ_cons.{0}<|And.intro @List.take_nil.{0}<|And.intro @List.drop_zero.{0}<|And.intro @List.drop_succ_cons.{0}<|And.intro @List.drop_nil.{0}<|And.intro @List.append_nil.{0} <| @Nat.le_refl):=And.intro @xS<|And.intro @Bv<|And.intro @mF.eq_1<|And.intro @oP.eq_1<|And.intro @oP.eq_2<|And.intro @CU.eq_1<|And.intro @CU.eq_2<|And.intro @yC.eq_1<|And.intro @yC.eq_2<|And.intro @FJ<|And.intro @BD<|And.intro @Dw<|And.intro @DD<|And.intro @List.take_zero.{0}<|And.intro @List.take_succ_cons.{0}<|And.intro @List.take_nil.{0}<|And.intro @List.drop_zero.{0}<|And.intro @List.drop_succ_cons.{0}<|And.intro @List.drop_nil.{0}<|And.intro @List.append_nil.{0} <| @Nat.le_refl
def Yd (P:Nat→Nat→aA→VV→Prop) (H:aA) (r:VV) (H':aA):Prop:=H <+: H'∧P H.length H'.length H' r
theorem Et {F lo:Nat} {args:List VV} {P:Nat→Nat→aA→VV→Prop} {H:aA} {K:VV→aA→Prop} (xI:C0.contains F=true) (h:oO F args lo H (Yd P H)) (hk:∀r L,P H.length (H++L).length (H++L) r→K r (H++L)):cT F args lo H K:=by
 refine kI xI (h.mono ?_)
 rintro r H' ⟨⟨L,rfl⟩,hP⟩
 exact hk r L hP
end Go.PM
namespace Go.PM
open Go.Lib
theorem Mx {k b g j o:Nat} (h:b<k):Eg k (.ptr b g j o) = .ptr b g j o:=Eu (by simp[below,h])
abbrev cell0:fU := .row 0 [.agg [VB false,.tree [] .nil,.tree [] .nil]] 3 true
theorem Ih {k:Nat} {q:Rat} {K:aA}:iW k (.row 0 [bR q] 3 true::K)=iW k K:=Aw (mA _ (by simp only[aJ,jR];rfl))
def uS (qs:List Rat):Rat:=qs.foldl (· + ·) 0
theorem Mw {qs:List Rat} {i:Nat} {q:Rat} (h:qs[i]? = some q):uS (qs.take (i+1))=uS (qs.take i)+q:=by
 rw[wM h,uS,List.foldl_append];rfl
theorem M3 {B:Nat}:∀ {qs:List Rat},(∀q∈qs,cW q≤B)→∀a:Rat,cW (qs.foldl (· + ·) a)≤qs.length*(B+1)+cW a
 | [],_,a=>by simp
 |
  q::qs,h,a=>by
  have h1:=M3 (fun x hx=>h x (List.mem_cons_of_mem _ hx)) (a+q)
  have h2:=Mn a q
  have h3:=h q List.mem_cons_self
  rw[List.foldl_cons,List.length_cons,Nat.succ_mul]
  omega
theorem Bl {B:Nat} {qs:List Rat} (h:∀q∈qs,cW q≤B) (i:Nat):cW (uS (qs.take i))≤qs.length*(B+1)+1:=by
 have h1:=M3 (qs:=qs.take i) (fun q hq=>h q (List.mem_of_mem_take hq)) 0
 have h2:(qs.take i).length*(B+1)≤qs.length*(B+1):=Nat.mul_le_mul_right _ (by rw[List.length_take];omega)
 rw[EJ] at h1
 unfold uS
 omega
set_option maxHeartbeats 1000000 in
abbrev rz:VV := .agg [VB false,.tree [] .nil,.tree [] .nil]
theorem F8 {H H1:aA} {b:Nat} {x:fU} (h:H <+: H1) (hb:H.length≤b):H <+: H1.set b x:=by
 obtain⟨L,rfl⟩:=h
 rw[List.set_append_right _ _ hb]
 exact List.prefix_append _ _
theorem XE {H H1 L:aA} (h:H <+: H1):H <+: H1++L:=h.trans (List.prefix_append _ _)
theorem Rg {lo:Nat} {H:aA} {q:Rat} (h:lo≤H.length):cR lo 3 (.ptr H.length 0 0 0) (bR q) (H++[cell0])=some (H++[.row 0 [bR q] 3 true]):=by
 rw[gA (g:=0) (e:=3) (j:=0) A8 (by exact Nat.zero_lt_one) h rfl rfl,J2]
 rfl
theorem adC {H K:aA} {q:Rat}:dN true 3 (.ptr H.length 0 0 0) (H ++ .row 0 [bR q] 3 true::K)=some (bR q):=by
 rw[jB,Jp,bK]
 exact dP _
theorem SW {lo:Nat} {H:aA} {v:VV} (qs:List Rat) {B:Nat} (hv:Rd bR 3 qs H v) (iC:lo≤H.length) (hb:∀q∈qs,cW q≤B) (hk:qs.length*(B+1)+1≤1099511627776) (hB:B≤1099511627776) (hn:qs.length≤1000000000) :
  oO 148 [v] lo H (Yd (fun _ _ _ r=>r=bR (uS qs)) H):=by
 refine oO.walk ⟨true,false⟩ R6 (Nat.le_of_ble_eq_true rfl) ?_
 have e1:TC 97 [VI 0] (bR 0):=vV 0 (by decide) (by decide)
 have e2:=hv.len (H++[cell0,.row 0 [bR 0] 3 true]) (List.prefix_append _ _)
 have s0:cR lo 3 (.ptr (H.length+1) 0 0 0) (bR 0) (H++[cell0,cell0])=some (H++[cell0,.row 0 [bR 0] 3 true]):=by
  have:=Rg (lo:=lo) (H:=H++[cell0]) (q:=0) (by rw[List.length_append];omega)
  simpa only[List.length_append,List.length_cons,List.length_nil,Nat.zero_add,List.append_assoc,List.cons_append,List.nil_append] using this
 simp only[Qf,Kk,e1,e2,s0,List.length_append,List.length_cons,List.length_nil,List.append_assoc,List.cons_append,List.nil_append,VEX,VX,Nat.reduceEqDiff,Nat.reduceAdd,Nat.reduceLeDiff,Nat.reduceLT,Nat.reduceSub]
 refine bC (fun(i:Nat) ρ H1=>i≤qs.length∧H <+: H1∧aP H1 H.length 0=some ([rz],3,true)∧aP H1 (H.length+1) 0=some ([bR (uS (qs.take i))],3,true)∧ρ 2 = .ptr H.length 0 0 0∧ρ 3 = .ptr (H.length+1) 0 0 0∧ρ 7=v∧ρ 8=VI qs.length∧ρ 9=VI i) (fun i=>qs.length-i) 0 ⟨Nat.zero_le _,List.prefix_append _ _,Jp.trans bK,N0.trans (qZ.trans bK),rfl,rfl,rfl,rfl,rfl⟩ ?_
 rintro i ρ H1 ⟨hi,hp,OW,OV,g2,g3,g7,g8,g9⟩
 have Dg:=F7 OV
 by_cases cQ:(i:Int)<(qs.length:Int)
 ·obtain⟨q,hq⟩:∃q,qs[i]? = some q:=⟨_,List.getElem?_eq_getElem (by omega)⟩
  obtain⟨p,a1,a2⟩:=hv.get H1 hp i q hq
  have a2':=(a2 true).trans (dP _)
  have wi:IntKind.i64.wrap ((i:Int)+1)=((i+1:Nat):Int):=wrapN (i+1) (by omega) (by omega)
  have h1:=Bl hb i
  have h2:=hb q (List.mem_of_getElem? hq)
  have h3:(i+1)*(B+1)≤qs.length*(B+1):=Nat.mul_le_mul_right _ (by omega)
  have e3:=Cr (uS (qs.take i)) q (by omega) (by omega)
  rw[←Mw hq] at e3
  have s1:=Rg (lo:=lo) (H:=H1) (q:=q) (by omega)
  have s2:=adC (H:=H1) (K:=[]) (q:=q)
  have s3:dN true 3 (.ptr (H.length+1) 0 0 0) (H1++[.row 0 [bR q] 3 true])=some (bR (uS (qs.take i))):=by
   rw[jB,yE OV]
   exact dP _
  have s4:=gA (lo:=lo) (v:=bR (uS (qs.take (i+1)))) (j:=0) (yE (L:=[.row 0 [bR q] 3 true]) OV) (by exact Nat.zero_lt_one) (by omega) rfl rfl
  rw[List.set_cons_zero] at s4
  simp only[CI,g2,g3,g7,g8,g9,cQ,a1,a2',e3,s1,s2,s3,s4,wi,dP,VEX,VX,Nat.reduceEqDiff,Nat.reduceAdd,Nat.reduceLeDiff,Nat.reduceLT,Nat.reduceSub]
  exact⟨i+1,by omega,by omega,F8 (XE hp) (by omega),dQ (by omega) (yE OW),kM (yE OV),by (repeat' apply And.intro)<;>first | rfl | trivial | assumption⟩
 ·have qR:i=qs.length:=by omega
  subst qR
  rw[List.take_length] at OV
  have s3:dN true 3 (.ptr (H.length+1) 0 0 0) H1=some (bR (uS qs)):=by
   rw[jB,OV]
   exact dP _
  have s4:=gA (lo:=lo) (v:=bR (uS qs)) (j:=0) OW (by exact Nat.zero_lt_one) iC rfl rfl
  rw[List.set_cons_zero] at s4
  have s5:dN true 3 (.ptr H.length 0 0 0) (H1.set H.length (.row 0 [bR (uS qs)] 3 true))=some (bR (uS qs)):=by
   rw[jB,kM OW]
   exact dP _
  simp only[CI,g2,g3,g8,g9,cQ,s3,s4,s5,VEX,VX,Nat.reduceEqDiff,Nat.reduceAdd,Nat.reduceLeDiff,Nat.reduceLT,Nat.reduceSub]
  exact⟨F8 hp (Nat.le_refl _),rfl⟩
theorem M7 {q:Rat}:kR q<0↔q<0:=by
 have e:q.num<0↔q<0:=by rw[←Int.not_le,Rat.num_nonneg];constructor<;>intro h<;>grind
 rw[←e]
 rcases Int.lt_trichotomy q.num 0 with h | h | h
 ·rw[oT h];omega
 ·rw[kO h];omega
 ·rw[pE h];omega
theorem Ke (q:Rat):TC 147 [bR q] (VB (decide (q<0))):=by
 refine TC.walk ⟨true,false⟩ J8 rfl (Nat.le_of_ble_eq_true rfl) (by simp[aJ,jR]) rfl ?_
 have e1:=iX q
 by_cases h:kR q<0
 ·rw[decide_eq_true (M7.1 h)]
  simp only[Bw,yO,e1,h,aF,cB,dP,aS,aT,aN,fD,Nat.reduceLeDiff,Nat.reduceLT,Nat.reduceSub,dU,aR,aX,cC,dJ,gR,bne_iff_ne,ne_eq,not_false_eq_true,not_true_eq_false,VX,Nat.reduceEqDiff,Nat.reduceAdd]
  exact aG rfl
 ·rw[decide_eq_false (mt M7.2 h)]
  simp only[Bw,yO,e1,h,aF,cB,dP,aS,aT,aN,fD,Nat.reduceLeDiff,Nat.reduceLT,Nat.reduceSub,dU,aR,aX,cC,dJ,gR,bne_iff_ne,ne_eq,not_false_eq_true,not_true_eq_false,VX,Nat.reduceEqDiff,Nat.reduceAdd]
  exact aG rfl
theorem BC (xs:List Rat) (g:Nat) (p:Rat→Bool) (hg:∀x∈xs,TC g [bR x] (VB (p x))) (hn:xs.length≤1000000000) :
  ∃k:Int,(0≤k↔xs.any p=true)∧TC 205 [aL bR xs,.uG g []] (VI k):=by
 refine⟨match xs.findIdx? p with | some i=>i | none => -1,?_,?_⟩
 ·cases h:xs.findIdx? p with
  |
   none =>
   rw[List.findIdx?_eq_none_iff] at h
   simp only[List.any_eq_true]
   constructor
   ·intro h';omega
   ·rintro⟨x,hx,hp⟩;rw[h x hx] at hp;cases hp
  |
   some i =>
   simp only[List.any_eq_true]
   obtain⟨hi,hp,_⟩:=List.findIdx?_eq_some_iff_getElem.1 h
   exact⟨fun _=>⟨_,List.getElem_mem hi,hp⟩,fun _=>by omega⟩
 ·refine TC.walk ⟨true,false⟩ nW rfl (Nat.le_of_ble_eq_true rfl) (by simp[aJ,kZ];rfl) rfl ?_
  simp only[iU,iF,VX,Nat.reduceEqDiff,Nat.reduceAdd]
  refine bC (fun(i:Nat) ρ H=>i≤xs.length∧H=[]∧(∀j x,j<i→xs[j]? = some x→p x=false)∧ρ 0=aL bR xs∧ρ 1 = .uG g []∧ρ 7=VI xs.length∧ρ 8=VI i) (fun i=>xs.length-i) 0 ⟨Nat.zero_le _,rfl,fun j x h=>by omega,rfl,rfl,rfl,rfl⟩ ?_
  rintro i ρ H ⟨hi,rfl,lP,h0,h1,h7,h8⟩
  by_cases cQ:(i:Int)<(xs.length:Int)
  ·obtain⟨x,hx⟩:∃x,xs[i]? = some x:=⟨_,List.getElem?_eq_getElem (by omega)⟩
   have e1:=aI (f:=bR) (t := .op) (H:=[]) (size:=3) (k := .i64) hx rfl
   have wi:IntKind.i64.wrap ((i:Int)+1)=((i+1:Nat):Int):=wrapN (i+1) (by omega) (by omega)
   have e2:=hg x (List.mem_of_getElem? hx)
   cases hp:p x with
   |
    false =>
    rw[hp] at e2
    simp only[cG,h0,h1,h7,h8,cQ,e1,e2,wi,Bk,List.append_nil,aF,cB,dP,aS,aT,aN,VX,Nat.reduceEqDiff,Nat.reduceAdd]
    refine⟨i+1,by omega,by omega,fun j y hj hy => ?_,by (repeat' apply And.intro)<;>first | rfl | trivial⟩
    rcases Nat.lt_or_ge j i with Km | Km
    ·exact lP j y Km hy
    ·have:j=i:=by omega
     subst this
     rw[hx] at hy
     injection hy with hy
     exact hy▸hp
   |
    true =>
    rw[hp] at e2
    simp only[cG,h0,h1,h7,h8,cQ,e1,e2,wi,Bk,List.append_nil,aF,cB,dP,aS,aT,aN,VX,Nat.reduceEqDiff,Nat.reduceAdd]
    have:xs.findIdx? p=some i:=by
     rw[List.findIdx?_eq_some_iff_getElem]
     obtain⟨bD,DT⟩:=List.getElem?_eq_some_iff.1 hx
     exact⟨bD,by rw[DT];exact hp,fun j hj=>by
      have:=lP j _ hj (List.getElem?_eq_getElem (by omega))
      simp[this]⟩
    rw[this]
    exact aG rfl
  ·simp only[cG,h0,h1,h7,h8,cQ,VX,Nat.reduceEqDiff,Nat.reduceAdd]
   have:xs.findIdx? p=none:=by
    rw[List.findIdx?_eq_none_iff]
    intro x hx
    obtain⟨j,hj⟩:=List.getElem?_of_mem hx
    exact lP j x (by have:=(List.getElem?_eq_some_iff.1 hj).1;omega) hj
   rw[this]
   exact aG rfl
theorem zB (xs:List Rat) (g:Nat) (p:Rat→Bool) (hg:∀x∈xs,TC g [bR x] (VB (p x))) (hn:xs.length≤1000000000):TC 146 [aL bR xs,.uG g []] (VB (xs.any p)):=by
 refine TC.walk ⟨true,false⟩ mJ rfl (Nat.le_of_ble_eq_true rfl) (by simp[aJ,kZ];rfl) rfl ?_
 obtain⟨k,hk,hc⟩:=BC xs g p hg hn
 have e:decide (0≤k)=xs.any p:=by
  cases h:xs.any p with
  | true=>rw[decide_eq_true (hk.2 h)]
  | false=>rw[decide_eq_false fun h'=>by rw[hk.1 h'] at h;cases h]
 simp only[gQ,gC,hc,e,VX,Nat.reduceEqDiff,Nat.reduceAdd]
 exact aG rfl
def hC (qs:List Rat):Bool := !(qs.any fun q=>decide (q<0))&&decide (uS qs=1)
def fB (xs:List ByteArray):Option (List Rat):=match zT xs with
 | some qs=>if hC qs=true then some qs else none
 | none=>none
theorem Al {xs:List ByteArray} {qs:List Rat} (h:fB xs=some qs):zT xs=some qs∧hC qs=true:=by
 unfold fB at h
 split at h
 ·rename_i ps hp
  split at h
  ·rename_i hw
   cases h
   exact⟨hp,hw⟩
  ·cases h
 ·cases h
theorem J1 {n:Nat} (h:n≤300):n*(665+1)+1≤1099511627776:=by omega
theorem zP {xs:List ByteArray} {qs:List Rat} (h:zT xs=some qs):fB xs=if hC qs=true then some qs else none:=by unfold fB;rw[h]
theorem C3 {xs:List ByteArray} (h:zT xs=none):fB xs=none:=by unfold fB;rw[h]
theorem tX:Ii none = .dL [aL bR [],VB false]:=rfl
theorem Bf (qs:List Rat):Ii (some qs) = .dL [aL bR qs,VB true]:=rfl
set_option maxHeartbeats 1000000 in
theorem AM (xs:List ByteArray) (hn:xs.length≤1000000000) (hs:∀s∈xs,s.size≤1000000000):TC 114 [dI xs] (Ii (fB xs)):=by
 refine TC.walk ⟨true,false⟩ Gt rfl (Nat.le_of_ble_eq_true rfl) (by simp[aJ,dG]) (Mi _) ?_
 have e1:=Rj xs hn hs
 cases h:zT xs with
 |
  none =>
  rw[h,tX] at e1
  rw[C3 h,tX]
  simp only[nY,lL,e1,VX,Nat.reduceEqDiff,Nat.reduceAdd]
  exact xL
 |
  some qs =>
  rw[h,Bf] at e1
  rw[zP h]
  obtain⟨hb,hl,_⟩:=tD h
  have e2:=zB qs 147 (fun q=>decide (q<0)) (fun q _=>Ke q) (by omega)
  have hm:qs.length*666≤199800:=by omega
  have e3:=fun(K:aA)=>SW (lo:=0) (H:=K) (v:=aL bR qs) qs (B:=665) (Rd.tree G9) (Nat.zero_le _) hb (J1 hl) (by decide) (by omega)
  have W6:=Bl hb qs.length
  rw[List.take_length] at W6
  have e4:=GM (uS qs) (by omega)
  cases I6:qs.any (fun q=>decide (q<0)) with
  |
   true =>
   rw[I6] at e2
   have hw:¬hC qs=true:=by unfold hC;rw[I6];simp
   rw[if_neg hw,tX]
   simp only[nY,lL,e1,e2,VX,Nat.reduceEqDiff,Nat.reduceAdd]
   exact xL
  |
   false =>
   rw[I6] at e2
   by_cases V9:uS qs=1
   ·rw[decide_eq_true V9] at e4
    have hw:hC qs=true:=by unfold hC;rw[I6,decide_eq_true V9];rfl
    rw[if_pos hw,Bf]
    simp only[nY,lL,e1,e2,VX,Nat.reduceEqDiff,Nat.reduceAdd]
    refine Et rfl (e3 _) fun r L hr => ?_
    subst hr
    simp only[e4,VX,Nat.reduceEqDiff,Nat.reduceAdd]
    exact aG (U7 (kZ _) rfl)
   ·rw[decide_eq_false V9] at e4
    have hw:¬hC qs=true:=by unfold hC;rw[I6,decide_eq_false V9];simp
    rw[if_neg hw,tX]
    simp only[nY,lL,e1,e2,VX,Nat.reduceEqDiff,Nat.reduceAdd]
    refine Et rfl (e3 _) fun r L hr => ?_
    subst hr
    simp only[e4,VX,Nat.reduceEqDiff,Nat.reduceAdd]
    exact xL
end Go.PM
namespace Go.PM
open Go.Lib
end Go.PM
namespace Go.PM
open Go.Lib
theorem Yn (d:Nat) (h:d≤9223372036854775807):TC 235 [VI (d:Int)] (aW (decDigits d)):=by
 have:=LP (d:Int) (by omega) (by omega)
 rw[if_neg (by omega),List.nil_append,Int.natAbs_natCast] at this
 exact this
theorem Y4 {n i:Nat} (hi:i+1=(aC 1000000000 n).length):n / 1000000000^i=n / 1000000000^i % 1000000000:=by
 have h1:=Wr (b:=1000000000) (by decide) n (i+1)
 rw[List.drop_of_length_le (by omega)] at h1
 have h2:=(lM (b:=1000000000) (by decide)).1 h1.symm
 rw[rD] at h2
 rcases Nat.div_eq_zero_iff.1 h2 with h | h
 ·exact absurd h (by decide)
 ·exact(Nat.mod_eq_of_lt h).symm
theorem Ib (l:List UInt8) (a b:Nat):(⟨l.toArray⟩:ByteArray).extract a b=⟨((l.drop a).take (b-a)).toArray⟩:=by
 rw[ByteArray.ext_iff,ByteArray.data_extract]
 simp[List.extract_toArray,List.extract_eq_take_drop]
theorem ZO (l:List UInt8) {a b:Nat} (h:a≤b) (hb:b≤l.length):vA (aW l) (some (VI (a:Int))) (some (VI (b:Int)))=some (aW ((l.drop a).take (b-a))):=by
 have hs:(⟨l.toArray⟩:ByteArray).size=l.length:=by simp[ByteArray.size]
 have e1:(0:Int)≤b∧(b:Int)≤(l.length:Int):=by omega
 have e2:(0:Int)≤a∧(a:Int)≤(b:Int):=by omega
 simp only[vA,FB,zS,hs,eV,e1,e2,and_self,if_true,Int.toNat_natCast,Ib]
theorem Nx (l:List UInt8) {a:Nat} (h:a≤l.length):vA (aW l) (some (VI (a:Int))) none=some (aW (l.drop a)):=by
 have hs:(⟨l.toArray⟩:ByteArray).size=l.length:=by simp[ByteArray.size]
 have e2:(0:Int)≤a∧(a:Int)≤(l.length:Int):=by omega
 simp only[vA,FB,zS,hs,eV,e2,and_self,if_true,Int.toNat_natCast,Ib]
 rw[List.take_of_length_le (by simp)]
theorem alX (l:List UInt8) (h:1≤l.length):vA (aW l) (some (VI 1)) none=some (aW (l.drop 1)):=Nx l h
theorem W0 {a:Nat} (h:a<1000000000):IntKind.i64.wrap ((a:Int)+1000000000)=((a+1000000000:Nat):Int):=wrapN _ (by omega) (by omega)
theorem nQ (n:Nat) (hn:bl n≤2199023255552):TC 212 [bQ n] (aW (decDigits n)):=by
 refine TC.walk ⟨true,false⟩ FD rfl (Nat.le_of_ble_eq_true rfl) (by simp[aJ,bZ]) rfl ?_
 by_cases h0:n=0
 ·subst h0
  have hl:(((aC 1000000000 0).length:Nat):Int)=0:=by rw[bW];rfl
  simp only[vH,rU,cO,hl,VX,Nat.reduceEqDiff,Nat.reduceAdd]
  rw[iR (by decide)]
  exact aG rfl
 have hl:¬(((aC 1000000000 n).length:Nat):Int)=0:=by have:=(xT (n:=n)).2 h0;omega
 obtain⟨L,hL⟩:∃L,(aC 1000000000 n).length=L+1:=⟨(aC 1000000000 n).length-1,by omega⟩
 have Df:=oI (n:=n) (by omega)
 have hlT:=afD n
 have hdl:=AA n
 have w1:IntKind.i64.wrap (((L+1:Nat):Int)-1)=(L:Int):=wrapN _ (by omega) (by omega)
 have w2:IntKind.i64.wrap (((L+1:Nat):Int)-2)=(L:Int)-1:=by rw[wrap64 (by omega) (by omega)];omega
 have at':∀i,i≤L→bJ 1 (bQ n) (VI (i:Int)) []=some (.cK (tV (n / 1000000000^i % 1000000000)) 0):=fun i hi=>aI (f:=tV) (t := .op) (H:=[]) (size:=1) (k := .i64) (JH (b:=1000000000) (by decide) (n:=n) (i:=i) (by omega)) rfl
 have eL:=at' L (Nat.le_refl _)
 have X6:=Y4 (n:=n) (i:=L) (by omega)
 rw[←X6] at eL
 have O4:n / 1000000000^L≠0:=(Dx (b:=1000000000) (by decide)).1 (by omega)
 have hqT:n / 1000000000^L<1000000000:=by rw[X6];exact Nat.mod_lt _ (by decide)
 have c1:=Yn (n / 1000000000^L) (by omega)
 rw[hL] at hl
 simp only[vH,rU,cO,hL,hl,w1,w2,eL,c1,VX,Nat.reduceEqDiff,Nat.reduceAdd]
 refine bC (fun(j:Nat) ρ H=>j≤L∧H=[]∧ρ 0=bQ n∧ρ 3=aW (decDigits (n / 1000000000^j))∧ρ 4=VI ((j:Int)-1)) (fun j=>j) L ⟨Nat.le_refl _,rfl,rfl,rfl,rfl⟩ ?_
 rintro j ρ H ⟨hj,rfl,g0,g3,g4⟩
 by_cases hz:(0:Int)≤(j:Int)-1
 ·obtain⟨i,rfl⟩:∃i,j=i+1:=⟨j-1,by omega⟩
  have Km:((i+1:Nat):Int)-1=(i:Int):=by omega
  rw[Km] at g4 hz
  have e1:=at' i (by omega)
  have hm:=Nat.mod_lt (n / 1000000000^i) (show 0<1000000000 by decide)
  have hq1:n / 1000000000^(i+1)≠0:=(Dx (b:=1000000000) (by decide)).1 (by omega)
  have hdm:=Nat.mod_add_div (n / 1000000000^i) 1000000000
  rw[←rD] at hdm
  have hch:=G3 (Nat.pos_of_ne_zero hq1) hm
  have hle:n / 1000000000^i≤n:=Nat.div_le_self _ _
  have XX:=AA (n / 1000000000^i)
  have hbi:=kV hle
  rw[show n / 1000000000^(i+1)*1000000000+n / 1000000000^i % 1000000000=n / 1000000000^i by omega] at hch
  generalize hAA:n / 1000000000^i=A at *
  generalize n / 1000000000^(i+1)=B at *
  have w4:IntKind.i64.wrap ((i:Int)-1)=(i:Int)-1:=wrap64 (by omega) (by omega)
  have c2:=Yn (A % 1000000000+1000000000) (by omega)
  rw[adR hm] at c2
  have e2:=alX (d10 1::B8 9 (A % 1000000000)) (by simp)
  rw[List.drop_succ_cons,List.drop_zero] at e2
  have hlen:=congrArg List.length hch
  rw[List.length_append] at hlen
  have a1:=uC (decDigits B) (B8 9 (A % 1000000000)) (by omega)
  rw[←hch] at a1
  have auY:i≤L:=by omega
  have hmu:i<i+1:=by omega
  have w3:=W0 hm
  simp only[qK,g0,g3,g4,hz,e1,w3,w4,c2,e2,a1,VX,Nat.reduceEqDiff,Nat.reduceAdd]
  refine⟨i,hmu,auY,?_⟩
  rw[hAA]
  exact⟨rfl,rfl⟩
 ·have RZ:j=0:=by omega
  subst RZ
  rw[Nat.pow_zero,Nat.div_one] at g3
  simp only[qK,g0,g3,g4,hz,VX,Nat.reduceEqDiff,Nat.reduceAdd]
  exact aG rfl
theorem KS (q:Rat) (hk:cW q≤1099511627776):TC 176 [bX q] (VB (BQ q)):=by
 refine TC.walk ⟨true,false⟩ KV rfl (Nat.le_of_ble_eq_true rfl) (by simp[aJ,wP]) rfl ?_
 have la:=tU hk
 have lb:=tQ hk
 have t1:=nQ q.num.natAbs (by omega)
 have t2:=nQ q.den (by omega)
 have hf:BQ q=(decide (((decDigits q.num.natAbs).length:Int)≤200)&&decide (((decDigits q.den).length:Int)≤200)):=by
  unfold BQ
  congr 1<;>exact decide_eq_decide.2 (by omega)
 rw[hf]
 by_cases hl:((decDigits q.num.natAbs).length:Int)≤200
 ·simp only[Bo,xO,t1,t2,hl,bF,bO,lR,oG,oD,aK,fD,Nat.reduceLeDiff,Nat.reduceLT,Nat.reduceSub,VX,Nat.reduceEqDiff,Nat.reduceAdd]
  exact aG rfl
 ·simp only[Bo,xO,t1,t2,hl,bF,bO,lR,oG,oD,aK,fD,Nat.reduceLeDiff,Nat.reduceLT,Nat.reduceSub,VX,Nat.reduceEqDiff,Nat.reduceAdd]
  exact aG rfl
theorem La (q:Rat) (hk:cW q≤1099511627776):TC 163 [bX q] (aW (KX q)):=by
 refine TC.walk ⟨true,false⟩ K0 rfl (Nat.le_of_ble_eq_true rfl) (by simp[aJ,wP]) rfl ?_
 have la:=tU hk
 have lb:=tQ hk
 have t1:=nQ q.num.natAbs (by omega)
 have t2:=nQ q.den (by omega)
 have d1:=AA q.num.natAbs
 have d2:=AA q.den
 have c1:∀lo H K,_:=fun lo H K=>Je (n:=q.den) (lo:=lo) (H:=H) (K:=K) (Nat.le_of_lt (oI (by omega)))
 have a1:dF .add (.string ⟨#[45]⟩) (.string ⟨(decDigits q.num.natAbs).toArray⟩)=some (.string ⟨(45::decDigits q.num.natAbs).toArray⟩):=uC [45] _ (by simp only[List.length_cons,List.length_nil];omega)
 have a2:dF .add (.string ⟨#[47]⟩) (.string ⟨(decDigits q.den).toArray⟩)=some (.string ⟨(47::decDigits q.den).toArray⟩):=uC [47] (decDigits q.den) (by simp only[List.length_cons,List.length_nil];omega)
 have a3:=uC (45::decDigits q.num.natAbs) (47::decDigits q.den) (by simp only[List.length_cons];omega)
 have a4:=uC (decDigits q.num.natAbs) (47::decDigits q.den) (by simp only[List.length_cons];omega)
 have hs:KX q=(if q.num<0 then (45::decDigits q.num.natAbs) else decDigits q.num.natAbs)++(if q.den=1 then [] else 47::decDigits q.den):=by
  unfold KX
  by_cases hn:q.num<0
  ·rw[if_pos hn,if_pos hn];rfl
  ·rw[if_neg hn,if_neg hn];rfl
 rw[hs]
 by_cases hd:fC q.den 1=0
 ·rw[if_pos (wU.1 hd),List.append_nil]
  by_cases hn:q.num<0
  all_goals
   simp only[Bt,xK,t1,t2,a1,a2,a3,a4,c1,hd,hn,dM,bO,lR,oG,oD,aK,fD,Nat.reduceLeDiff,Nat.reduceLT,Nat.reduceSub,VX,Nat.reduceEqDiff,Nat.reduceAdd]
   exact aG rfl
 ·rw[if_neg (mt wU.2 hd)]
  by_cases hn:q.num<0
  all_goals
   simp only[Bt,xK,t1,t2,a1,a2,a3,a4,c1,hd,hn,dM,bO,lR,oG,oD,aK,fD,Nat.reduceLeDiff,Nat.reduceLT,Nat.reduceSub,VX,Nat.reduceEqDiff,Nat.reduceAdd]
   exact aG rfl
theorem Ko (q:Rat) (hk:cW q≤1099511627776):TC 93 [bX q] (BY q):=by
 refine TC.walk ⟨true,false⟩ Jx rfl (Nat.le_of_ble_eq_true rfl) (by simp[aJ,wP]) (G1 q) ?_
 have t1:=KS q hk
 have t2:=La q hk
 unfold BY
 by_cases h:BQ q=true
 ·rw[h] at t1
  rw[if_pos h]
  simp only[BN,xP,t1,t2,bO,gO,dB,aK,fD,Nat.reduceLeDiff,Nat.reduceLT,Nat.reduceSub,VX,Nat.reduceEqDiff,Nat.reduceAdd]
  exact aG rfl
 ·have h':BQ q=false:=by simpa using h
  rw[h'] at t1
  rw[if_neg h]
  simp only[BN,xP,t1,bO,gO,dB,aK,fD,Nat.reduceLeDiff,Nat.reduceLT,Nat.reduceSub,VX,Nat.reduceEqDiff,Nat.reduceAdd]
  exact aG rfl
end Go.PM
namespace Go.PM
open Go.Lib
def gZ (c:UInt8):List UInt8→List (List UInt8)
 | []=>[[]]
 |
  x::r=>if x=c then []::gZ c r else match gZ c r with
  | []=>[[x]]
  | a::t=>(x::a)::t
theorem JJ {c:UInt8} {r:List UInt8}:∀ {a:List UInt8},c∉a→gZ c (a++c::r)=a::gZ c r:=by
 intro a
 induction a with
 | nil=>intro _;rw[List.nil_append,gZ,if_pos rfl]
 |
  cons x a ih =>
  intro h
  rw[List.mem_cons,not_or] at h
  rw[List.cons_append,gZ,if_neg (fun he=>h.1 he.symm),ih h.2]
theorem E1 {c:UInt8}:∀ {a:List UInt8},c∉a→gZ c a=[a]:=by
 intro a
 induction a with
 | nil=>intro _;rfl
 |
  cons x a ih =>
  intro h
  rw[List.mem_cons,not_or] at h
  rw[gZ,if_neg (fun he=>h.1 he.symm),ih h.2]
theorem RU {c:UInt8} (l:List UInt8):gZ c l≠[]:=by
 cases l with
 | nil=>simp[gZ]
 |
  cons x r =>
  rw[gZ]
  split
  ·simp
  ·split<;>simp
theorem Pr {c:UInt8} {l:List UInt8} (h:(lS c l).2=none):gZ c l=[l]:=E1 (AR h).2.2
theorem HT {c:UInt8} {l r:List UInt8} (h:(lS c l).2=some r):gZ c l=(lS c l).1::gZ c r:=by
 obtain⟨_,h2,h3⟩:=GN h
 have:=JJ (r:=r) h3
 rw[←h2] at this
 exact this
theorem QH {c:UInt8} {l:List UInt8} (h:c∈l):2≤(gZ c l).length:=by
 cases hc:(lS c l).2 with
 | none=>exact absurd h (AR hc).2.2
 |
  some r =>
  rw[HT hc,List.length_cons]
  have:=List.length_pos_iff.2 (RU (c:=c) r)
  omega
theorem WO {l:List UInt8} {i:Nat} (h:i<l.length):(l.take (i+1)).all iL=((l.take i).all iL&&iL (l.getD i 0)):=by
 rw[List.take_add_one,List.all_append]
 have:l[i]? = some (l.getD i 0):=by rw[List.getElem?_eq_getElem h,List.getD_eq_getElem?_getD,List.getElem?_eq_getElem h];rfl
 rw[this]
 simp
set_option maxHeartbeats 1000000 in
theorem oY (l:List UInt8) (hl:l.length≤1000000000000):TC 223 [aW l] (VB (iD l)):=by
 refine TC.walk ⟨true,false⟩ GO rfl (Nat.le_of_ble_eq_true rfl) rfl rfl ?_
 simp only[CP,AP,VX,Nat.reduceEqDiff,Nat.reduceAdd]
 refine bC (fun(i:Nat) ρ H=>i≤l.length∧H=[]∧(l.take i).all iL=true∧ρ 0=aW l∧ρ 3=VI i) (fun i=>l.length-i) 0 ⟨Nat.zero_le _,rfl,rfl,rfl,rfl⟩ ?_
 rintro i ρ H ⟨hi,rfl,hd,g0,g3⟩
 by_cases cQ:(i:Int)<(l.length:Int)
 ·have Si:i<l.length:=by omega
  have e1:=C1 l Si
  have wi:IntKind.i64.wrap ((i:Int)+1)=((i+1:Nat):Int):=wrapN (i+1) (by omega) (by omega)
  have ht:=WO Si
  rw[hd,Bool.true_and] at ht
  have SK:iL (l.getD i 0)=(decide (48≤(l.getD i 0).toNat)&&decide ((l.getD i 0).toNat≤57)):=rfl
  have lP:iL (l.getD i 0)=false→iD l=false:=by
   intro h
   rw[h] at ht
   have:l.all iL=false:=by rw[←List.take_append_drop (i+1) l,List.all_append,ht,Bool.false_and]
   unfold iD
   rw[this]
   rfl
  generalize (l.getD i 0).toNat=c at *
  by_cases q1:(c:Int)<48
  ·rw[lP (by rw[SK,decide_eq_false (by omega)];rfl)]
   simp only[dH,g0,g3,bF,cQ,e1,q1,VX,Nat.reduceEqDiff,Nat.reduceAdd]
   exact aG rfl
  ·by_cases q2:(57:Int)<(c:Int)
   ·rw[lP (by rw[SK,decide_eq_false (show ¬c≤57 by omega),Bool.and_false])]
    simp only[dH,g0,g3,bF,cQ,e1,q1,q2,VX,Nat.reduceEqDiff,Nat.reduceAdd]
    exact aG rfl
   ·rw[SK,decide_eq_true (by omega),decide_eq_true (by omega),Bool.and_self] at ht
    simp only[dH,g0,g3,bF,cQ,e1,q1,q2,wi,VX,Nat.reduceEqDiff,Nat.reduceAdd]
    exact⟨i+1,by omega,by omega,ht,rfl⟩
 ·have qR:i=l.length:=by omega
  subst qR
  rw[List.take_length] at hd
  by_cases h1:(1:Int)≤(l.length:Int)
  ·by_cases h2:(l.length:Int)≤200
   ·by_cases h3:(l.length:Int)=1
    ·rw[jS.2 ⟨hd,by omega,by omega,.inl (by omega)⟩]
     simp only[dH,g0,g3,bF,cQ,ge_iff_le,h1,h2,h3,Int.reduceLE,Int.reduceLT,VX,Nat.reduceEqDiff,Nat.reduceAdd]
     exact aG rfl
    ·have e1:=GQ l (by omega)
     by_cases h4:(((l.getD 0 0).toNat:Int)=48)
     ·have hk:iD l=false:=by
       cases h:iD l with
       | false=>rfl
       |
        true =>
        rcases(jS.1 h).2.2.2 with h5 | h5
        ·omega
        ·exact absurd (UInt8.toNat_inj.1 (by rw[show (48:UInt8).toNat=48 from rfl];omega)) h5
      rw[hk]
      simp only[dH,g0,g3,bF,cQ,ge_iff_le,h1,h2,h3,h4,e1,VX,Nat.reduceEqDiff,Nat.reduceAdd]
      exact aG rfl
     ·have h5:l.getD 0 0≠48:=fun h=>h4 (by rw[h];rfl)
      rw[jS.2 ⟨hd,by omega,by omega,.inr h5⟩]
      simp only[dH,g0,g3,bF,cQ,ge_iff_le,h1,h2,h3,h4,e1,VX,Nat.reduceEqDiff,Nat.reduceAdd]
      exact aG rfl
   ·have hk:iD l=false:=by
     cases h:iD l with
     | false=>rfl
     | true=>have:=(jS.1 h).2.2.1;omega
    rw[hk]
    simp only[dH,g0,g3,bF,cQ,ge_iff_le,h1,h2,VX,Nat.reduceEqDiff,Nat.reduceAdd]
    exact aG rfl
  ·have hk:iD l=false:=by
    cases h:iD l with
    | false=>rfl
    | true=>have:=(jS.1 h).2.1;omega
   rw[hk]
   simp only[dH,g0,g3,bF,cQ,ge_iff_le,h1,VX,Nat.reduceEqDiff,Nat.reduceAdd]
   exact aG rfl
set_option maxHeartbeats 1000000 in
theorem D6 (l:List UInt8) (c:UInt8) (hl:l.length≤1000000000000):TC 222 [aW l,.sc (.int .u8 (c.toNat:Int))] (aL aW (gZ c l)):=by
 refine TC.walk ⟨true,false⟩ LH rfl (Nat.le_of_ble_eq_true rfl) rfl (xF (size:=1) (fun _=>rfl) (fun _=>rfl) fun _=>rfl) ?_
 have e3:∀lr,pT lr [.string ⟨#[]⟩] 0 [] []=some (.ref 0 0 0 0 0,[.row 0 (([]:List (List UInt8)).map aW) 1 true]):=fun lr=>oH (H:=[]) (lr:=lr) (z:=[.string ⟨#[]⟩]) rfl
 have e4:∀(x:List UInt8) (H:aA),pT false [.string ⟨#[]⟩] 1 [(0,aW x)] H=some (.tree [aW x] (.cl 1),H):=fun x H=>pN (z:=[.string ⟨#[]⟩]) rfl rfl rfl
 have e5:∀(x:List UInt8) (H:aA),eW 1 (.tree [aW x] (.cl 1)) H=some [aW x]:=fun x H=>lY rfl rfl
 simp only[HF,D7,e3,VX,Nat.reduceEqDiff,Nat.reduceAdd]
 refine bC (fun(s:List (List UInt8)×Nat×Nat) ρ H=>H=[.row s.1.length (s.1.map aW) 1 true]∧s.2.1≤s.2.2∧s.2.2≤l.length+1∧s.1.length≤s.2.1 ∧
  ((s.2.2≤l.length∧gZ c l=s.1++gZ c (l.drop s.2.1)∧c∉(l.drop s.2.1).take (s.2.2-s.2.1))∨(s.2.2=l.length+1∧gZ c l=s.1)) ∧
  ρ 0=aW l∧ρ 1 = .sc (.int .u8 (c.toNat:Int))∧ρ 5 = .ref 0 s.1.length 0 s.1.length s.1.length∧ρ 6=VI s.2.1∧ρ 7=VI s.2.2) (fun s=>l.length+1-s.2.2) ([],0,0) ⟨rfl,Nat.zero_le _,Nat.zero_le _,Nat.zero_le _,.inl ⟨Nat.zero_le _,rfl,by simp⟩,rfl,rfl,rfl,rfl,rfl⟩ ?_
 rintro⟨out,fr,i⟩ ρ H ⟨rfl,hfi,hi,iK,DN,g0,g1,g5,g6,g7⟩
 simp only at hfi hi iK DN g5 g6 g7
 by_cases cQ:(i:Int)≤(l.length:Int)
 ·have Si:i≤l.length:=by omega
  obtain⟨hp,hc⟩:gZ c l=out++gZ c (l.drop fr)∧c∉(l.drop fr).take (i-fr):=by
   rcases DN with⟨_,h1,h2⟩ | ⟨h,_⟩
   ·exact⟨h1,h2⟩
   ·omega
  have wi:IntKind.i64.wrap ((i:Int)+1)=((i+1:Nat):Int):=wrapN (i+1) (by omega) (by omega)
  have e2:=ZO l hfi Si
  have eP:=lT (f:=aW) (xs:=out) (x:=(l.drop fr).take (i-fr)) (lo:=0) (b:=0) (g:=out.length) (n:=out.length) (e:=1) (bytes:=16) (H:=[.row out.length (out.map aW) 1 true]) bK rfl (Nat.zero_le _) (by decide) (by decide) (by omega)
  have Hi:([.row out.length (out.map aW) 1 true]:aA).set 0 (.row (out.length+1) ((out++[(l.drop fr).take (i-fr)]).map aW) 1 true)=[.row (out.length+1) ((out++[(l.drop fr).take (i-fr)]).map aW) 1 true]:=rfl
  rw[Hi] at eP
  by_cases q1:i=l.length
  ·subst q1
   have Y8:gZ c l=out++[(l.drop fr).take (l.length-fr)]:=by
    rw[hp]
    have:(l.drop fr).take (l.length-fr)=l.drop fr:=List.take_of_length_le (by rw[List.length_drop];omega)
    rw[this] at hc ⊢
    rw[E1 hc]
   simp only[oN,g0,g1,g5,g6,g7,bF,cQ,eq_self,e2,e4,e5,eP,wi,VX,Nat.reduceEqDiff,Nat.reduceAdd]
   refine⟨(out++[(l.drop fr).take (l.length-fr)],l.length+1,l.length+1),by simp only;omega,?_,by simp only;omega,by simp only;omega,?_,.inr ⟨rfl,Y8⟩,?_⟩
   ·simp
   ·simp only[List.length_append,List.length_cons,List.length_nil];omega
   ·simp
  ·have abT:i<l.length:=by omega
   have q1':¬(i:Int)=(l.length:Int):=by omega
   have e1:=C1 l abT
   have hgd:l.drop i=l.getD i 0::l.drop (i+1):=by rw[List.drop_eq_getElem_cons abT,List.getD_eq_getElem?_getD,List.getElem?_eq_getElem abT];rfl
   by_cases q2:l.getD i 0=c
   ·have q2':((l.getD i 0).toNat:Int)=(c.toNat:Int):=by rw[q2]
    have Y8:gZ c l=(out++[(l.drop fr).take (i-fr)])++gZ c (l.drop (i+1)):=by
     have Q5:l.drop fr=(l.drop fr).take (i-fr)++c::l.drop (i+1):=by
      have h1:(l.drop fr).drop (i-fr)=l.drop i:=by rw[List.drop_drop];congr 1;omega
      conv=>lhs;rw[←List.take_append_drop (i-fr) (l.drop fr),h1,hgd,q2]
     rw[hp]
     conv=>lhs;rw[Q5]
     rw[JJ hc,List.append_assoc]
     rfl
    simp only[oN,g0,g1,g5,g6,g7,bF,cQ,q1',e1,q2',eq_self,e2,e4,e5,eP,wi,VX,Nat.reduceEqDiff,Nat.reduceAdd]
    refine⟨(out++[(l.drop fr).take (i-fr)],i+1,i+1),by simp only;omega,?_,by simp only;omega,by simp only;omega,?_,.inl ⟨by simp only;omega,Y8,by simp⟩,?_⟩
    ·simp
    ·simp only[List.length_append,List.length_cons,List.length_nil];omega
    ·simp
   ·have q2':¬((l.getD i 0).toNat:Int)=(c.toNat:Int):=fun h=>q2 (UInt8.toNat_inj.1 (by omega))
    simp only[oN,g0,g1,g5,g6,g7,bF,cQ,q1',e1,q2',wi,VX,Nat.reduceEqDiff,Nat.reduceAdd]
    refine⟨(out,fr,i+1),by simp only;omega,rfl,by simp only;omega,by simp only;omega,iK,.inl ⟨by simp only;omega,hp,?_⟩,rfl,rfl,rfl⟩
    simp only
    rw[show i+1-fr=(i-fr)+1 by omega,List.take_add_one,List.mem_append,not_or]
    refine⟨hc,?_⟩
    have:(l.drop fr)[i-fr]? = some (l.getD i 0):=by
     rw[List.getElem?_drop,show fr+(i-fr)=i by omega,List.getD_eq_getElem?_getD,List.getElem?_eq_getElem abT]
     rfl
    rw[this]
    simp
    exact fun h=>q2 h.symm
 ·have Y8:gZ c l=out:=by
   rcases DN with⟨h,_⟩ | ⟨_,h⟩
   ·omega
   ·exact h
  rw[Y8]
  simp only[oN,g0,g5,g7,bF,cQ,VX,Nat.reduceEqDiff,Nat.reduceAdd]
  exact EB (es:=out.map aW) bK (by simp) (Nat.le_refl _) (eO fun _=>rfl)
theorem ZW {l:List UInt8} (h:l.all iL=true) {i:Nat} (hi:i<l.length):48≤(l.getD i 0).toNat∧(l.getD i 0).toNat≤57:=by
 have:=List.all_eq_true.1 h (l.getD i 0) (by rw[List.getD_eq_getElem?_getD,List.getElem?_eq_getElem hi];exact List.getElem_mem hi)
 simpa[iL] using this
theorem Kj {l:List UInt8} (hd:l.all iL=true) (hl:l.length≤1000000000000) {fr tq:Nat} (hft:fr≤tq) (h9:tq-fr≤9) (htl:tq≤l.length) {H:aA} {lo:Nat} {ρ:cP} {Q:VQ} (h0:ρ 0=aW l) (h4:ρ 4=VI tq) (h6:ρ 6=VI 0) (h7:ρ 7=VI fr)
  (hQ:∀aZ,(∀t,t<6→aZ t=ρ t)→aZ 6=VI (bP ((l.drop fr).take (tq-fr)))→Q .normal aZ H):VW ⟨true,false⟩ lo (.loop mG) (Ai 2 Q) ρ H:=by
 refine bC (fun(i:Nat) aZ H'=>fr≤i∧i≤tq∧H'=H∧(∀t,t<6→aZ t=ρ t)∧aZ 6=VI (bP ((l.drop fr).take (i-fr)))∧aZ 7=VI i) (fun i=>tq-i) fr ⟨Nat.le_refl _,hft,rfl,fun _ _=>rfl,by rw[h6,Nat.sub_self];rfl,h7⟩ ?_
 rintro i aZ H' ⟨hfi,hi,rfl,hk,g6,g7⟩
 have g0:=(hk 0 (by decide)).trans h0
 have g4:=(hk 4 (by decide)).trans h4
 by_cases cQ:(i:Int)<(tq:Int)
 ·have Si:i<l.length:=by omega
  have e1:=C1 l Si
  obtain⟨c1,c2⟩:=ZW hd Si
  have wi:IntKind.i64.wrap ((i:Int)+1)=((i+1:Nat):Int):=wrapN (i+1) (by omega) (by omega)
  have hcd:((l.drop fr).take (i-fr)).all iL=true:=by
   rw[List.all_eq_true] at hd ⊢
   exact fun x hx=>hd x (List.mem_of_mem_drop (List.mem_of_mem_take hx))
  have bD:=Gc hcd
  rw[List.length_take,List.length_drop,Nat.min_eq_left (by omega)] at bD
  have hp9:10^(i-fr)≤10^8:=Nat.pow_le_pow_right (by decide) (by omega)
  have e8:(10:Nat)^8=100000000:=by decide
  have tT:bP ((l.drop fr).take (i+1-fr))=bP ((l.drop fr).take (i-fr))*10+dv (l.getD i 0):=by
   have:(l.drop fr)[i-fr]? = some (l.getD i 0):=by
    rw[List.getElem?_drop,show fr+(i-fr)=i by omega,List.getD_eq_getElem?_getD,List.getElem?_eq_getElem Si]
    rfl
   rw[show i+1-fr=(i-fr)+1 by omega,List.take_add_one,this]
   exact Ww _ _
  have hdv:dv (l.getD i 0)=(l.getD i 0).toNat-48:=rfl
  rw[hdv] at tT
  generalize (l.getD i 0).toNat=c at *
  generalize bP ((l.drop fr).take (i-fr))=D at *
  have w1:IntKind.i64.wrap (10*(D:Int))=((10*D:Nat):Int):=wrapN _ (by omega) (by omega)
  have w2:IntKind.u8.wrap ((c:Int)-48)=((c-48:Nat):Int):=by
   simp[IntKind.wrap,IntKind.bits,IntKind.signed]
   omega
  have w3:IntKind.i64.wrap ((c-48:Nat):Int)=((c-48:Nat):Int):=wrapN _ rfl (by omega)
  have w4:IntKind.i64.wrap (((10*D:Nat):Int)+((c-48:Nat):Int))=((D*10+(c-48):Nat):Int):=wrapN _ (by omega) (by omega)
  simp only[mG,g0,g4,g6,g7,cQ,e1,w1,w2,w3,w4,wi,VX,Nat.reduceEqDiff,Nat.reduceAdd]
  refine⟨i+1,by omega,by omega,by omega,fun t ht => ?_,by rw[tT],rfl⟩
  try simp only[uX]
  repeat rw[if_neg (by omega)]
  exact hk t ht
 ·have qR:i=tq:=by omega
  subst qR
  simp only[mG,g4,g7,cQ,VX,Nat.reduceEqDiff,Nat.reduceAdd]
  refine hQ _ (fun t ht => ?_) ?_
  ·try simp only[uX]
   repeat rw[if_neg (by omega)]
   exact hk t ht
  ·simp only[g6,VX,Nat.reduceEqDiff,Nat.reduceAdd]
set_option maxHeartbeats 1000000 in
theorem rG (l:List UInt8) (hd:l.all iL=true) (hl:l.length≤1000000000):TC 224 [aW l] (bQ (bP l)):=by
 refine TC.walk ⟨true,false⟩ F1 rfl (Nat.le_of_ble_eq_true rfl) rfl (mY _) ?_
 have e3:∀lr,pT lr [.int .i64 0] 0 [] []=some (.ref 0 0 0 0 0,[.row 0 (([]:List Nat).map tV) 1 true]):=fun lr=>oH (H:=[]) (lr:=lr) (z:=[.int .i64 0]) rfl
 have e4:∀(x:Nat) (H:aA),pT false [.int .i64 0] 1 [(0,tV x)] H=some (.tree [tV x] (.cl 1),H):=fun x H=>pN (z:=[.int .i64 0]) rfl rfl rfl
 have e5:∀(x:Nat) (H:aA),eW 1 (.tree [tV x] (.cl 1)) H=some [tV x]:=fun x H=>lY rfl rfl
 simp only[B2,zF,e3,bF,VX,Nat.reduceEqDiff,Nat.reduceAdd]
 refine bC (fun(s:List Nat×Int) ρ H=>H=[.row s.1.length (s.1.map tV) 1 true]∧s.2≤l.length ∧ -9≤s.2∧s.1.length+s.2.toNat≤l.length∧(∀d∈s.1,d<1000000000)∧bP l=val 1000000000 s.1+1000000000^s.1.length*bP (l.take s.2.toNat) ∧
  ρ 0=aW l∧ρ 3 = .ref 0 s.1.length 0 s.1.length s.1.length∧ρ 4=VI s.2) (fun s=>s.2.toNat) ([],(l.length:Int)) ⟨rfl,Int.le_refl _,by simp only;omega,by simp,by simp,?_,rfl,rfl,rfl⟩ ?_
 ·simp only[Int.toNat_natCast,List.take_length,List.length_nil,Nat.pow_zero,Nat.one_mul,val,Nat.zero_add]
 rintro⟨out,z⟩ ρ H ⟨rfl,hz,hz9,iK,hds,hv,g0,g3,g4⟩
 simp only at hz hz9 iK hds hv g3 g4
 by_cases lA:0<z
 ·obtain⟨tq,rfl⟩:∃tq:Nat,z=tq:=⟨z.toNat,by omega⟩
  rw[Int.toNat_natCast] at iK hv
  have hto:0<tq:=by omega
  have key:∀fr:Nat,fr≤tq→tq-fr≤9→bP (l.take tq)=bP (l.take fr)*10^(tq-fr)+bP ((l.drop fr).take (tq-fr))∧bP ((l.drop fr).take (tq-fr))<1000000000:=by
   intro fr h1 h2
   have hcd:((l.drop fr).take (tq-fr)).all iL=true:=by
    rw[List.all_eq_true] at hd ⊢
    exact fun x hx=>hd x (List.mem_of_mem_drop (List.mem_of_mem_take hx))
   have hlen:((l.drop fr).take (tq-fr)).length=tq-fr:=by rw[List.length_take,List.length_drop];omega
   constructor
   ·have:=List.take_add (l:=l) (i:=fr) (j:=tq-fr)
    rw[show fr+(tq-fr)=tq by omega] at this
    rw[this,JD,hlen]
   ·have:=Gc hcd
    rw[hlen] at this
    exact Nat.lt_of_lt_of_le this (Nat.le_trans (Nat.pow_le_pow_right (by decide) h2) (by decide))
  have eP:=fun X=>lT (f:=tV) (xs:=out) (x:=X) (lo:=0) (b:=0) (g:=out.length) (n:=out.length) (e:=1) (bytes:=8) (H:=[.row out.length (out.map tV) 1 true]) bK rfl (Nat.zero_le _) (by decide) (by decide) (by omega)
  have Hi:∀X,([.row out.length (out.map tV) 1 true]:aA).set 0 (.row (out.length+1) ((out++[X]).map tV) 1 true)=[.row (out.length+1) ((out++[X]).map tV) 1 true]:=fun _=>rfl
  simp only[Hi] at eP
  by_cases h9:(9:Int)<(tq:Int)
  ·obtain⟨k1,k2⟩:=key (tq-9) (by omega) (by omega)
   have wz:IntKind.i64.wrap ((tq:Int)-9)=((tq-9:Nat):Int):=wrapN _ (by omega) (by omega)
   rw[show tq-(tq-9)=9 by omega] at k1 k2
   rw[show (10:Nat)^9=1000000000 by decide] at k1
   simp only[mQ,g0,g3,g4,lA,h9,wz,VX,Nat.reduceEqDiff,Nat.reduceAdd]
   refine Kj (l:=l) hd (by omega) (fr:=tq-9) (tq:=tq) (by omega) (by omega) (by omega) ?_ ?_ ?_ ?_ fun wO q q6 => ?_
   all_goals first | (simp only[g0,g4,VX,Nat.reduceEqDiff,Nat.reduceAdd];done) | skip
   rw[show tq-(tq-9)=9 by omega] at q6
   have u3:wO 3 = .ref 0 out.length 0 out.length out.length:=by rw[q 3 (by decide)];simp only[g3,VX,Nat.reduceEqDiff,Nat.reduceAdd]
   have u0:wO 0=aW l:=by rw[q 0 (by decide)];simp only[g0,VX,Nat.reduceEqDiff,Nat.reduceAdd]
   have u4:wO 4=VI tq:=by rw[q 4 (by decide)];simp only[g4,VX,Nat.reduceEqDiff,Nat.reduceAdd]
   generalize bP ((l.drop (tq-9)).take 9)=X at *
   have e4:=e4 X
   have e5:=e5 X
   have eP:=eP X
   simp only[u0,u3,u4,q6,e4,e5,eP,wz,VX,Nat.reduceEqDiff,Nat.reduceAdd]
   refine⟨(out++[X],((tq-9:Nat):Int)),by simp only;omega,?_,by simp only;omega,by simp only;omega,?_,?_,?_,?_⟩
   ·simp
   ·simp only[List.length_append,List.length_cons,List.length_nil];omega
   ·intro d hdm
    rcases List.mem_append.1 hdm with h | h
    ·exact hds d h
    ·rw[List.mem_singleton] at h;omega
   ·simp only[Int.toNat_natCast]
    rw[hv,k1,sB,List.length_append,List.length_singleton,Nat.pow_succ]
    grind
   ·simp
  ·obtain⟨k1,k2⟩:=key 0 (by omega) (by omega)
   rw[List.take_zero,Kf,Nat.zero_mul,Nat.zero_add,Nat.sub_zero] at k1
   rw[Nat.sub_zero] at k2
   have wz:IntKind.i64.wrap ((tq:Int)-9)=(tq:Int)-9:=wrap64 (by omega) (by omega)
   simp only[mQ,g0,g3,g4,lA,h9,VX,Nat.reduceEqDiff,Nat.reduceAdd]
   refine Kj (l:=l) hd (by omega) (fr:=0) (tq:=tq) (by omega) (by omega) (by omega) ?_ ?_ ?_ ?_ fun wO q q6 => ?_
   all_goals first | (simp only[g0,g4,VX,Nat.reduceEqDiff,Nat.reduceAdd];done) | (simp only[VX,Nat.reduceEqDiff,Nat.reduceAdd];rfl) | skip
   rw[Nat.sub_zero] at q6
   have u3:wO 3 = .ref 0 out.length 0 out.length out.length:=by rw[q 3 (by decide)];simp only[g3,VX,Nat.reduceEqDiff,Nat.reduceAdd]
   have u0:wO 0=aW l:=by rw[q 0 (by decide)];simp only[g0,VX,Nat.reduceEqDiff,Nat.reduceAdd]
   have u4:wO 4=VI tq:=by rw[q 4 (by decide)];simp only[g4,VX,Nat.reduceEqDiff,Nat.reduceAdd]
   generalize bP ((l.drop 0).take tq)=X at *
   have e4:=e4 X
   have e5:=e5 X
   have eP:=eP X
   simp only[u0,u3,u4,q6,e4,e5,eP,wz,VX,Nat.reduceEqDiff,Nat.reduceAdd]
   refine⟨(out++[X],(tq:Int)-9),by simp only;omega,?_,by simp only;omega,by simp only;omega,?_,?_,?_,?_⟩
   ·simp
   ·simp only[List.length_append,List.length_cons,List.length_nil];omega
   ·intro d hdm
    rcases List.mem_append.1 hdm with h | h
    ·exact hds d h
    ·rw[List.mem_singleton] at h;omega
   ·simp only
    rw[show ((tq:Int)-9).toNat=0 by omega,List.take_zero,Kf,Nat.mul_zero,Nat.add_zero,hv,k1,sB]
   ·simp
 ·have h0:z.toNat=0:=by omega
  rw[h0,List.take_zero,Kf,Nat.mul_zero,Nat.add_zero] at hv
  rw[hv]
  have ct:=TC.adD (f:=tV) (xs:=out) (size:=1) (e:=1) (w:=true) (H:=[.row out.length (out.map tV) 1 true]) (b:=0) (gn:=out.length) (n:=out.length) (c:=out.length) (rR out hds (by show out.length≤70368744177664;omega)) bK rfl (Nat.le_refl _) EL (fun _=>rfl) rfl rfl
  simp only[mQ,g0,g3,g4,lA,ct,VX,Nat.reduceEqDiff,Nat.reduceAdd]
  exact aG (bZ _)
end Go.PM