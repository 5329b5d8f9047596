/- Texts of a claim, in one: part 11. -/
import Derived.KernelRfl
import Derived.Test.YtjmflicajplclaaGreatDoorKXj
set_option linter.unusedSimpArgs false
set_option linter.unusedVariables false
namespace Go.PM
open Go.Lib
theorem DX (l:List UInt8) {i:Nat} (h:i<l.length):Gy (.string ⟨l.toArray⟩) (.int .i64 (i:Int))=some (.int .u8 ((l.getD i 0).toNat:Int)):=by
 have hs:(⟨l.toArray⟩:ByteArray).size=l.length:=by simp[ByteArray.size]
 have e1:(0:Int)≤i∧(i:Int)<(l.length:Int):=by omega
 simp only[Gy,hs,e1,and_self,if_true,Int.toNat_natCast]
theorem Is (l:List UInt8) (h:0<l.length):Gy (.string ⟨l.toArray⟩) (.int .i64 0)=some (.int .u8 ((l.getD 0 0).toNat:Int)):=DX l h
theorem Gu (l:List UInt8) (a b:Nat):(⟨l.toArray⟩:ByteArray).extract a b=⟨((l.drop a).take (b-a)).toArray⟩:=by
 rw[ByteArray.ext_iff,ByteArray.data_extract]
 simp[List.extract_toArray,List.extract_eq_take_drop]
theorem F6 (l:List UInt8) {a:Nat} (h:a≤l.length):wD (bC l) (some (VI (a:Int))) none=some (bC (l.drop a)):=by
 have hs:(⟨l.toArray⟩:ByteArray).size=l.length:=by simp[ByteArray.size]
 have e2:(0:Int)≤a∧(a:Int)≤(l.length:Int):=by omega
 simp only[wD,Hz,Af,hs,fD,e2,and_self,if_true,Int.toNat_natCast,Gu]
 rw[List.take_of_length_le (by simp)]
theorem Lm (l:List UInt8) {b:Nat} (hb:b≤l.length):wD (bC l) none (some (VI (b:Int)))=some (bC (l.take b)):=by
 have hs:(⟨l.toArray⟩:ByteArray).size=l.length:=by simp[ByteArray.size]
 have e1:(0:Int)≤b∧(b:Int)≤(l.length:Int):=by omega
 simp only[wD,Hz,Af,hs,fD,e1,and_self,if_true,Int.toNat_natCast,Gu]
 rw[List.drop_zero,Nat.sub_zero]
theorem R6 (l:List UInt8):dU .eql (.string ⟨l.toArray⟩) (.string ⟨#[]⟩)=some (.bool (decide (l=[]))):=Wk l []
theorem Jf (l:List UInt8):dU .neq (.string ⟨l.toArray⟩) (.string ⟨#[]⟩)=some (.bool (!decide (l=[]))):=Pm l []
theorem Sv (l:List UInt8):TC 210 [bC l,bC [45]] (VB (isNeg l)):=by
 refine TC.walk ⟨true,false⟩ tG rfl (Nat.le_of_ble_eq_true rfl) rfl rfl ?_
 have e1:BK (.string ⟨#[45]⟩)=some (.int .i64 1):=rfl
 by_cases h:(1:Int)≤(l.length:Int)
 ·have e2:=Lm l (b:=1) (by omega)
  have e2:wD (bC l) none (some (VI 1))=some (bC (l.take 1)):=e2
  have e3:dU .eql (.string ⟨(l.take 1).toArray⟩) (.string ⟨#[45]⟩)=some (.bool (decide (l.take 1=[45]))):=Wk (l.take 1) [45]
  have e4:isNeg l=decide (l.take 1=[45]):=by
   cases l with
   | nil=>exact absurd h (by decide)
   | cons c l=>rw[F0];simp
  rw[e4]
  simp only[iI,gT,bN,e1,ge_iff_le,h,e2,e3,VX,Nat.reduceEqDiff,Nat.reduceAdd]
  exact aK rfl
 ·have e4:isNeg l=false:=by unfold isNeg;rw[decide_eq_false (by omega)];rfl
  rw[e4]
  simp only[iI,gT,bN,e1,ge_iff_le,h,VX,Nat.reduceEqDiff,Nat.reduceAdd]
  exact aK rfl
theorem Pr (l:List UInt8):TC 191 [bC l,bC [45]] (.fN [bC (if isNeg l then l.drop 1 else l),VB (isNeg l)]):=by
 refine TC.walk ⟨true,false⟩ tA rfl (Nat.le_of_ble_eq_true rfl) rfl rfl ?_
 have e0:=Sv l
 have e1:BK (.string ⟨#[45]⟩)=some (.int .i64 1):=rfl
 cases h:isNeg l with
 |
  true =>
  rw[h] at e0
  have hl:1≤l.length:=by
   cases l with
   | nil=>cases h
   | cons c l=>simp
  have e2:wD (bC l) (some (VI 1)) none=some (bC (l.drop 1)):=F6 l (a:=1) hl
  simp only[iF,gM,e0,e1,e2,VX,Nat.reduceEqDiff,Nat.reduceAdd]
  exact aK rfl
 |
  false =>
  rw[h] at e0
  simp only[iF,gM,e0,Bool.false_eq_true,if_false,VX,Nat.reduceEqDiff,Nat.reduceAdd]
  exact aK rfl
theorem RU (l:List UInt8):TC 173 [bC l,bC [45]] (.fN [bC (if isNeg l then l.drop 1 else l),VB (isNeg l)]):=by
 refine TC.walk ⟨true,false⟩ EE rfl (Nat.le_of_ble_eq_true rfl) rfl rfl ?_
 have e0:=Pr l
 simp only[AB,xD,e0,VX,Nat.reduceEqDiff,Nat.reduceAdd]
 exact aK rfl
theorem akJ (l:List UInt8) (hl:l.length≤1000000000000):TC 190 [bC l,bC [47]] (.fN [bC (mQ 47 l).1,bC ((mQ 47 l).2.getD []),VB (mQ 47 l).2.isSome]):=by
 refine TC.walk ⟨true,false⟩ zR rfl (Nat.le_of_ble_eq_true rfl) rfl rfl ?_
 have e0:=agQ l 47
 have e1:BK (.string ⟨#[47]⟩)=some (.int .i64 1):=rfl
 cases h:(mQ 47 l).2 with
 |
  none =>
  obtain⟨h1,h2,_⟩:=BN h
  rw[h1] at e0
  rw[h2]
  simp only[lP,kP,e0,ge_iff_le,Int.reduceNeg,Int.reduceLE,VX,Nat.reduceEqDiff,Nat.reduceAdd]
  exact aK rfl
 |
  some r =>
  obtain⟨h1,h2,_⟩:=IF h
  rw[h1] at e0
  generalize (mQ 47 l).1=a at *
  subst h2
  rw[List.length_append,List.length_cons] at hl
  have h0:(0:Int)≤(a.length:Int):=by omega
  have e2:=Lm (a++47::r) (b:=a.length) (by simp)
  have e3:=F6 (a++47::r) (a:=a.length+1) (by simp)
  rw[List.take_left] at e2
  have ed:(a++47::r).drop (a.length+1)=r:=by rw[List.drop_append];simp
  rw[ed] at e3
  have w:IntKind.i64.wrap ((a.length:Int)+1)=((a.length+1:Nat):Int):=wrapN _ (by omega) (by omega)
  simp only[lP,kP,e0,e1,ge_iff_le,h0,w,e2,e3,VX,Nat.reduceEqDiff,Nat.reduceAdd]
  exact aK rfl
theorem aoD (l:List UInt8) (hl:l.length≤1000000000000):TC 172 [bC l,bC [47]] (.fN [bC (mQ 47 l).1,bC ((mQ 47 l).2.getD []),VB (mQ 47 l).2.isSome]):=by
 refine TC.walk ⟨true,false⟩ Nw rfl (Nat.le_of_ble_eq_true rfl) rfl rfl ?_
 have e0:=akJ l hl
 simp only[Ji,Fj,e0,VX,Nat.reduceEqDiff,Nat.reduceAdd]
 exact aK rfl
def Bd (l:List UInt8):VV:=if iL l=true then .fN [bO (bZ l),VB true] else .fN [bO 0,VB false]
theorem Xi (l:List UInt8):iU (Bd l)=true:=by
 unfold Bd
 split<;>simp[iU,sK,rD,lQ]
theorem akV {d:Nat}:fz (d+1) [.row 0 [] 1 true] (.ref 0 0 0 0 0)=some (bO 0):=by
 rw[Ep]
 cases d with
 | zero=>rfl
 | succ d=>rfl
theorem K0 {n:Nat} (hn:n≤9) {lo:Nat} {H:aA} {ρ:dH} {Q:VQ} (h58:ρ 58=VI n) (h59:ρ 59=VI 0) (h9:ρ 9=VK .u64 1) (hQ:∀bI,(∀t,t<9→bI t=ρ t)→bI 9=VK .u64 ((10^n:Nat):Int)→Q .normal bI H):VW ⟨true,false⟩ lo (.loop rH) (AO 4 Q) ρ H:=by
 refine aP (fun(i:Nat) bI H'=>i≤n∧H'=H∧(∀t,t<9→bI t=ρ t)∧bI 58=VI n∧bI 59=VI i∧bI 9=VK .u64 ((10^i:Nat):Int)) (fun i=>n-i) 0 ⟨Nat.zero_le _,rfl,fun _ _=>rfl,h58,h59,h9⟩ ?_
 rintro i bI H' ⟨hi,rfl,hk,g58,g59,g9⟩
 by_cases cK:(i:Int)<(n:Int)
 ·have wi:IntKind.i64.wrap ((i:Int)+1)=((i+1:Nat):Int):=wrapN (i+1) (by omega) (by omega)
  have hp:10^i≤10^8:=Nat.pow_le_pow_right (by decide) (by omega)
  have e8:(10:Nat)^8=100000000:=by decide
  have wp:IntKind.u64.wrap (((10^i:Nat):Int)*10)=((10^(i+1):Nat):Int):=by
   rw[Nat.pow_succ]
   generalize 10^i=p at *
   have:=fR (p*10) (by omega)
   rw[Int.natCast_mul] at this
   rw[Int.natCast_mul]
   exact this
  simp only[rH,g58,g59,g9,cK,wi,wp,VX,Nat.reduceEqDiff,Nat.reduceAdd]
  refine⟨i+1,by omega,by omega,fun t ht => ?_,rfl,rfl⟩
  try simp only[vV]
  repeat rw[if_neg (by omega)]
  exact hk t ht
 ·have lS:i=n:=by omega
  subst lS
  simp only[rH,g58,g59,cK,VX,Nat.reduceEqDiff,Nat.reduceAdd]
  refine hQ _ (fun t ht => ?_) ?_
  ·try simp only[vV]
   repeat rw[if_neg (by omega)]
   exact hk t ht
  ·simp only[g9,VX,Nat.reduceEqDiff,Nat.reduceAdd]
theorem Zc {l:List UInt8} {i:Nat} (h:i<l.length):(l.take (i+1)).all iS=((l.take i).all iS&&iS (l.getD i 0)):=by
 rw[List.take_add_one,List.all_append]
 have:l[i]? = some (l.getD i 0):=by rw[List.getElem?_eq_getElem h,List.getD_eq_getElem?_getD,List.getElem?_eq_getElem h];rfl
 rw[this]
 simp
theorem ML {l:List UInt8} (hl:l.length≤1000000000000) {lo:Nat} {H:aA} {ρ:dH} {Q:VQ} (h0:ρ 0=bC l) (h29:ρ 29=VI l.length) (h30:ρ 30=VI 0)
  (hR:l.all iS=false→∀bI:dH,bI 2 = .tree [] .nil→bI 3=VB false→Q .ret bI H) (hN:l.all iS=true→∀bI:dH,(∀t,t<5→bI t=ρ t)→Q .normal bI H):VW ⟨true,false⟩ lo (.loop lE) (AO 0 Q) ρ H:=by
 refine aP (fun(i:Nat) bI H'=>i≤l.length∧H'=H∧(l.take i).all iS=true∧(∀t,t<5→bI t=ρ t)∧bI 29=VI l.length∧bI 30=VI i) (fun i=>l.length-i) 0 ⟨Nat.zero_le _,rfl,rfl,fun _ _=>rfl,h29,h30⟩ ?_
 rintro i bI H' ⟨hi,rfl,hd,hk,g29,g30⟩
 have g0:=(hk 0 (by decide)).trans h0
 by_cases cK:(i:Int)<(l.length:Int)
 ·have TD:i<l.length:=by omega
  have e1:=DX l TD
  have wi:IntKind.i64.wrap ((i:Int)+1)=((i+1:Nat):Int):=wrapN (i+1) (by omega) (by omega)
  have ht:=Zc TD
  rw[hd,Bool.true_and] at ht
  have TY:iS (l.getD i 0)=(decide (48≤(l.getD i 0).toNat)&&decide ((l.getD i 0).toNat≤57)):=rfl
  have mD:iS (l.getD i 0)=false→l.all iS=false:=by
   intro h
   rw[h] at ht
   rw[←List.take_append_drop (i+1) l,List.all_append,ht,Bool.false_and]
  generalize (l.getD i 0).toNat=c at *
  by_cases q1:(c:Int)<48
  ·have:=mD (by rw[TY,decide_eq_false (by omega)];rfl)
   simp only[lE,g0,g29,g30,cK,e1,q1,VX,Nat.reduceEqDiff,Nat.reduceAdd]
   exact hR this _ (by simp only[VX,Nat.reduceEqDiff,Nat.reduceAdd]) (by simp only[VX,Nat.reduceEqDiff,Nat.reduceAdd])
  ·by_cases q2:(57:Int)<(c:Int)
   ·have:=mD (by rw[TY,decide_eq_false (show ¬c≤57 by omega),Bool.and_false])
    simp only[lE,g0,g29,g30,cK,e1,q1,q2,VX,Nat.reduceEqDiff,Nat.reduceAdd]
    exact hR this _ (by simp only[VX,Nat.reduceEqDiff,Nat.reduceAdd]) (by simp only[VX,Nat.reduceEqDiff,Nat.reduceAdd])
   ·rw[TY,decide_eq_true (by omega),decide_eq_true (by omega),Bool.and_self] at ht
    simp only[lE,g0,g29,g30,cK,e1,q1,q2,wi,VX,Nat.reduceEqDiff,Nat.reduceAdd]
    refine⟨i+1,by omega,by omega,ht,fun t ht => ?_,rfl⟩
    try simp only[vV]
    repeat rw[if_neg (by omega)]
    exact hk t ht
 ·have lS:i=l.length:=by omega
  subst lS
  rw[List.take_length] at hd
  simp only[lE,g29,g30,cK,VX,Nat.reduceEqDiff,Nat.reduceAdd]
  refine hN hd _ fun t ht => ?_
  try simp only[vV]
  repeat rw[if_neg (by omega)]
  exact hk t ht
set_option maxHeartbeats 2000000 in
theorem Lt {l:List UInt8} (hd:l.all iS=true) (hl:l.length≤200) (fQ:l≠[]) {ρ:dH} {Q:VQ} (h0:ρ 0=bC l) (h4:ρ 4 = .ref 0 0 0 0 0)
  (hQ:∀(bI:dH),bI 4=bO (bZ l)→Q .normal bI [.row 0 [] 1 false]):VW ⟨true,false⟩ 0 (.loop nZ) (AO 2 Q) ρ [.row 0 [] 1 true]:=by
 refine aP (fun(s:List UInt8×List UInt8) bI H'=>l=s.1++s.2∧bI 0=bC s.2∧((H'=[.row 0 [] 1 true]∧bI 4 = .ref 0 0 0 0 0∧s.1=[])∨(H'=[.row 0 [] 1 false]∧bI 4=bO (bZ s.1)))) (fun s=>s.2.length) ([],l) ⟨rfl,h0,.inl ⟨rfl,h4,rfl⟩⟩ ?_
 rintro⟨pre,rest⟩ bI H' ⟨QO,g0,hv⟩
 simp only at QO g0 hv
 have e1:=Jf rest
 by_cases he:rest=[]
 ·subst he
  rw[List.append_nil] at QO
  subst QO
  rcases hv with⟨_,_,h⟩ | ⟨rfl,g4⟩
  ·exact absurd h fQ
  have Wj:dU .neq (.string ⟨#[]⟩) (.string ⟨#[]⟩)=some (.bool false):=by
   have:=Jf []
   rw[decide_eq_true rfl] at this
   exact this
  simp only[nZ,g0,Wj,VX,Nat.reduceEqDiff,Nat.reduceAdd]
  exact hQ _ (by simp only[g4,VX,Nat.reduceEqDiff,Nat.reduceAdd])
 ·rw[QO,List.all_append,Bool.and_eq_true] at hd
  obtain⟨hd1,hd2⟩:=hd
  rw[QO,List.length_append] at hl
  have lT:0<rest.length:=List.length_pos_iff.2 he
  have Wj:dU .neq (.string ⟨rest.toArray⟩) (.string ⟨#[]⟩)=some (.bool true):=by rw[e1,decide_eq_false he];rfl
  have wm:(rest.length:Int).tmod 9=((rest.length % 9:Nat):Int):=by rw[Int.tmod_eq_emod_of_nonneg (by omega)];simp
  have er:dU .rem (.int .i64 (rest.length:Int)) (.int .i64 9)=some (.int .i64 ((rest.length % 9:Nat):Int)):=by
   rw[←wm]
   rfl
  obtain⟨n,hn⟩:∃n,n=if rest.length % 9=0 then 9 else rest.length % 9:=⟨_,rfl⟩
  have hn1:1≤n∧n≤9∧n≤rest.length:=by
   rw[hn]
   split<;>omega
  obtain⟨n1,n9,nl⟩:=hn1
  have e2:=Lm rest nl
  have e3:=F6 rest nl
  have hch:(rest.take n).length=n:=by rw[List.length_take];omega
  have hcd:(rest.take n).all iS=true:=by
   rw[←List.take_append_drop n rest,List.all_append,Bool.and_eq_true] at hd2
   exact hd2.1
  have hp:=agE (rest.take n) (bZ (rest.take n)) (by omega) (alO hcd (fun h=>by rw[h] at hch;simp at hch;omega) (by omega))
  have E3:=Hl hcd
  rw[hch] at E3
  have hp9:10^n≤10^9:=Nat.pow_le_pow_right (by decide) n9
  have e9:(10:Nat)^9=1000000000:=by decide
  have aCi:bZ (rest.take n)<1000000000:=by omega
  have c1:=nC (10^n) (by omega)
  have c2:=nC (bZ (rest.take n)) (by omega)
  have hbp:bl (bZ pre)≤665:=by
   refine G9 (Nat.lt_of_lt_of_le (Hl hd1) ?_)
   exact Nat.le_trans (Nat.pow_le_pow_right (by decide) (by omega:pre.length≤200)) (by decide +kernel)
  have hb9:bl (10^n)≤64:=G9 (by omega)
  have hbm:=oH (bZ pre) (10^n)
  have hbc:bl (bZ (rest.take n))≤64:=G9 (by omega)
  have tm:=iT (bZ pre) (10^n) (fS (by omega)) (fS (by omega))
  have c4:=Dm (bZ pre*10^n) (bZ (rest.take n)) (fS (by omega)) (fS (by omega))
  have sQ:bZ pre*10^n+bZ (rest.take n)=bZ (pre++rest.take n):=by rw[Mn,hch]
  rw[sQ] at c4
  have fin:(rest.drop n).length<rest.length∧pre++rest=(pre++rest.take n)++rest.drop n:=⟨by rw[List.length_drop];omega,by rw[List.append_assoc,List.take_append_drop]⟩
  obtain⟨v4,g4,c3⟩:∃v4,bI 4=v4∧∀lo K,cZ 143 [v4,bO (10^n)] lo H' K=K (bO (bZ pre*10^n)) [.row 0 [] 1 false]:=by
   rcases hv with⟨rfl,g4,hp0⟩ | ⟨rfl,g4⟩
   ·refine⟨_,g4,fun lo K => ?_⟩
    subst hp0
    have:=tm.GJ (H:=[.row 0 [] 1 true]) (args:=[.ref 0 0 0 0 0,bO (10^n)]) (lo:=lo) (k:=K) rfl (by simp[aM,bU]) (fz2 akV (aJ (bU _))) rfl
    rw[this,show KJ (bO (bZ []*10^n))=false from rfl,if_neg (by decide),List.flatMap_cons,List.flatMap_cons,List.flatMap_nil,Fw (bU _),N8 (n:=0) (c:=0) (es:=[]) (e:=1) (w:=true) aU rfl rfl]
    rfl
   ·exact⟨_,g4,fun lo K=>tm lo [.row 0 [] 1 false] K⟩
  clear hv
  obtain⟨P,hP⟩:∃P,P=10^n:=⟨_,rfl⟩
  rw[←hP] at c1 c4 c3
  have hnI:(rest.length % 9:Nat)=0∨¬(rest.length % 9:Nat)=0:=by omega
  rcases hnI with h9 | h9
  ·rw[if_pos h9] at hn
   subst hn
   have q:((rest.length % 9:Nat):Int)=0:=by omega
   have e2':wD (bC rest) none (some (VI 9))=some (bC (rest.take 9)):=e2
   have e3':wD (bC rest) (some (VI 9)) none=some (bC (rest.drop 9)):=e3
   simp only[nZ,g0,g4,Wj,bN,er,q,e2',hp,VX,Nat.reduceEqDiff,Nat.reduceAdd]
   refine K0 (n:=9) (by decide) ?_ ?_ ?_ fun xS k1 q9 => ?_
   ·simp only[VX,Nat.reduceEqDiff,Nat.reduceAdd];rfl
   ·simp only[VX,Nat.reduceEqDiff,Nat.reduceAdd]
   ·simp only[VX,Nat.reduceEqDiff,Nat.reduceAdd]
   rw[←hP] at q9
   have u0:xS 0=bC rest:=by rw[k1 0 (by decide)];simp only[g0,VX,Nat.reduceEqDiff,Nat.reduceAdd]
   have u4:xS 4=v4:=by rw[k1 4 (by decide)];simp only[g4,VX,Nat.reduceEqDiff,Nat.reduceAdd]
   have u6:xS 6=VI 9:=by rw[k1 6 (by decide)];simp only[VX,Nat.reduceEqDiff,Nat.reduceAdd]
   have u7:xS 7=VK .u64 (bZ (rest.take 9)):=by rw[k1 7 (by decide)];simp only[VX,Nat.reduceEqDiff,Nat.reduceAdd]
   simp only[u0,u4,u6,u7,q9,c1,c2,c3,c4,e3',VX,Nat.reduceEqDiff,Nat.reduceAdd]
   exact⟨(pre++rest.take 9,rest.drop 9),fin.1,QO.trans fin.2,rfl,.inr rfl⟩
  ·rw[if_neg h9] at hn
   rw[←hn] at er
   have q:¬(n:Int)=0:=by omega
   simp only[nZ,g0,g4,Wj,bN,er,q,e2,hp,VX,Nat.reduceEqDiff,Nat.reduceAdd]
   refine K0 (n:=n) n9 ?_ ?_ ?_ fun xS k1 q9 => ?_
   ·simp only[VX,Nat.reduceEqDiff,Nat.reduceAdd]
   ·simp only[VX,Nat.reduceEqDiff,Nat.reduceAdd]
   ·simp only[VX,Nat.reduceEqDiff,Nat.reduceAdd]
   rw[←hP] at q9
   have u0:xS 0=bC rest:=by rw[k1 0 (by decide)];simp only[g0,VX,Nat.reduceEqDiff,Nat.reduceAdd]
   have u4:xS 4=v4:=by rw[k1 4 (by decide)];simp only[g4,VX,Nat.reduceEqDiff,Nat.reduceAdd]
   have u6:xS 6=VI n:=by rw[k1 6 (by decide)];simp only[VX,Nat.reduceEqDiff,Nat.reduceAdd]
   have u7:xS 7=VK .u64 (bZ (rest.take n)):=by rw[k1 7 (by decide)];simp only[VX,Nat.reduceEqDiff,Nat.reduceAdd]
   simp only[u0,u4,u6,u7,q9,c1,c2,c3,c4,e3,VX,Nat.reduceEqDiff,Nat.reduceAdd]
   exact⟨(pre++rest.take n,rest.drop n),fin.1,QO.trans fin.2,rfl,.inr rfl⟩
set_option maxHeartbeats 2000000 in
theorem D2 (l:List UInt8) (hl:l.length≤1000000000000):TC 174 [bC l] (Bd l):=by
 refine TC.walk ⟨true,false⟩ Lh rfl (Nat.le_of_ble_eq_true rfl) rfl (Xi l) ?_
 have e1:=R6 l
 by_cases he:l=[]
 ·have hk:iL l=false:=by rw[he];rfl
  have Wj:dU .eql (.string ⟨l.toArray⟩) (.string ⟨#[]⟩)=some (.bool true):=by rw[e1,decide_eq_true he]
  unfold Bd
  rw[hk]
  simp only[pY,mP,Wj,Bool.false_eq_true,if_false,VX,Nat.reduceEqDiff,Nat.reduceAdd]
  exact bT (d:=6) xL (aJ (v:=VB false) rfl)
 have lT:0<l.length:=List.length_pos_iff.2 he
 by_cases afS:(200:Int)<(l.length:Int)
 ·have hk:iL l=false:=by
   cases h:iL l with
   | false=>rfl
   | true=>have:=(kG.1 h).2.2.1;omega
  unfold Bd
  rw[hk]
  simp only[pY,mP,e1,he,decide_false,bN,afS,Bool.false_eq_true,if_false,VX,Nat.reduceEqDiff,Nat.reduceAdd]
  exact bT (d:=6) xL (aJ (v:=VB false) rfl)
 have e2:=Is l lT
 by_cases hz:(((l.getD 0 0).toNat:Int)=48∧1<(l.length:Int))
 ·obtain⟨C3,S4⟩:=hz
  have hk:iL l=false:=by
   cases h:iL l with
   | false=>rfl
   |
    true =>
    rcases(kG.1 h).2.2.2 with h1 | h1
    ·omega
    ·exact absurd (UInt8.toNat_inj.1 (by rw[show (48:UInt8).toNat=48 from rfl];omega)) h1
  unfold Bd
  rw[hk]
  simp only[pY,mP,e1,he,decide_false,bN,afS,e2,C3,S4,Bool.false_eq_true,if_false,VX,Nat.reduceEqDiff,Nat.reduceAdd]
  exact bT (d:=6) xL (aJ (v:=VB false) rfl)
 have anW:l.length=1∨l.getD 0 0≠48:=by
  by_cases h1:l.length=1
  ·exact .inl h1
  ·right
   intro h2
   apply hz
   rw[h2]
   exact⟨rfl,by omega⟩
 have e3:∀lr,jY lr [.int .u32 0] 0 [] []=some (.ref 0 0 0 0 0,[.row 0 [] 1 true]):=fun lr=>iA (H:=[]) (lr:=lr) (z:=[.int .u32 0]) rfl
 have kN:l.all iS=true→iL l=true:=fun h=>kG.2 ⟨h,lT,by omega,anW⟩
 have kF:l.all iS=false→iL l=false:=fun h=>by unfold iL;rw[h];rfl
 have rF:iL l=false→Bd l = .fN [bO 0,VB false]:=fun h=>by unfold Bd;rw[h];rfl
 have rT:iL l=true→Bd l = .fN [bO (bZ l),VB true]:=fun h=>if_pos h
 by_cases hA:(((l.getD 0 0).toNat:Int)=48)
 ·have hB:¬1<(l.length:Int):=fun h=>hz ⟨hA,h⟩
  simp only[pY,mP,e1,e3,he,decide_false,bN,afS,e2,hA,hB,Bool.false_eq_true,if_false,VX,Nat.reduceEqDiff,Nat.reduceAdd]
  refine ML hl ?_ ?_ ?_ (fun hd xS g2 g3 => ?_) fun hd xS k1 => ?_
  ·simp only[VX,Nat.reduceEqDiff,Nat.reduceAdd]
  ·simp only[VX,Nat.reduceEqDiff,Nat.reduceAdd]
  ·simp only[VX,Nat.reduceEqDiff,Nat.reduceAdd]
  ·rw[rF (kF hd)]
   simp only[g2,g3,VX,Nat.reduceEqDiff,Nat.reduceAdd]
   exact bT (d:=6) xL (aJ (v:=VB false) rfl)
  ·rw[rT (kN hd)]
   simp only[VX,Nat.reduceEqDiff,Nat.reduceAdd]
   refine Lt hd (by omega) he ?_ ?_ fun NP g4 => ?_
   ·rw[k1 0 (by decide)];simp only[VX,Nat.reduceEqDiff,Nat.reduceAdd]
   ·rw[k1 4 (by decide)];simp only[VX,Nat.reduceEqDiff,Nat.reduceAdd]
   ·simp only[g4,VX,Nat.reduceEqDiff,Nat.reduceAdd]
    exact bT (d:=6) (aJ (bU _)) (aJ (v:=VB true) rfl)
 ·simp only[pY,mP,e1,e3,he,decide_false,bN,afS,e2,hA,Bool.false_eq_true,if_false,VX,Nat.reduceEqDiff,Nat.reduceAdd]
  refine ML hl ?_ ?_ ?_ (fun hd xS g2 g3 => ?_) fun hd xS k1 => ?_
  ·simp only[VX,Nat.reduceEqDiff,Nat.reduceAdd]
  ·simp only[VX,Nat.reduceEqDiff,Nat.reduceAdd]
  ·simp only[VX,Nat.reduceEqDiff,Nat.reduceAdd]
  ·rw[rF (kF hd)]
   simp only[g2,g3,VX,Nat.reduceEqDiff,Nat.reduceAdd]
   exact bT (d:=6) xL (aJ (v:=VB false) rfl)
  ·rw[rT (kN hd)]
   simp only[VX,Nat.reduceEqDiff,Nat.reduceAdd]
   refine Lt hd (by omega) he ?_ ?_ fun NP g4 => ?_
   ·rw[k1 0 (by decide)];simp only[VX,Nat.reduceEqDiff,Nat.reduceAdd]
   ·rw[k1 4 (by decide)];simp only[VX,Nat.reduceEqDiff,Nat.reduceAdd]
   ·simp only[g4,VX,Nat.reduceEqDiff,Nat.reduceAdd]
    exact bT (d:=6) (aJ (bU _)) (aJ (v:=VB true) rfl)
def KU:VV := .agg [VB false,bO 0,bO 0]
def Da (l:List UInt8):VV:=match Aa l with
 | some q => .fN [bF q,VB true]
 | none => .fN [KU,VB false]
theorem SF:iU KU=true:=by simp[KU,iU,sK,rD,lQ]
theorem Tc (l:List UInt8):iU (Da l)=true:=by
 unfold Da
 split<;>simp[iU,sK,tB,SF,lQ]
theorem gU {d:Nat} {H:aA}:fz (d+2) H (.agg [VB false,.tree [] .nil,.tree [] .nil])=some KU:=rO (aJ (v:=VB false) rfl) xL xL
theorem Mz {neg:Bool} {t b:Nat} (hb:b≠0) (hg:Nat.gcd t b=1) (hn:¬(neg=true∧t=0)):bF (mkRat (lB neg t) b) = .agg [VB neg,bO t,bO b]:=by
 obtain⟨e1,e2⟩:=JJ (neg:=neg) hb hg
 refine B0 ?_ (by rw[e1,oZ]) e2
 rw[e1]
 cases neg with
 | false=>unfold lB;simp
 |
  true =>
  have:t≠0:=fun h=>hn ⟨rfl,h⟩
  unfold lB
  simp
  omega
theorem Uq (l:List UInt8):Aa l=pM (isNeg (mQ 47 l).1) (if isNeg (mQ 47 l).1 then (mQ 47 l).1.drop 1 else (mQ 47 l).1) (mQ 47 l).2:=by
 cases l with
 | nil=>rfl
 |
  cons c r =>
  unfold Aa
  by_cases h47:c=47
  ·subst h47
   rfl
  ·have e:mQ 47 (c::r)=(c::(mQ 47 r).1,(mQ 47 r).2):=by rw[mQ,if_neg h47]
   by_cases h45:c=45
   ·subst h45
    rw[e]
    rfl
   ·rw[e,F0,F0,decide_eq_false h45]
    simp only[Bool.false_eq_true,if_false,e]
theorem RF {c:UInt8}:∀ {l:List UInt8},(mQ c l).1.length≤l.length∧∀t,(mQ c l).2=some t→t.length≤l.length:=by
 intro l
 cases h:(mQ c l).2 with
 | none=>rw[(BN h).2.1];exact⟨Nat.le_refl _,fun t ht=>by cases ht⟩
 |
  some r =>
  have:=congrArg List.length (IF h).2.1
  rw[List.length_append,List.length_cons] at this
  exact⟨by omega,fun t ht=>by cases ht;omega⟩
theorem Om {n:Nat}:(((aC 4294967296 n).length:Nat):Int)=0↔n=0:=by
 rw[←mJ (b:=4294967296) (n:=n) (by decide),←List.length_eq_zero_iff]
 omega
set_option maxRecDepth 100000 in
set_option maxHeartbeats 4000000 in
theorem Lk (l:List UInt8) (hl:l.length≤1000000000000):TC 115 [bC l] (Da l):=by
 refine TC.walk ⟨true,false⟩ KG rfl (Nat.le_of_ble_eq_true rfl) rfl (Tc l) ?_
 have e1:=aoD l hl
 obtain⟨l1,l2⟩:=RF (c:=47) (l:=l)
 have hq:=Uq l
 unfold Da
 rw[hq]
 clear hq
 generalize (mQ 47 l).1=f at *
 generalize (mQ 47 l).2=s2 at *
 have e2:=RU f
 have ld:(if isNeg f=true then f.drop 1 else f).length≤f.length:=by split<;>simp
 generalize (if isNeg f=true then f.drop 1 else f)=d at *
 generalize isNeg f=neg at *
 have e3:=D2 d (by omega)
 have c1:TC 139 [.sc (.int .u64 1)] (bO 1):=nC 1 (by decide)
 cases hd:iL d with
 |
  false =>
  have hp:pM neg d s2=none:=if_pos (.inl hd)
  rw[hp]
  unfold Bd at e3
  rw[hd,if_neg (by decide)] at e3
  simp only[fA,dI,e1,e2,e3,aF,jS,Nat.reduceLeDiff,Nat.reduceLT,Nat.reduceSub,VX,Nat.reduceEqDiff,Nat.reduceAdd]
  exact bT (d:=6) gU (aJ (v:=VB false) rfl)
 |
  true =>
  unfold Bd at e3
  rw[hd,if_pos rfl] at e3
  by_cases hz:neg=true∧bZ d=0
  ·have hp:pM neg d s2=none:=if_pos (.inr hz)
   rw[hp]
   obtain⟨rfl,EC⟩:=hz
   rw[EC] at e3
   have Ak:(((aC 4294967296 0).length:Nat):Int)=0:=Om.2 rfl
   simp only[fA,dI,e1,e2,e3,dN,Ak,aF,jS,Nat.reduceLeDiff,Nat.reduceLT,Nat.reduceSub,VX,Nat.reduceEqDiff,Nat.reduceAdd]
   exact bT (d:=6) gU (aJ (v:=VB false) rfl)
  ·have hbt:=yC hd
   have Ak:neg=true→¬(((aC 4294967296 (bZ d)).length:Nat):Int)=0:=fun h h0=>hz ⟨h,Om.1 h0⟩
   cases s2 with
   |
    none =>
    have hp:pM neg d none=some (mkRat (lB neg (bZ d)) 1):=if_neg (by rw[hd];rintro(h | h);exact absurd h (by decide);exact hz h)
    rw[hp]
    simp only[]
    rw[Mz (by decide) (Nat.gcd_one_right _) hz]
    cases neg with
    |
     false =>
     simp only[fA,dI,e1,e2,e3,c1,Option.isSome_none,Option.getD_none,aF,aV,aY,aO,jS,Nat.reduceLeDiff,Nat.reduceLT,Nat.reduceSub,VX,Nat.reduceEqDiff,Nat.reduceAdd]
     exact bT (d:=6) (rO (aJ (v:=VB false) rfl) (aJ (bU _)) (aJ (bU _))) (aJ (v:=VB true) rfl)
    |
     true =>
     have Ak:=Ak rfl
     simp only[fA,dI,e1,e2,e3,c1,dN,Ak,Option.isSome_none,Option.getD_none,aF,aV,aY,aO,jS,Nat.reduceLeDiff,Nat.reduceLT,Nat.reduceSub,VX,Nat.reduceEqDiff,Nat.reduceAdd]
     exact bT (d:=6) (rO (aJ (v:=VB true) rfl) (aJ (bU _)) (aJ (bU _))) (aJ (v:=VB true) rfl)
   |
    some t =>
    have e4:=D2 t (by have:=l2 t rfl;omega)
    have hp:pM neg d (some t)=if iL t=true∧1<bZ t∧Nat.gcd (bZ d) (bZ t)=1 then some (mkRat (lB neg (bZ d)) (bZ t)) else none:=if_neg (by rw[hd];rintro(h | h);exact absurd h (by decide);exact hz h)
    rw[hp]
    cases ht:iL t with
    |
     false =>
     rw[if_neg (fun h=>absurd h.1 (by decide))]
     unfold Bd at e4
     rw[ht,if_neg (by decide)] at e4
     cases neg with
     |
      false =>
      simp only[fA,dI,e1,e2,e3,e4,c1,Option.isSome_some,Option.getD_some,aF,aV,aY,aO,jS,Nat.reduceLeDiff,Nat.reduceLT,Nat.reduceSub,VX,Nat.reduceEqDiff,Nat.reduceAdd]
      exact bT (d:=6) gU (aJ (v:=VB false) rfl)
     |
      true =>
      have Ak:=Ak rfl
      simp only[fA,dI,e1,e2,e3,e4,c1,dN,Ak,Option.isSome_some,Option.getD_some,aF,aV,aY,aO,jS,Nat.reduceLeDiff,Nat.reduceLT,Nat.reduceSub,VX,Nat.reduceEqDiff,Nat.reduceAdd]
      exact bT (d:=6) gU (aJ (v:=VB false) rfl)
    |
     true =>
     have Ju:=yC ht
     unfold Bd at e4
     rw[ht,if_pos rfl] at e4
     have c2:=kU (bZ t) 1 (fS (by omega)) (fS (Nat.le_trans (G9 (n:=1) (k:=1) (by decide)) (by decide)))
     have c3:=DT (bZ d) (bZ t) (fS (by omega)) (fS (by omega))
     by_cases h1:fB (bZ t) 1≤0
     ·have hle:¬1<bZ t:=fun h=>by unfold fB at h1;rw[if_neg (by omega),if_neg (by omega)] at h1;exact absurd h1 (by decide)
      rw[if_neg (fun h=>hle h.2.1)]
      cases neg with
      |
       false =>
       simp only[fA,dI,e1,e2,e3,e4,c1,c2,h1,Option.isSome_some,Option.getD_some,aF,aV,aY,aO,jS,Nat.reduceLeDiff,Nat.reduceLT,Nat.reduceSub,VX,Nat.reduceEqDiff,Nat.reduceAdd]
       exact bT (d:=6) gU (aJ (v:=VB false) rfl)
      |
       true =>
       have Ak:=Ak rfl
       simp only[fA,dI,e1,e2,e3,e4,c1,c2,h1,dN,Ak,Option.isSome_some,Option.getD_some,aF,aV,aY,aO,jS,Nat.reduceLeDiff,Nat.reduceLT,Nat.reduceSub,VX,Nat.reduceEqDiff,Nat.reduceAdd]
       exact bT (d:=6) gU (aJ (v:=VB false) rfl)
     ·have bH:1<bZ t:=by
       rcases Nat.lt_or_ge 1 (bZ t) with h | h
       ·exact h
       ·exfalso
        apply h1
        unfold fB
        split
        ·decide
        ·rw[if_pos (by omega)];decide
      have Zu:bl (Nat.gcd (bZ d) (bZ t))≤665:=Nat.le_trans (kY (Nat.le_of_dvd (by omega) (Nat.gcd_dvd_right _ _))) Ju
      have c4:=kU (Nat.gcd (bZ d) (bZ t)) 1 (fS (by omega)) (fS (Nat.le_trans (G9 (n:=1) (k:=1) (by decide)) (by decide)))
      by_cases hg:Nat.gcd (bZ d) (bZ t)=1
      ·have h4:fB (Nat.gcd (bZ d) (bZ t)) 1=0:=by rw[hg];rfl
       rw[if_pos ⟨rfl,bH,hg⟩]
       simp only[]
       rw[Mz (by omega) hg hz]
       cases neg with
       |
        false =>
        simp only[fA,dI,e1,e2,e3,e4,c1,c2,c3,c4,h1,h4,Option.isSome_some,Option.getD_some,aF,aV,aY,aO,jS,Nat.reduceLeDiff,Nat.reduceLT,Nat.reduceSub,VX,Nat.reduceEqDiff,Nat.reduceAdd]
        exact bT (d:=6) (rO (aJ (v:=VB false) rfl) (aJ (bU _)) (aJ (bU _))) (aJ (v:=VB true) rfl)
       |
        true =>
        have Ak:=Ak rfl
        simp only[fA,dI,e1,e2,e3,e4,c1,c2,c3,c4,h1,h4,dN,Ak,Option.isSome_some,Option.getD_some,aF,aV,aY,aO,jS,Nat.reduceLeDiff,Nat.reduceLT,Nat.reduceSub,VX,Nat.reduceEqDiff,Nat.reduceAdd]
        exact bT (d:=6) (rO (aJ (v:=VB true) rfl) (aJ (bU _)) (aJ (bU _))) (aJ (v:=VB true) rfl)
      ·have h4:¬fB (Nat.gcd (bZ d) (bZ t)) 1=0:=by
        unfold fB
        split<;>(try split)<;>first | decide | omega
       rw[if_neg (fun h=>hg h.2.2)]
       cases neg with
       |
        false =>
        simp only[fA,dI,e1,e2,e3,e4,c1,c2,c3,c4,h1,h4,Option.isSome_some,Option.getD_some,aF,aV,aY,aO,jS,Nat.reduceLeDiff,Nat.reduceLT,Nat.reduceSub,VX,Nat.reduceEqDiff,Nat.reduceAdd]
        exact bT (d:=6) gU (aJ (v:=VB false) rfl)
       |
        true =>
        have Ak:=Ak rfl
        simp only[fA,dI,e1,e2,e3,e4,c1,c2,c3,c4,h1,h4,dN,Ak,Option.isSome_some,Option.getD_some,aF,aV,aY,aO,jS,Nat.reduceLeDiff,Nat.reduceLT,Nat.reduceSub,VX,Nat.reduceEqDiff,Nat.reduceAdd]
        exact bT (d:=6) gU (aJ (v:=VB false) rfl)
end Go.PM
namespace Go.PM
open Go.Lib
theorem SQ {l:List UInt8} {q:Rat} (h:Aa l=some q):Da l = .fN [bF q,VB true]:=by unfold Da;rw[h]
theorem Rb {l:List UInt8} (h:Aa l=none):Da l = .fN [KU,VB false]:=by unfold Da;rw[h]
theorem Js:aB KU=[VB false,bO 0,bO 0]:=rfl
theorem Lp:isAny KU=false:=rfl
theorem QV:dK true 3 KU 0=some KU:=rfl
end Go.PM
namespace Go.PM
open Go.Lib
theorem AI {q:Rat}:kB q=0↔q=0:=by
 rw[←Rat.num_eq_zero]
 rcases Int.lt_trichotomy q.num 0 with h | h | h
 ·rw[oP h];omega
 ·rw[kX h];simp[h]
 ·rw[oQ h];omega
end Go.PM
namespace Go.PM
open Go.Lib
theorem RZ {α:Type} {f:α→VV} {d e b g c:Nat} {xs:List α} {H:aA} {w:Bool} (hp:∀x,bA (f x)=true) (h:aH H b g=some (xs.map f,e,w)) (hc:xs.length≤c):fz (d+2) H (.ref b g 0 xs.length c)=some (aQ f xs):=by
 have:bA (.ref b g 0 xs.length c)=false:=rfl
 unfold PM.fz
 simp only[this,h,Bool.false_eq_true,if_false]
 rw[if_pos ⟨by simp,hc⟩,List.drop_zero,List.take_of_length_le (by simp),mapM_pure (fJ hp)]
 rfl
theorem afN {d:Nat} {H:aA}:fz (d+1) H (.tree [] .nil)=some (.tree [] .op):=by
 unfold PM.fz
 have:bA (.tree [] .nil)=false:=by simp[bA]
 simp[this]
theorem Ps {H:aA}:fz depth H (.fN [.tree [] .nil,VB false])=some (.fN [.tree [] .op,VB false]):=bT (d:=6) afN (aJ (v:=VB false) rfl)
theorem Gi {u v:VV} (hu:iU u=true) (hv:iU v=true):iU (.fN [u,v])=true:=by simp only[iU,sK,hu,hv,Bool.and_self]
theorem Z5 {u:VV} (hu:bA u=true):aM [u]=true:=by simp only[aM,hu,Bool.and_self]
theorem Ic {u v:VV} (hu:bA u=true) (hv:bA v=true):aM [u,v]=true:=by simp only[aM,hu,hv,Bool.and_self]
theorem YY {u:VV} (hu:bA u=true):bA (.agg [u])=true:=by simp only[bA,aM,hu,Bool.and_self]
def pQ (s:ByteArray):Option Rat:=Aa s.data.toList
theorem Zg (s:ByteArray):sV s=bC s.data.toList:=rfl
def EN (xs:List ByteArray):Option (List Rat):=if xs.length≤300 then xs.mapM pQ else none
def Rl (o:Option (List Rat)):VV:=match o with
 | some qs => .fN [aQ bF qs,VB true]
 | none => .fN [aQ bF [],VB false]
theorem Em (q:Rat):(aB (bF q)).length=3:=rfl
theorem BW (qs:List Rat):bA (aQ bF qs)=true:=oD Em iZ
theorem Xn (q:Rat):AP (bF q)=true:=by simp[AP,bF,bO]
theorem N5 (qs:List Rat):iU (aQ bF qs)=true:=DI Em tB Xn
theorem WX (o:Option (List Rat)):iU (Rl o)=true:=by
 unfold Rl
 split
 ·exact Gi (N5 _) rfl
 ·exact Gi (N5 []) rfl
theorem Eb {α β:Type} {f:α→Option β} {xs:List α} {ys:List β} {x:α} {y:β} (h:xs.mapM f=some ys) (hx:f x=some y):(xs++[x]).mapM f=some (ys++[y]):=by
 rw[List.mapM_append,h]
 simp[hx]
theorem mapM_none {α β:Type} {f:α→Option β} {x:α} (hx:f x=none):∀ {xs:List α},x∈xs→xs.mapM f=none
 | [],h=>by cases h
 |
  y::xs,h=>by
  rw[List.mapM_cons]
  cases hy:f y with
  | none=>rfl
  |
   some z =>
   rcases List.mem_cons.1 h with rfl | h
   ·rw[hx] at hy;cases hy
   ·show ((xs.mapM f).bind fun zs=>some (z::zs))=none
    rw[mapM_none hx h];rfl
theorem mapM_mem {α β:Type} {f:α→Option β} {P:β→Prop} (hP:∀x y,f x=some y→P y):∀ {xs:List α} {ys:List β},xs.mapM f=some ys→∀y∈ys,P y
 | [],ys,h,y,hy=>by simp at h;subst h;cases hy
 |
  x::xs,ys,h,y,hy=>by
  rw[List.mapM_cons] at h
  cases hx:f x with
  | none=>rw[hx] at h;cases h
  |
   some z =>
   rw[hx] at h
   cases hs:xs.mapM f with
   | none=>rw[hs] at h;cases h
   |
    some zs =>
    rw[hs] at h
    cases h
    rcases List.mem_cons.1 hy with rfl | hy
    ·exact hP _ _ hx
    ·exact mapM_mem hP hs _ hy
theorem iK {α:Type} {xs:List α} {i:Nat} {x:α} (h:xs[i]? = some x):xs.take (i+1)=xs.take i++[x]:=by rw[List.take_add_one,h];rfl
theorem FX {xs:List ByteArray} {qs:List Rat} (h:EN xs=some qs):(∀q∈qs,bQ q≤665)∧qs.length≤300∧qs.length=xs.length:=by
 unfold EN at h
 split at h
 ·rename_i hl
  have:=qZ h
  exact⟨mapM_mem (fun _ _ h=>Uw h) h,by omega,this⟩
 ·cases h
set_option maxHeartbeats 1000000 in
theorem QT (xs:List ByteArray) (hn:xs.length≤1000000000) (hs:∀s∈xs,s.size≤1000000000):TC 65 [fM xs] (Rl (EN xs)):=by
 refine TC.walk ⟨true,false⟩ Rh rfl (Nat.le_of_ble_eq_true rfl) (by simp[aM,kR]) (WX _) ?_
 unfold EN
 by_cases T7:(300:Int)<(xs.length:Int)
 ·rw[if_neg (by omega)]
  simp only[IY,DC,T7,VX,Nat.reduceEqDiff,Nat.reduceAdd]
  exact Ps
 rw[if_pos (by omega)]
 have e0:=fun H=>iA (H:=H) (lr:=false) (z:=[.bool false,.slice none 0 0,.slice none 0 0]) rfl
 simp only[IY,DC,T7,e0,VX,Nat.reduceEqDiff,Nat.reduceAdd]
 refine Lb (fun(s:Nat×List Rat) ρ H=>s.1≤xs.length∧(xs.take s.1).mapM pQ=some s.2∧H=[.row s.1 (s.2.map bF) 3 true]∧ρ 4 = .ref 0 s.1 0 s.1 s.1∧ρ 13=fM xs∧ρ 14=VI xs.length∧ρ 15=VI s.1) (fun s=>xs.length-s.1) (0,[]) ⟨Nat.zero_le _,rfl,rfl,rfl,rfl,rfl,rfl⟩ ?_
 rintro⟨i,out⟩ ρ H ⟨hi,KV,rfl,g4,g13,g14,g15⟩
 simp only at hi KV g4 g15
 have jR:out.length=i:=by rw[qZ KV,List.length_take];omega
 by_cases cK:(i:Int)<(xs.length:Int)
 ·obtain⟨x,hx⟩:∃x,xs[i]? = some x:=⟨_,List.getElem?_eq_getElem (by omega)⟩
  have hxm:=List.mem_of_getElem? hx
  have e1:=fun H=>aI (f:=sV) (t := .op) (H:=H) (size:=1) (k := .i64) hx rfl
  have wi:IntKind.i64.wrap ((i:Int)+1)=((i+1:Nat):Int):=wrapN (i+1) (by omega) (by omega)
  have e2:=Lk x.data.toList (by have:=hs x hxm;rw[Array.length_toList];show x.size≤_;omega)
  rw[←Zg] at e2
  cases hp:pQ x with
  |
   none =>
   rw[Rb hp] at e2
   rw[mapM_none hp hxm]
   simp only[xR,g4,g13,g14,g15,cK,e1,e2,Js,Lp,QV,aY,aV,aO,jS,Nat.reduceLeDiff,Nat.reduceLT,Nat.reduceSub,GM,pR,sI,wK,Bh,Ck,bne_iff_ne,ne_eq,not_false_eq_true,not_true_eq_false,VX,Nat.reduceEqDiff,Nat.reduceAdd]
   exact Ps
  |
   some q =>
   rw[SQ hp] at e2
   have eL:∀H,jY false [.bool false,.slice none 0 0,.slice none 0 0] 1 [(0,bF q)] H=some (.tree [bF q] (.cl 3),H):=fun H=>gJ rfl rfl rfl
   have eS:∀H,dF 3 (.tree [bF q] (.cl 3)) H=some [bF q]:=fun H=>dV rfl rfl
   have eP:eE 0 3 56 (.ref 0 i 0 i i) [bF q] [.row i (out.map bF) 3 true,.row 0 [bF q] 3 true]=some (.ref 0 (i+1) 0 (i+1) (i+1),[.row (i+1) ((out++[q]).map bF) 3 true,.row 0 [bF q] 3 true]):=by
    rw[gZ (f:=bF) (xs:=out) (by rw[aU]) jR.symm (Nat.le_refl _) (by decide) (by decide) (by omega),List.set_cons_zero]
   simp only[xR,g4,g13,g14,g15,cK,e1,e2,eL,eS,eP,wi,aF,dE,dL,aY,aV,aO,jS,Nat.reduceLeDiff,Nat.reduceLT,Nat.reduceSub,GM,pR,sI,wK,Bh,Ck,bne_iff_ne,ne_eq,not_false_eq_true,not_true_eq_false,VX,Nat.reduceEqDiff,Nat.reduceAdd]
   refine⟨(i+1,out++[q]),by simp only;omega,?_,by simp only;omega,by simp only[iK hx];exact Eb KV hp,rfl,?_⟩
   ·rw[A0 (mT _ (fJ iZ)),Iq]
   ·simp only[uS,g13,g14,BI (kR _),Im (Nat.lt_succ_self 0),VX,Nat.reduceEqDiff,Nat.reduceAdd,List.take_zero,kI,List.all_nil,List.length_nil,uS,Ly,BI]
 ·have lS:i=xs.length:=by omega
  subst lS
  rw[List.take_length] at KV
  rw[KV]
  simp only[xR,g4,g13,g14,g15,cK,VX,Nat.reduceEqDiff,Nat.reduceAdd]
  refine bT (d:=6) ?_ (aJ (v:=VB true) rfl)
  have:=RZ (d:=5) (w:=true) (f:=bF) (e:=3) (b:=0) (g:=xs.length) (c:=xs.length) (xs:=out) (H:=[.row xs.length (out.map bF) 3 true]) iZ (by rw[aU]) (by omega)
  rw[jR] at this
  exact this
end Go.PM
namespace Go.PM
open Go.Lib
theorem Sc {α:Type} {l:List α} (h:l.Nodup) {i j:Nat} {x:α} (hi:l[i]? = some x) (hj:l[j]? = some x):i=j:=by
 obtain⟨hi,qW⟩:=List.getElem?_eq_some_iff.1 hi
 obtain⟨hj,hj'⟩:=List.getElem?_eq_some_iff.1 hj
 have h:=List.pairwise_iff_getElem.1 h
 rcases Nat.lt_trichotomy i j with bH | heq | hgt
 ·exact absurd (qW.trans hj'.symm) (h i j hi hj bH)
 ·exact heq
 ·exact absurd (hj'.trans qW.symm) (h j i hj hi hgt)
section
variable {α:Type} {f:α→VV} {e lo hi:Nat} {H H':aA} {v:VV}
def dO (lo hi:Nat) (H H':aA):Prop:=∀b g x,lo≤b→b<hi→aH H b g=some x→aH H' b g=some x
theorem dO.pre (h:H <+: H'):dO lo hi H H':=fun _ _ _ _ _=>cP h
theorem dO.refl:dO lo hi H H:=fun _ _ _ _ _ h=>h
theorem dO.trans {H'':aA} (h:dO lo hi H H') (h':dO lo hi H' H''):dO lo hi H H'':=fun b g x h1 h2 h3=>h' b g x h1 h2 (h b g x h1 h2 h3)
theorem dO.sub {l h':Nat} (h:dO lo hi H H') (hl:lo≤l) (hh:h'≤hi):dO l h' H H':=fun b g x h1 h2=>h b g x (by omega) (by omega)
theorem dO.set {b:Nat} {x:cA} (hb:b<lo∨hi≤b):dO lo hi H (H.set b x):=fun _ _ _ h1 h2=>aZ (by omega)
theorem dO.move {L:aA}:dO H.length hi (List.replicate H.length .dead++L) (H++L):=fun _ _ _ h1 _=>Od h1
def S8 (f:α→VV) (e:Nat) (bE:List α) (lo hi:Nat) (H:aA) (v:VV):Prop :=
 (v = .tree [] .nil∧bE=[])∨∃b g c,lo≤b∧b<hi∧v = .ref b g 0 bE.length c∧bE.length≤c∧aH H b g=some (bE.map f,e,true)
theorem S8.cL {bE:List α} (h:S8 f e bE lo hi H v) (hk:dO lo hi H H'):S8 f e bE lo hi H' v:=by
 rcases h with h | ⟨b,g,c,h1,h2,h3,h4,h5⟩
 ·exact .inl h
 ·exact .inr ⟨b,g,c,h1,h2,h3,h4,hk _ _ _ h1 h2 h5⟩
theorem S8.wide {bE:List α} {lJ qW:Nat} (h:S8 f e bE lo hi H v) (hl:lJ≤lo) (hh:hi≤qW):S8 f e bE lJ qW H v:=by
 rcases h with h | ⟨b,g,c,h1,h2,h3⟩
 ·exact .inl h
 ·exact .inr ⟨b,g,c,by omega,by omega,h3⟩
theorem Wq {d b g c:Nat} {xs:List α} {w:Bool} (hp:∀x,bA (f x)=true) (h:aH H b g=some (xs.map f,e,w)) (hc:xs.length≤c):fz (d+2) H (.ref b g 0 xs.length c)=some (aQ f xs):=by
 have:bA (.ref b g 0 xs.length c)=false:=rfl
 show PM.fz ((d+1)+1) H _=_
 unfold PM.fz
 simp only[this,h,Bool.false_eq_true,if_false]
 rw[if_pos ⟨by simp,hc⟩,List.drop_zero,List.take_of_length_le (by simp),mapM_pure (n:=d) (fJ hp)]
 rfl
theorem S8.fz {d:Nat} {bE:List α} (h:S8 f e bE lo hi H v) (hp:∀x,bA (f x)=true):PM.fz (d+2) H v=some (aQ f bE):=by
 rcases h with⟨rfl,rfl⟩ | ⟨b,g,c,h1,h2,rfl,h4,h5⟩
 ·exact HD
 ·exact Wq hp h5 h4
structure Ae (α:Type) where
 b:Nat
 g:Nat
 c:Nat
 xs:List α
def qO (r:Ae α):VV := .ref r.b r.g 0 r.xs.length r.c
structure OB (f:α→VV) (e lo hi b:Nat) (H:aA) (rs:List (Ae α)):Prop where
 nd:(rs.map (·.b)).Nodup
 row:∀r∈rs,lo≤r.b∧r.b<hi∧r.b≠b∧r.xs.length≤r.c∧aH H r.b r.g=some (r.xs.map f,e,true)
def RG (f:α→VV) (e:Nat) (bE:List (List α)) (lo hi:Nat) (H:aA) (v:VV):Prop :=
 (v = .tree [] .nil∧bE=[])∨∃b g c rs,lo≤b∧b<hi∧v = .ref b g 0 bE.length c∧bE.length≤c∧aH H b g=some (rs.map qO,1,true)∧rs.map (·.xs)=bE∧OB f e lo hi b H rs
theorem RG.cL {bE:List (List α)} (h:RG f e bE lo hi H v) (hk:dO lo hi H H'):RG f e bE lo hi H' v:=by
 rcases h with h | ⟨b,g,c,rs,h1,h2,h3,h4,h5,h6,h7⟩
 ·exact .inl h
 ·exact .inr ⟨b,g,c,rs,h1,h2,h3,h4,hk _ _ _ h1 h2 h5,h6,h7.nd,fun r hr=>by
   obtain⟨k1,k2,k3,k4,k5⟩:=h7.row r hr
   exact⟨k1,k2,k3,k4,hk _ _ _ k1 k2 k5⟩⟩
theorem RG.wide {bE:List (List α)} {lJ qW:Nat} (h:RG f e bE lo hi H v) (hl:lJ≤lo) (hh:hi≤qW):RG f e bE lJ qW H v:=by
 rcases h with h | ⟨b,g,c,rs,h1,h2,h3,h4,h5,h6,h7⟩
 ·exact .inl h
 ·exact .inr ⟨b,g,c,rs,by omega,by omega,h3,h4,h5,h6,h7.nd,fun r hr=>by
   obtain⟨k1,k2,k3,k4,k5⟩:=h7.row r hr
   exact⟨by omega,by omega,k3,k4,k5⟩⟩
theorem VN {d b g c lo hi:Nat} {rs:List (Ae α)} {w:Bool} (hp:∀x,bA (f x)=true) (h:aH H b g=some (rs.map qO,1,w)) (hc:rs.length≤c) (hR:OB f e lo hi b H rs) :
  fz (d+3) H (.ref b g 0 rs.length c)=some (aQ (aQ f) (rs.map (·.xs))):=by
 have:bA (.ref b g 0 rs.length c)=false:=rfl
 show PM.fz ((d+2)+1) H _=_
 unfold PM.fz
 simp only[this,h,Bool.false_eq_true,if_false]
 rw[if_pos ⟨by simp,hc⟩,List.drop_zero,List.take_of_length_le (by simp),mapM_map (f:=qO) (f':=fun r=>aQ f r.xs) fun r hr=>Wq hp (hR.row r hr).2.2.2.2 (hR.row r hr).2.2.2.1]
 simp[aQ,List.map_map]
theorem RG.fz {d:Nat} {bE:List (List α)} (h:RG f e bE lo hi H v) (hp:∀x,bA (f x)=true):PM.fz (d+3) H v=some (aQ (aQ f) bE):=by
 rcases h with⟨rfl,rfl⟩ | ⟨b,g,c,rs,h1,h2,rfl,h4,h5,rfl,h7⟩
 ·exact HD
 ·rw[List.length_map] at h4 ⊢
  exact VN hp h5 h4 h7
theorem Wl {d:Nat} {us FD:List VV} (h:us.mapM (PM.fz (d+1) H)=some FD):PM.fz (d+2) H (.agg us)=some (.agg FD):=by
 have e:PM.fz (d+2) H (.agg us)=if bA (.agg us)=true then some (.agg us) else (us.mapM (PM.fz (d+1) H)).map .agg:=rfl
 rw[e]
 by_cases hq:bA (.agg us)=true
 ·rw[if_pos hq]
  have:us.mapM (PM.fz (d+1) H)=some us:=mapM_pure hq
  rw[this] at h
  cases h
  rfl
 ·rw[if_neg hq,h]
  rfl
def Xg (P:Nat→Nat→aA→VV→Prop) (ok:Bool) (n:Nat) (r:VV) (L:aA):Prop :=
 ∃v,r = .fN [v,.sc (.bool ok)]∧P n (n+L.length) (List.replicate n .dead++L) v
theorem MK {F lo:Nat} {args jF:List VV} {P:Nat→Nat→aA→VV→Prop} {ok:Bool} {H:aA} {K:VV→aA→Prop} (h:FC F jF (Xg P ok)) (yZ:Dg.contains F=true) (hf:args.mapM (PM.fz depth H)=some jF)
  (hP:∀ {lo hi H H' v},P lo hi H v→dO lo hi H H'→P lo hi H' v) (hk:∀v H',H <+: H'→P H.length H'.length H' v→K (.fN [v,.sc (.bool ok)]) H'):cZ F args lo H K:=by
 refine h.call yZ hf ?_
 rintro r L ⟨v,rfl,hv⟩
 refine hk v _ (List.prefix_append _ _) ?_
 rw[List.length_append]
 exact hP hv dO.move
end
def Gx (T:VV) (lo hi:Nat) (H:aA) (v:VV):Prop:=∀H',dO lo hi H H'→fz depth H' v=some T
theorem Gx.cL {T:VV}:∀ {lo hi H H' v},Gx T lo hi H v→dO lo hi H H'→Gx T lo hi H' v:=fun h hk _ h'=>h _ (hk.trans h')
theorem Gx.now {T v:VV} {lo hi:Nat} {H:aA} (h:Gx T lo hi H v):fz depth H v=some T:=h H dO.refl
def CG (bE:List (List ByteArray)) (lo hi:Nat) (H:aA) (v:VV):Prop:=∃c,v = .agg [c]∧RG sV 1 bE lo hi H c
theorem CG.cL {bE:List (List ByteArray)}:∀ {lo hi H H' v},CG bE lo hi H v→dO lo hi H H'→CG bE lo hi H' v:=by
 rintro lo hi H H' v ⟨c,h1,h2⟩ hk
 exact⟨c,h1,h2.cL hk⟩
theorem CG.fz {bE:List (List ByteArray)} {lo hi:Nat} {H:aA} {v:VV} (h:CG bE lo hi H v):PM.fz depth H v=some (chV bE):=by
 obtain⟨c,rfl,h⟩:=h
 refine Wl (d:=6) ?_
 rw[List.mapM_cons,h.fz (d:=4) fun _=>rfl]
 rfl
theorem CG.seen {bE:List (List ByteArray)} {lo hi:Nat} {H:aA} {v:VV} (h:CG bE lo hi H v):Gx (chV bE) lo hi H v:=fun _ hk=>(h.cL hk).fz
def Vv (s:Kr) (lo hi:Nat) (H:aA) (v:VV):Prop:=∃a b c m1 m2,v = .agg [a,b,c]∧lo≤m1∧m1≤m2∧m2≤hi∧S8 sV 1 s.b lo m1 H a∧RG sV 1 s.g m1 m2 H b∧S8 sV 1 s.e m2 hi H c
theorem Vv.cL {s:Kr}:∀ {lo hi H H' v},Vv s lo hi H v→dO lo hi H H'→Vv s lo hi H' v:=by
 rintro lo hi H H' v ⟨a,b,c,m1,m2,h1,k1,k2,k3,h2,h3,h4⟩ hk
 exact⟨a,b,c,m1,m2,h1,k1,k2,k3,h2.cL (hk.sub (by omega) (by omega)),h3.cL (hk.sub (by omega) (by omega)),h4.cL (hk.sub (by omega) (by omega))⟩
theorem ajO {s:Kr} {l1 h1 l2 h2 l3 h3:Nat} {H:aA} {a b c:VV} (ha:S8 sV 1 s.b l1 h1 H a) (hb:RG sV 1 s.g l2 h2 H b) (hc:S8 sV 1 s.e l3 h3 H c):PM.fz depth H (.agg [a,b,c])=some (svV s):=by
 refine Wl (d:=6) ?_
 rw[List.mapM_cons,ha.fz (d:=5) fun _=>rfl]
 rw[List.mapM_cons,hb.fz (d:=4) fun _=>rfl]
 rw[List.mapM_cons,hc.fz (d:=5) fun _=>rfl]
 rfl
theorem Vv.fz {s:Kr} {lo hi:Nat} {H:aA} {v:VV} (h:Vv s lo hi H v):PM.fz depth H v=some (svV s):=by
 obtain⟨a,b,c,m1,m2,rfl,k1,k2,k3,h2,h3,h4⟩:=h
 exact ajO h2 h3 h4
theorem Vv.seen {s:Kr} {lo hi:Nat} {H:aA} {v:VV} (h:Vv s lo hi H v):Gx (svV s) lo hi H v:=fun _ hk=>(h.cL hk).fz
theorem S8.seen {bE:List ByteArray} {lo hi:Nat} {H:aA} {v:VV} (h:S8 sV 1 bE lo hi H v):Gx (fM bE) lo hi H v:=fun _ hk=>(h.cL hk).fz (d:=6) fun _=>rfl
def S0 (k:Int):ByteArray:=⟨(109::(if k≤0 then [48] else decDigits k.toNat)).toArray⟩
theorem CL (k:Int) (hk:0≤k∧k≤1000000000):TC 101 [VI k] (.sc (.string (S0 k))):=by
 refine TC.walk ⟨true,false⟩ Kd rfl (Nat.le_of_ble_eq_true rfl) rfl rfl ?_
 by_cases h0:k≤0
 ·have e:S0 k=⟨#[109,48]⟩:=by unfold S0;rw[if_pos h0]
  rw[e]
  simp only[AK,wM,h0,VX,Nat.reduceEqDiff,Nat.reduceAdd]
  exact aK rfl
 obtain⟨n,rfl⟩:∃n:Nat,k=n:=⟨k.toNat,by omega⟩
 have e1:∀(x:UInt8) (H:aA),jY false [.int .u8 0] 1 [(0,bV x)] H=some (.tree [bV x] (.cl 1),H):=fun x H=>gJ rfl rfl rfl
 simp only[AK,wM,h0,VX,Nat.reduceEqDiff,Nat.reduceAdd]
 refine aP (fun(s:Nat×List UInt8) ρ H=>s.1≤n∧H=[]∧ρ 0=VI s.1∧ρ 3=bC s.2∧decDigits n=mI s.1++s.2) (fun s=>s.1) (n,[]) ⟨Nat.le_refl _,rfl,rfl,rfl,by rw[List.append_nil,mI,if_neg (by omega)]⟩ ?_
 rintro⟨r,bs⟩ ρ H ⟨hr,rfl,g0,g3,hd⟩
 simp only at hr hd g0 g3
 have vL:bs.length≤11:=by
  have h1:=yU n 10 (by omega)
  rw[hd,List.length_append] at h1
  omega
 by_cases hz:(0:Int)<(r:Int)
 ·have em:=Sf (r:Int)
  have eq:=ahI (r:Int) (by omega) (by omega)
  have m1:((r:Int)).tmod 10=((r % 10:Nat):Int):=by rw[Int.tmod_eq_emod_of_nonneg (by omega)];omega
  have m2:((r:Int)).tdiv 10=((r / 10:Nat):Int):=by rw[Int.tdiv_eq_ediv_of_nonneg (by omega)];omega
  rw[m1] at em
  rw[m2] at eq
  have w1:IntKind.i64.wrap (48+((r % 10:Nat):Int))=((48+r % 10:Nat):Int):=wrapN _ (by omega) (by omega)
  have w2:IntKind.u8.wrap ((48+r % 10:Nat):Int)=((d10 (r % 10)).toNat:Int):=by
   rw[OA (Nat.mod_lt _ (by decide))]
   simp[IntKind.wrap,IntKind.bits,IntKind.signed]
   omega
  have bs2:=fun bI (h:eQ bI (.tmp 12) = .tree [bV (d10 (r % 10))] (.cl 1))=>(FY.tree (bs:=[d10 (r % 10)]) (k := .cl 1) (H:=[])).str (fl:=⟨true,false⟩) (lo:=0) h
  have Xh:decDigits n=mI (r / 10)++d10 (r % 10)::bs:=by
   refine HQ ?_
   rw[hd,mI,if_neg (by omega)]
  have ea:=rP [d10 (r % 10)] bs (by have:=vL;simp only[List.length_cons,List.length_nil];omega)
  simp only[uZ,g0,g3,hz,em,eq,w1,w2,e1,P0,VX,Nat.reduceEqDiff,Nat.reduceAdd]
  rw[bs2 _ rfl]
  simp only[g0,g3,em,eq,ea,VX,Nat.reduceEqDiff,Nat.reduceAdd]
  exact⟨(r / 10,d10 (r % 10)::bs),by simp only;omega,by simp only;omega,rfl,rfl,Xh⟩
 ·have vO:r=0:=by omega
  subst vO
  simp only[uZ,g0,hz,VX,Nat.reduceEqDiff,Nat.reduceAdd]
  have hb:bs=decDigits n:=by rw[hd,mI,if_pos rfl,List.nil_append]
  have e:S0 (n:Int)=⟨(109::bs).toArray⟩:=by
   unfold S0
   rw[if_neg h0,Int.toNat_natCast,hb]
  have ea:=rP [109] bs (by simp only[List.length_cons,List.length_nil];omega)
  have ea:dU .add (.string ⟨#[109]⟩) (.string ⟨bs.toArray⟩)=some (.string ⟨(109::bs).toArray⟩):=ea
  rw[e]
  simp only[g3,ea,VX,Nat.reduceEqDiff,Nat.reduceAdd]
  exact aK rfl
theorem adX (k:Int):dU .neq (.string (S0 k)) (.string (S0 k))=some (.bool false):=by
 unfold S0
 rw[Pm]
 simp
abbrev lC (k:Int) (n:Nat):List ByteArray:=(iota k n).map S0
theorem uP (k:Int) (n:Nat):(lC k n).length=n:=by rw[List.length_map,QW]
theorem UA {k:Int} {n i:Nat} (h:i<n):(lC k n)[i]? = some (S0 (k+i)):=by
 rw[List.getElem?_map]
 simp[iota,List.getElem?_range,h]
theorem zJ {lo b g n c:Nat} {H:aA} (xs:List ByteArray) (k:Int) (hr:aH H b g=some (xs.map sV,1,true)) (hn:n≤xs.length) (fG:lo≤b) (hk:0≤k∧k≤100000000) (RY:n≤100000000) :
  kS 37 [.ref b g 0 n c,VI k] lo H fun r H'=>r=VI (k+n)∧H'=H.set b (.row g ((lC k n++xs.drop n).map sV) 1 true):=by
 refine kS.walk ⟨true,false⟩ FZ (Nat.le_of_ble_eq_true rfl) ?_
 have hb:b<H.length:=(List.getElem?_eq_some_iff.1 (cW.1 hr)).1
 have h00:H=H.set b (.row g ((lC k 0++xs.drop 0).map sV) 1 true):=by
  have h':=cW.1 hr
  obtain⟨bH,CR⟩:=List.getElem?_eq_some_iff.1 h'
  have:lC k 0++xs.drop 0=xs:=by simp[iota]
  rw[this,←CR,List.set_getElem_self]
 simp only[BL,zD,VX,Nat.reduceEqDiff,Nat.reduceAdd]
 refine aP (fun(i:Nat) ρ H1=>i≤n∧H1=H.set b (.row g ((lC k i++xs.drop i).map sV) 1 true)∧ρ 0 = .ref b g 0 n c∧ρ 1=VI (k+i)∧ρ 5=VI i) (fun i=>n-i) 0 ⟨Nat.zero_le _,h00,rfl,by simp only[VX,Nat.reduceEqDiff,Nat.reduceAdd];simp,rfl⟩ ?_
 rintro i ρ H1 ⟨hi,rfl,h0,h1,h5⟩
 have hR:aH (H.set b (.row g ((lC k i++xs.drop i).map sV) 1 true)) b g=some ((lC k i++xs.drop i).map sV,1,true):=cW.2 (List.getElem?_set_self hb)
 have hlen:(lC k i++xs.drop i).length=xs.length:=by rw[List.length_append,uP,List.length_drop];omega
 have el:=dP (o:=0) (n:=n) (c:=c) hR
 by_cases cK:(i:Int)<(n:Int)
 ·have e1:=aS (o:=0) (n:=n) (c:=c) (i:=i) (k := .i64) hR (by omega)
  have e2:=eH (f:=sV) (e:=1) (x:=S0 (k+i)) (j:=i) (lo:=lo) hR (by omega) fG rfl rfl
  have e3:=CL (k+i) (by omega)
  have hs:(lC k i++xs.drop i).set i (S0 (k+i))=lC k (i+1)++xs.drop (i+1):=by
   obtain⟨x,hx⟩:∃x,xs[i]? = some x:=⟨_,List.getElem?_eq_getElem (by omega)⟩
   have hd:xs.drop i=x::xs.drop (i+1):=by
    have bH:=List.getElem?_eq_some_iff.1 hx
    rw[List.drop_eq_getElem_cons bH.1,bH.2]
   rw[List.set_append_right _ _ (by rw[uP];exact Nat.le_refl _),uP,Nat.sub_self,hd,List.set_cons_zero]
   have:lC k (i+1)=lC k i++[S0 (k+i)]:=by
    show (iota k (i+1)).map S0=(iota k i).map S0++[S0 (k+i)]
    unfold iota
    rw[List.range_succ,List.map_append,List.map_append]
    rfl
   rw[this,List.append_assoc]
   rfl
  rw[List.set_set,hs] at e2
  have w1:IntKind.i64.wrap (k+i+1)=k+((i+1:Nat):Int):=by rw[wrap64 (by omega) (by omega)];omega
  have wi:IntKind.i64.wrap ((i:Int)+1)=((i+1:Nat):Int):=wrapN (i+1) (by omega) (by omega)
  simp only[qP,h0,h1,h5,cK,el,e1,e2,e3,w1,wi,VX,Nat.reduceEqDiff,Nat.reduceAdd]
  exact⟨i+1,by omega,by omega,by (repeat' apply And.intro)<;>first | rfl | trivial⟩
 ·have lS:i=n:=by omega
  subst lS
  simp only[qP,h0,h1,h5,cK,el,VX,Nat.reduceEqDiff,Nat.reduceAdd]
theorem FN (k:Int) (n:Nat) (hk:0≤k∧k≤100000000) (hn:n≤100000000):TC 150 [fM (lC k n),VI k] (VI (k+n)):=by
 refine TC.walk ⟨true,false⟩ FV rfl (Nat.le_of_ble_eq_true rfl) (Ic (kR _) rfl) rfl ?_
 simp only[A7,zL,VX,Nat.reduceEqDiff,Nat.reduceAdd]
 refine aP (fun(i:Nat) ρ H=>i≤n∧H=[]∧ρ 0=fM (lC k n)∧ρ 1=VI (k+i)∧ρ 5=VI i) (fun i=>n-i) 0 ⟨Nat.zero_le _,rfl,rfl,by simp only[VX,Nat.reduceEqDiff,Nat.reduceAdd];simp,rfl⟩ ?_
 rintro i ρ H ⟨hi,rfl,h0,h1,h5⟩
 have hlen:=uP k n
 by_cases cK:(i:Int)<(n:Int)
 ·have hx:=UA (k:=k) (n:=n) (i:=i) (by omega)
  have e1:=aI (f:=sV) (t := .op) (H:=[]) (size:=1) (k := .i64) hx rfl
  have e3:=CL (k+i) (by omega)
  have w1:IntKind.i64.wrap (k+i+1)=k+((i+1:Nat):Int):=by rw[wrap64 (by omega) (by omega)];omega
  have wi:IntKind.i64.wrap ((i:Int)+1)=((i+1:Nat):Int):=wrapN (i+1) (by omega) (by omega)
  simp only[qR,h0,h1,h5,cK,hlen,e1,e3,w1,wi,adX,VX,Nat.reduceEqDiff,Nat.reduceAdd]
  exact⟨i+1,by omega,by omega,by (repeat' apply And.intro)<;>first | rfl | trivial⟩
 ·have lS:i=n:=by omega
  subst lS
  simp only[qR,h0,h1,h5,cK,hlen,VX,Nat.reduceEqDiff,Nat.reduceAdd]
  exact aK rfl
end Go.PM
namespace Go.PM
section
variable {α:Type} {f:α→VV} {e:Nat}
structure Rd (f:α→VV) (e:Nat) (xs:List α) (H:aA) (v:VV):Prop where
 len:∀H',H <+: H'→qB v H'=some (VI xs.length)
 get:∀H',H <+: H'→∀(i:Nat) x,xs[i]? = some x→∃p,bP e v (VI i) H'=some p∧∀ag,cN ag e p H'=dK ag e (f x) 0
 cell:aB v=[v]∧cC v=true∧isAny v=false
theorem Rd.pre {xs:List α} {H H':aA} {v:VV} (h:Rd f e xs H v) (hh:H <+: H'):Rd f e xs H' v:=⟨fun H2 h2=>h.len H2 (hh.trans h2),fun H2 h2=>h.get H2 (hh.trans h2),h.cell⟩
theorem Rd.tree {xs:List α} {H:aA} {t:TK} (hs:∀x,(aB (f x)).length=e):Rd f e xs H (.tree (xs.map f) t) :=
 ⟨fun _ _=>eI,fun _ _ i x hx=>⟨_,aI hx (hs x),fun ag=>Ku⟩,rfl,rfl,rfl⟩
theorem Rd.row {xs:List α} {H:aA} {b g n c:Nat} {w:Bool} (h:aH H b g=some (xs.map f,e,w)) (hn:n=xs.length):Rd f e xs H (.ref b g 0 n c):=by
 subst hn
 refine⟨fun H' hh=>dP (cP hh h),fun H' hh i x hx => ?_,rfl,rfl,rfl⟩
 have hi:=(List.getElem?_eq_some_iff.1 hx).1
 have e1:=aS (o:=0) (n:=xs.length) (c:=c) (i:=i) (k := .i64) (cP hh h) hi
 rw[Nat.zero_add] at e1
 exact⟨_,e1,fun ag=>qD (f:=f) (cP hh h) hx⟩
structure MG (f:α→VV) (e lo hi b g:Nat) (H:aA) (rs:List (Ae α)):Prop where
 out:aH H b g=some (rs.map qO,1,true)
 blo:lo≤b
 bhi:b<hi
 rows:OB f e lo hi b H rs
variable {lo hi b g:Nat} {H H':aA} {rs:List (Ae α)}
theorem MG.cL (h:MG f e lo hi b g H rs) (hk:dO lo hi H H'):MG f e lo hi b g H' rs :=
 ⟨hk _ _ _ h.blo h.bhi h.out,h.blo,h.bhi,h.rows.nd,fun r hr=>by
  obtain⟨k1,k2,k3,k4,k5⟩:=h.rows.row r hr
  exact⟨k1,k2,k3,k4,hk _ _ _ k1 k2 k5⟩⟩
theorem MG.pre (h:MG f e lo hi b g H rs) (hh:H <+: H'):MG f e lo hi b g H' rs:=h.cL (dO.pre hh)
theorem MG.len {n c:Nat} (h:MG f e lo hi b g H rs):qB (.ref b g 0 n c) H=some (VI n):=dP h.out
theorem MG.cell {i:Nat} {r:Ae α} (h:MG f e lo hi b g H rs) (hr:rs[i]? = some r):cN false 1 (.ptr b g i 0) H=some (.ref r.b r.g 0 r.xs.length r.c):=by
 rw[qD (f:=qO) h.out hr]
 rfl
theorem MG.row {i:Nat} {r:Ae α} (h:MG f e lo hi b g H rs) (hr:rs[i]? = some r):aH H r.b r.g=some (r.xs.map f,e,true):=(h.rows.row r (List.mem_of_getElem? hr)).2.2.2.2
theorem MG.at {i j n c:Nat} {r:Ae α} (h:MG f e lo hi b g H rs) (hr:rs[i]? = some r) (hj:j<n):bP e (.ref r.b r.g 0 n c) (VI j) H=some (.ptr r.b r.g j 0):=by
 have:=aS (o:=0) (n:=n) (c:=c) (i:=j) (k := .i64) (h.row hr) hj
 rwa [Nat.zero_add] at this
theorem MG.get {i j:Nat} {ag:Bool} {r:Ae α} {x:α} (h:MG f e lo hi b g H rs) (hr:rs[i]? = some r) (hx:r.xs[j]? = some x):cN ag e (.ptr r.b r.g j 0) H=dK ag e (f x) 0:=qD (f:=f) (h.row hr) hx
theorem MG.inj {i j:Nat} {r s:Ae α} (h:MG f e lo hi b g H rs) (hr:rs[i]? = some r) (hs:rs[j]? = some s) (he:r.b=s.b):i=j:=by
 have h1:(rs.map (·.b))[i]? = some r.b:=by simp[hr]
 have h2:(rs.map (·.b))[j]? = some r.b:=by simp[hs,he]
 exact Sc h.rows.nd h1 h2
theorem Mh {β γ:Type} {F:β→γ} {l:List β} {i:Nat} {x y:β} (hx:l[i]? = some x) (he:F y=F x):(l.set i y).map F=l.map F:=by
 apply List.ext_getElem?
 intro j
 rw[List.getElem?_map,List.getElem?_map,List.getElem?_set]
 split
 ·rename_i Rx
  subst Rx
  split
  ·rw[hx,Option.map_some,Option.map_some,he]
  ·rename_i hn
   rw[(List.getElem?_eq_none (by omega))] at hx
   cases hx
 ·rfl
theorem MG.set {i:Nat} {r:Ae α} {ys:List α} (h:MG f e lo hi b g H rs) (hr:rs[i]? = some r) (hl:ys.length=r.xs.length):MG f e lo hi b g (H.set r.b (.row r.g (ys.map f) e true)) (rs.set i { r with xs:=ys }):=by
 have CE:=h.rows.row r (List.mem_of_getElem? hr)
 refine⟨?_,h.blo,h.bhi,?_,fun s hs => ?_⟩
 ·rw[Mh hr (by simp[qO,hl])]
  exact aZ CE.2.2.1 h.out
 ·rw[Mh (F:=fun r:Ae α=>r.b) (y:={ r with xs:=ys }) hr rfl]
  exact h.rows.nd
 ·obtain⟨j,hj⟩:=List.getElem?_of_mem hs
  rw[List.getElem?_set] at hj
  split at hj
  ·rename_i Rx
   split at hj
   ·cases hj
    exact⟨CE.1,CE.2.1,CE.2.2.1,by rw[hl];exact CE.2.2.2.1,bJ CE.2.2.2.2⟩
   ·cases hj
  ·rename_i Rx
   have O0:=h.rows.row s (List.mem_of_getElem? hj)
   exact⟨O0.1,O0.2.1,O0.2.2.1,O0.2.2.2.1,aZ (fun he=>Rx (h.inj hr hj he)) O0.2.2.2.2⟩
theorem MG.put {i j lJ:Nat} {r:Ae α} {y:α} (h:MG f e lo hi b g H rs) (hr:rs[i]? = some r) (hj:j<r.xs.length) (fG:lJ≤lo) (hv:(aB (f y)).length=e) (hs:(aB (f y)).all cC=true) :
  cD lJ e (.ptr r.b r.g j 0) (f y) H=some (H.set r.b (.row r.g ((r.xs.set j y).map f) e true)) :=
 eH (f:=f) (h.row hr) hj (Nat.le_trans fG (h.rows.row r (List.mem_of_getElem? hr)).1) hv hs
theorem MG.lt {i:Nat} {r:Ae α} (h:MG f e lo hi b g H rs) (hr:rs[i]? = some r):lo≤r.b∧r.b<hi∧r.b<H.length:=⟨(h.rows.row r (List.mem_of_getElem? hr)).1,(h.rows.row r (List.mem_of_getElem? hr)).2.1,eW (h.row hr)⟩
theorem MG.bE {c:Nat} (h:MG f e lo hi b g H rs) (hc:rs.length≤c):RG f e (rs.map (·.xs)) lo hi H (.ref b g 0 rs.length c) := .inr ⟨b,g,c,rs,h.blo,h.bhi,by rw[List.length_map],by rw[List.length_map];exact hc,h.out,rfl,h.rows⟩
theorem MG.fz {d c:Nat} (h:MG f e lo hi b g H rs) (hc:rs.length≤c) (hp:∀x,bA (f x)=true):PM.fz (d+3) H (.ref b g 0 rs.length c)=some (aQ (aQ f) (rs.map (·.xs))):=VN hp h.out hc h.rows
theorem MG.wide {lJ qW:Nat} (h:MG f e lo hi b g H rs) (hl:lJ≤lo) (hh:hi≤qW):MG f e lJ qW b g H rs:=⟨h.out,by have:=h.blo;omega,by have:=h.bhi;omega,h.rows.nd,fun r hr=>by
 obtain⟨k1,k2,k3,k4,k5⟩:=h.rows.row r hr
 exact⟨by omega,by omega,k3,k4,k5⟩⟩
end
theorem kC:type_of% (And.intro @jJ<|And.intro @zF<|And.intro @oO.eq_1<|And.intro @rN.eq_1<|And.intro @rN.eq_2<|And.intro @Fp.eq_1<|And.intro @Fp.eq_2<|And.intro @zP.eq_1<|And.intro @zP.eq_2<|And.intro @Hf<|And.intro @Cj<|And.intro @Et<|And.intro @Ea<|And.intro @List.take_zero.{0}<|And.intro @List.take_succ_cons.{0}<|And.intro @List.take_nil.{0}<|And.intro @List.drop_zero.{0}<|And.intro @List.drop_succ_cons.{0}<|And.intro @List.drop_nil.{0}<|And.intro @List.append_nil.{0} <| @Nat.le_refl):=And.intro @jJ<|And.intro @zF<|And.intro @oO.eq_1<|And.intro @rN.eq_1<|And.intro @rN.eq_2<|And.intro @Fp.eq_1<|And.intro @Fp.eq_2<|And.intro @zP.eq_1<|And.intro @zP.eq_2<|And.intro @Hf<|And.intro @Cj<|And.intro @Et<|And.intro @Ea<|And.intro @List.take_zero.{0}<|And.intro @List.take_succ_cons.{0}<|And.intro @List.take_nil.{0}<|And.intro @List.drop_zero.{0}<|And.intro @List.drop_succ_cons.{0}<|And.intro @List.drop_nil.{0}<|And.intro @List.append_nil.{0} <| @Nat.le_refl
def NC (P:Nat→Nat→aA→VV→Prop) (H:aA) (r:VV) (H':aA):Prop:=H <+: H'∧P H.length H'.length H' r
theorem nJ {F lo:Nat} {args:List VV} {P:Nat→Nat→aA→VV→Prop} {H:aA} {K:VV→aA→Prop} (yZ:Dg.contains F=true) (h:kS F args lo H (NC P H)) (hk:∀r L,P H.length (H++L).length (H++L) r→K r (H++L)):cZ F args lo H K:=by
 refine gC yZ (h.mono ?_)
 rintro r H' ⟨⟨L,rfl⟩,hP⟩
 exact hk r L hP
end Go.PM
namespace Go.PM
open Go.Lib
abbrev cell0:cA := .row 0 [.agg [VB false,.tree [] .nil,.tree [] .nil]] 3 true
def cU (qs:List Rat):Rat:=qs.foldl (· + ·) 0
theorem Eh {qs:List Rat} {i:Nat} {q:Rat} (h:qs[i]? = some q):cU (qs.take (i+1))=cU (qs.take i)+q:=by
 rw[iK h,cU,List.foldl_append];rfl
theorem Ou {B:Nat}:∀ {qs:List Rat},(∀q∈qs,bQ q≤B)→∀a:Rat,bQ (qs.foldl (· + ·) a)≤qs.length*(B+1)+bQ a
 | [],_,a=>by simp
 |
  q::qs,h,a=>by
  have h1:=Ou (fun x hx=>h x (List.mem_cons_of_mem _ hx)) (a+q)
  have h2:=Ot a q
  have h3:=h q List.mem_cons_self
  rw[List.foldl_cons,List.length_cons,Nat.succ_mul]
  omega
theorem Fv {B:Nat} {qs:List Rat} (h:∀q∈qs,bQ q≤B) (i:Nat):bQ (cU (qs.take i))≤qs.length*(B+1)+1:=by
 have h1:=Ou (qs:=qs.take i) (fun q hq=>h q (List.mem_of_mem_take hq)) 0
 have h2:(qs.take i).length*(B+1)≤qs.length*(B+1):=Nat.mul_le_mul_right _ (by rw[List.length_take];omega)
 rw[L6] at h1
 unfold cU
 omega
set_option maxHeartbeats 1000000 in
abbrev rz:VV := .agg [VB false,.tree [] .nil,.tree [] .nil]
theorem mC {H H1:aA} {b:Nat} {x:cA} (h:H <+: H1) (hb:H.length≤b):H <+: H1.set b x:=by
 obtain⟨L,rfl⟩:=h
 rw[List.set_append_right _ _ hb]
 exact List.prefix_append _ _
theorem kQ {H H1 L:aA} (h:H <+: H1):H <+: H1++L:=h.trans (List.prefix_append _ _)
theorem yI {lo:Nat} {H:aA} {q:Rat} (h:lo≤H.length):cD lo 3 (.ptr H.length 0 0 0) (bF q) (H++[cell0])=some (H++[.row 0 [bF q] 3 true]):=by
 rw[bX (g:=0) (e:=3) (j:=0) iD (by exact Nat.zero_lt_one) h rfl rfl,GN]
 rfl
theorem KE {H K:aA} {q:Rat}:cN true 3 (.ptr H.length 0 0 0) (H ++ .row 0 [bF q] 3 true::K)=some (bF q):=by
 rw[bR,Hp,aU]
 exact dL _
theorem Fq {lo:Nat} {H:aA} {v:VV} (qs:List Rat) {B:Nat} (hv:Rd bF 3 qs H v) (fG:lo≤H.length) (hb:∀q∈qs,bQ q≤B) (hk:qs.length*(B+1)+1≤1099511627776) (hB:B≤1099511627776) (hn:qs.length≤1000000000) :
  kS 70 [v] lo H (NC (fun _ _ _ r=>r=bF (cU qs)) H):=by
 refine kS.walk ⟨true,false⟩ UK (Nat.le_of_ble_eq_true rfl) ?_
 have e1:TC 64 [VI 0] (bF 0):=tO 0 (by decide) (by decide)
 have e2:=hv.len (H++[cell0,.row 0 [bF 0] 3 true]) (List.prefix_append _ _)
 have s0:cD lo 3 (.ptr (H.length+1) 0 0 0) (bF 0) (H++[cell0,cell0])=some (H++[cell0,.row 0 [bF 0] 3 true]):=by
  have:=yI (lo:=lo) (H:=H++[cell0]) (q:=0) (by rw[List.length_append];omega)
  simpa only[List.length_append,List.length_cons,List.length_nil,Nat.zero_add,List.append_assoc,List.cons_append,List.nil_append] using this
 simp only[Sd,KY,e1,e2,s0,List.length_append,List.length_cons,List.length_nil,List.append_assoc,List.cons_append,List.nil_append,kC,VX,Nat.reduceEqDiff,Nat.reduceAdd,Nat.reduceLeDiff,Nat.reduceLT,Nat.reduceSub]
 refine aP (fun(i:Nat) ρ H1=>i≤qs.length∧H <+: H1∧aH H1 H.length 0=some ([rz],3,true)∧aH H1 (H.length+1) 0=some ([bF (cU (qs.take i))],3,true)∧ρ 2 = .ptr H.length 0 0 0∧ρ 3 = .ptr (H.length+1) 0 0 0∧ρ 7=v∧ρ 8=VI qs.length∧ρ 9=VI i) (fun i=>qs.length-i) 0 ⟨Nat.zero_le _,List.prefix_append _ _,Hp.trans aU,Wg.trans (jB.trans aU),rfl,rfl,rfl,rfl,rfl⟩ ?_
 rintro i ρ H1 ⟨hi,hp,vO,AW,g2,g3,g7,g8,g9⟩
 have BP:=eW AW
 by_cases cK:(i:Int)<(qs.length:Int)
 ·obtain⟨q,hq⟩:∃q,qs[i]? = some q:=⟨_,List.getElem?_eq_getElem (by omega)⟩
  obtain⟨p,a1,a2⟩:=hv.get H1 hp i q hq
  have a2':=(a2 true).trans (dL _)
  have wi:IntKind.i64.wrap ((i:Int)+1)=((i+1:Nat):Int):=wrapN (i+1) (by omega) (by omega)
  have h1:=Fv hb i
  have h2:=hb q (List.mem_of_getElem? hq)
  have h3:(i+1)*(B+1)≤qs.length*(B+1):=Nat.mul_le_mul_right _ (by omega)
  have e3:=yD (cU (qs.take i)) q (by omega) (by omega)
  rw[←Eh hq] at e3
  have s1:=yI (lo:=lo) (H:=H1) (q:=q) (by omega)
  have s2:=KE (H:=H1) (K:=[]) (q:=q)
  have s3:cN true 3 (.ptr (H.length+1) 0 0 0) (H1++[.row 0 [bF q] 3 true])=some (bF (cU (qs.take i))):=by
   rw[bR,bK AW]
   exact dL _
  have s4:=bX (lo:=lo) (v:=bF (cU (qs.take (i+1)))) (j:=0) (bK (L:=[.row 0 [bF q] 3 true]) AW) (by exact Nat.zero_lt_one) (by omega) rfl rfl
  rw[List.set_cons_zero] at s4
  simp only[Dd,g2,g3,g7,g8,g9,cK,a1,a2',e3,s1,s2,s3,s4,wi,dL,kC,VX,Nat.reduceEqDiff,Nat.reduceAdd,Nat.reduceLeDiff,Nat.reduceLT,Nat.reduceSub]
  exact⟨i+1,by omega,by omega,mC (kQ hp) (by omega),aZ (by omega) (bK vO),bJ (bK AW),by (repeat' apply And.intro)<;>first | rfl | trivial | assumption⟩
 ·have lS:i=qs.length:=by omega
  subst lS
  rw[List.take_length] at AW
  have s3:cN true 3 (.ptr (H.length+1) 0 0 0) H1=some (bF (cU qs)):=by
   rw[bR,AW]
   exact dL _
  have s4:=bX (lo:=lo) (v:=bF (cU qs)) (j:=0) vO (by exact Nat.zero_lt_one) fG rfl rfl
  rw[List.set_cons_zero] at s4
  have s5:cN true 3 (.ptr H.length 0 0 0) (H1.set H.length (.row 0 [bF (cU qs)] 3 true))=some (bF (cU qs)):=by
   rw[bR,bJ vO]
   exact dL _
  simp only[Dd,g2,g3,g8,g9,cK,s3,s4,s5,kC,VX,Nat.reduceEqDiff,Nat.reduceAdd,Nat.reduceLeDiff,Nat.reduceLT,Nat.reduceSub]
  exact⟨mC hp (Nat.le_refl _),rfl⟩
theorem Ox {q:Rat}:kB q<0↔q<0:=by
 have e:q.num<0↔q<0:=by rw[←Int.not_le,Rat.num_nonneg];constructor<;>intro h<;>grind
 rw[←e]
 rcases Int.lt_trichotomy q.num 0 with h | h | h
 ·rw[oP h];omega
 ·rw[kX h];omega
 ·rw[oQ h];omega
theorem K3 (q:Rat):TC 67 [bF q] (VB (decide (q<0))):=by
 refine TC.walk ⟨true,false⟩ Lv rfl (Nat.le_of_ble_eq_true rfl) (by simp[aM,iZ]) rfl ?_
 have e1:=fO q
 by_cases h:kB q<0
 ·rw[decide_eq_true (Ox.1 h)]
  simp only[Ch,yB,e1,h,aF,dE,dL,aY,aV,aO,jS,Nat.reduceLeDiff,Nat.reduceLT,Nat.reduceSub,GM,pR,sI,wK,Bh,Ck,bne_iff_ne,ne_eq,not_false_eq_true,not_true_eq_false,VX,Nat.reduceEqDiff,Nat.reduceAdd]
  exact aK rfl
 ·rw[decide_eq_false (mt Ox.2 h)]
  simp only[Ch,yB,e1,h,aF,dE,dL,aY,aV,aO,jS,Nat.reduceLeDiff,Nat.reduceLT,Nat.reduceSub,GM,pR,sI,wK,Bh,Ck,bne_iff_ne,ne_eq,not_false_eq_true,not_true_eq_false,VX,Nat.reduceEqDiff,Nat.reduceAdd]
  exact aK rfl
theorem Cm (xs:List Rat) (g:Nat) (p:Rat→Bool) (hg:∀x∈xs,TC g [bF x] (VB (p x))) (hn:xs.length≤1000000000) :
  ∃k:Int,(0≤k↔xs.any p=true)∧TC 141 [aQ bF xs,.vM g []] (VI k):=by
 refine⟨match xs.findIdx? p with | some i=>i | none => -1,?_,?_⟩
 ·cases h:xs.findIdx? p with
  |
   none =>
   rw[List.findIdx?_eq_none_iff] at h
   simp only[List.any_eq_true]
   constructor
   ·intro h';omega
   ·rintro⟨x,hx,hp⟩;rw[h x hx] at hp;cases hp
  |
   some i =>
   simp only[List.any_eq_true]
   obtain⟨hi,hp,_⟩:=List.findIdx?_eq_some_iff_getElem.1 h
   exact⟨fun _=>⟨_,List.getElem_mem hi,hp⟩,fun _=>by omega⟩
 ·refine TC.walk ⟨true,false⟩ pD rfl (Nat.le_of_ble_eq_true rfl) (by simp[aM,BW];rfl) rfl ?_
  simp only[jA,iN,VX,Nat.reduceEqDiff,Nat.reduceAdd]
  refine aP (fun(i:Nat) ρ H=>i≤xs.length∧H=[]∧(∀j x,j<i→xs[j]? = some x→p x=false)∧ρ 0=aQ bF xs∧ρ 1 = .vM g []∧ρ 7=VI xs.length∧ρ 8=VI i) (fun i=>xs.length-i) 0 ⟨Nat.zero_le _,rfl,fun j x h=>by omega,rfl,rfl,rfl,rfl⟩ ?_
  rintro i ρ H ⟨hi,rfl,mD,h0,h1,h7,h8⟩
  by_cases cK:(i:Int)<(xs.length:Int)
  ·obtain⟨x,hx⟩:∃x,xs[i]? = some x:=⟨_,List.getElem?_eq_getElem (by omega)⟩
   have e1:=aI (f:=bF) (t := .op) (H:=[]) (size:=3) (k := .i64) hx rfl
   have wi:IntKind.i64.wrap ((i:Int)+1)=((i+1:Nat):Int):=wrapN (i+1) (by omega) (by omega)
   have e2:=hg x (List.mem_of_getElem? hx)
   cases hp:p x with
   |
    false =>
    rw[hp] at e2
    simp only[cV,h0,h1,h7,h8,cK,e1,e2,wi,Cl,List.append_nil,aF,dE,dL,aY,aV,aO,VX,Nat.reduceEqDiff,Nat.reduceAdd]
    refine⟨i+1,by omega,by omega,fun j y hj hy => ?_,by (repeat' apply And.intro)<;>first | rfl | trivial⟩
    rcases Nat.lt_or_ge j i with Jy | Jy
    ·exact mD j y Jy hy
    ·have:j=i:=by omega
     subst this
     rw[hx] at hy
     injection hy with hy
     exact hy▸hp
   |
    true =>
    rw[hp] at e2
    simp only[cV,h0,h1,h7,h8,cK,e1,e2,wi,Cl,List.append_nil,aF,dE,dL,aY,aV,aO,VX,Nat.reduceEqDiff,Nat.reduceAdd]
    have:xs.findIdx? p=some i:=by
     rw[List.findIdx?_eq_some_iff_getElem]
     obtain⟨bH,CR⟩:=List.getElem?_eq_some_iff.1 hx
     exact⟨bH,by rw[CR];exact hp,fun j hj=>by
      have:=mD j _ hj (List.getElem?_eq_getElem (by omega))
      simp[this]⟩
    rw[this]
    exact aK rfl
  ·simp only[cV,h0,h1,h7,h8,cK,VX,Nat.reduceEqDiff,Nat.reduceAdd]
   have:xs.findIdx? p=none:=by
    rw[List.findIdx?_eq_none_iff]
    intro x hx
    obtain⟨j,hj⟩:=List.getElem?_of_mem hx
    exact mD j x (by have:=(List.getElem?_eq_some_iff.1 hj).1;omega) hj
   rw[this]
   exact aK rfl
theorem Ab (xs:List Rat) (g:Nat) (p:Rat→Bool) (hg:∀x∈xs,TC g [bF x] (VB (p x))) (hn:xs.length≤1000000000):TC 66 [aQ bF xs,.vM g []] (VB (xs.any p)):=by
 refine TC.walk ⟨true,false⟩ nH rfl (Nat.le_of_ble_eq_true rfl) (by simp[aM,BW];rfl) rfl ?_
 obtain⟨k,hk,hc⟩:=Cm xs g p hg hn
 have e:decide (0≤k)=xs.any p:=by
  cases h:xs.any p with
  | true=>rw[decide_eq_true (hk.2 h)]
  | false=>rw[decide_eq_false fun h'=>by rw[hk.1 h'] at h;cases h]
 simp only[iB,gR,hc,e,VX,Nat.reduceEqDiff,Nat.reduceAdd]
 exact aK rfl
theorem Uo:Rl none = .fN [aQ bF [],VB false]:=rfl
theorem Us (qs:List Rat):Rl (some qs) = .fN [aQ bF qs,VB true]:=rfl
end Go.PM
namespace Go.PM
open Go.Lib
end Go.PM
namespace Go.PM
def sX:aD:=(LS [LO 13 (.bin .lss (LT 12) (LT 11))] (.seq (.cond (LT 13) .skip (.exit 0)) (.seq (.block 1 (LS [LO 14 (.iaddr 1 (LT 10) (LT 12)),LO 15 (LL 14),LM 6 15] (LS [LM 17 6,LO 18 (.call 147 [(LT 17)]),LM 16 18,LO 19 (LX 16 0),LO 20 (LX 16 1),LM 7 19,LM 8 20] (.seq (LS [LM 21 8,LO 22 (.un .not (LT 21))] (.cond (LT 22) (LS [LO 23 (.build [(.slice none 0 0)] [(0,1)] []),LN (.store 1 (LT 2) (LT 23)),LO 3 (.mv LF)] .ret) .skip)) (.dJ [LO 24 (LA 0 4),LO 25 (LL 24),LM 26 7,LO 27 (.lit [(.slice none 0 0)] 1 [(0,(LT 26))]),LO 28 (.app 1 24 (LT 25) (LT 27)),LO 29 (LA 0 4),LN (.store 1 (LT 29) (LT 28))]))))) (.dJ [LO 30 (.bin .add (LT 12) (LI 1)),LM 12 30]))))
def Bj:aD:=(LS [LO 2 (.new [(.slice none 0 0)]),LO 3 (.mv LF)] (LS [LO 9 (.build [(.slice none 0 0)] [(0,1)] []),LO 4 (.new [(.slice none 0 0)]),LN (.store 1 (LT 4) (LT 9))] (.seq (LS [LM 10 0,LO 11 (.len (LT 10)),LO 12 (.mv (LI 0))] (.block 0 (.loop sX))) (LS [LO 31 (.load true 1 (LT 4)),LN (.store 1 (LT 2) (LT 31)),LO 3 (.mv LG)] .ret))))
def C6:aT:=⟨32,[(.cell 2 true 1),(.tmp 3)],Bj⟩
theorem IN:gO 71=some C6:=by kernel_rfl
end Go.PM
namespace Go.PM
open Go.Lib
abbrev Hq (c:List (List ByteArray)):VV:=aQ fM c
abbrev Ns (x:VV):VV := .agg [x]
theorem Wh {x:VV}:dK false 1 (Ns x) 0=some x:=rfl
end Go.PM
namespace Go.PM
end Go.PM
namespace Go.PM
def M0 (cs:List kM) (i:Nat):Int:=((cs[i]?).map (·.t)).getD 0
def YG (cs:List kM) (i:Nat):Int:=((cs[i]?).map (·.w)).getD 0
def klC (cs:List kM) (i:Nat):Int:=((cs[i]?).map (·.k)).getD 0
def HR (st:List Int) (i:Nat):Int:=(st[i]?).getD 0
theorem Tb {cs:List kM} {i:Nat} {x:kM} (h:cs[i]? = some x):M0 cs i=x.t:=by simp[M0,h]
theorem ajJ {cs:List kM} {i:Nat} {x:kM} (h:cs[i]? = some x):YG cs i=x.w:=by simp[YG,h]
theorem ZD {st:List Int} {i:Nat} {x:Int} (h:st[i]? = some x):HR st i=x:=by simp[HR,h]
def inS (cs:List kM) (st:List Int) (t:Int) (i:Nat):Bool:=decide (0≤HR st i)&&decide (HR st i≤t)&&decide (t<HR st i+YG cs i)
def bz (cs:List kM) (st:List Int) (t:Int):Nat:=(List.range cs.length).countP (inS cs st t)
def isW (cs:List kM) (st:List Int) (t:Int) (i:Nat):Bool:=decide (HR st i<0)&&decide (M0 cs i≤t)
def wt (cs:List kM) (st:List Int) (t:Int):List Nat:=(List.range cs.length).filter (isW cs st t)
def Kc (cQ:Int) (cs:List kM) (i k:Nat):Bool :=
 if cQ=1 then true else if cQ=2 then decide (YG cs i<YG cs k) else if cQ=3 then decide (klC cs i<klC cs k) else false
def Az (cQ:Int) (cs:List kM) (b:Option Nat) (i:Nat):Option Nat:=match b with
 | none=>some i
 | some k=>if Kc cQ cs i k then some i else some k
def nxt (cQ:Int) (cs:List kM) (st:List Int) (t:Int):Option Nat:=(wt cs st t).foldl (Az cQ cs) none
def fill (cQ tI:Int) (cs:List kM) (t:Int):Nat→List Int→List Int
 | 0,st=>st
 |
  n+1,st=>if (bz cs st t:Int)<tI then (match nxt cQ cs st t with
  | none=>st
  | some k=>fill cQ tI cs t n (st.set k t)) else st
def full (cQ tI:Int) (cs:List kM) (st:List Int) (t:Int):Prop:=tI≤(bz cs st t:Int)∨nxt cQ cs st t=none
def runT (cQ tI:Int) (cs:List kM):Int→Nat→List Int→List Int
 | _,0,st=>st
 | t,n+1,st=>runT cQ tI cs (t+1) n (fill cQ tI cs t cs.length st)
def stL (cQ tI:Int) (cs:List kM):List Int:=runT cQ tI cs 0 100000 (List.replicate cs.length (-1))
section
variable {cQ tI:Int} {cs:List kM} {st:List Int} {t:Int}
theorem xU (h:full cQ tI cs st t) (n:Nat):fill cQ tI cs t n st=st:=by
 cases n with
 | zero=>rfl
 |
  succ n =>
  rw[fill]
  rcases h with h | h
  ·rw[if_neg (by omega)]
  ·split
   ·rw[h]
   ·rfl
theorem N2 (m:Nat):∀(t:Int) (n:Nat),(∀u,t≤u→u<t+m→full cQ tI cs st u)→m≤n→runT cQ tI cs t n st=runT cQ tI cs (t+m) (n-m) st:=by
 induction m with
 | zero=>intro t n _ _;simp
 |
  succ m ih =>
  intro t n h hm
  obtain⟨n,rfl⟩:∃k,n=k+1:=⟨n-1,by omega⟩
  rw[runT,xU (h t (Int.le_refl _) (by omega)),ih (t+1) n (fun u h1 h2=>h u (by omega) (by omega)) (by omega)]
  congr 1
  ·omega
  ·omega
theorem Xb (n:Nat):∀(t:Int),(∀u,t≤u→full cQ tI cs st u)→runT cQ tI cs t n st=st:=by
 intro t h
 rw[N2 n t n (fun u h1 _=>h u h1) (Nat.le_refl _),Nat.sub_self]
 rfl
theorem U2 {a b:Int} (ha:0≤a) (F9:a≤b) (hb:b≤100000) (h:∀u,a≤u→u<b→full cQ tI cs st u):runT cQ tI cs a (100000-a).toNat st=runT cQ tI cs b (100000-b).toNat st:=by
 rw[N2 (b-a).toNat a _ (fun u h1 h2=>h u h1 (by omega)) (by omega)]
 congr 1
 ·omega
 ·omega
theorem ZQ {a:Int} (ha:0≤a) (hb:a<100000):runT cQ tI cs a (100000-a).toNat st=runT cQ tI cs (a+1) (100000-(a+1)).toNat (fill cQ tI cs a cs.length st):=by
 rw[show (100000-a).toNat=(100000-(a+1)).toNat+1 by omega,runT]
theorem NB {ws:List Nat} {k:Nat}:∃j,(ws.foldl (Az cQ cs) (some k))=some j∧(j=k∨j∈ws):=by
 induction ws generalizing k with
 | nil=>exact⟨k,rfl,.inl rfl⟩
 |
  cons i ws ih =>
  rw[List.foldl_cons]
  have:∃q,Az cQ cs (some k) i=some q∧(q=k∨q=i):=by
   unfold Az
   simp only
   split
   ·exact⟨i,rfl,.inr rfl⟩
   ·exact⟨k,rfl,.inl rfl⟩
  obtain⟨q,hq,hqq⟩:=this
  rw[hq]
  obtain⟨j,h1,h2⟩:=ih (k:=q)
  refine⟨j,h1,?_⟩
  rcases h2 with rfl | h2
  ·rcases hqq with rfl | rfl
   ·exact .inl rfl
   ·exact .inr List.mem_cons_self
  ·exact .inr (List.mem_cons_of_mem _ h2)
theorem zU:nxt cQ cs st t=none↔wt cs st t=[]:=by
 unfold nxt
 cases h:wt cs st t with
 | nil=>exact⟨fun _=>rfl,fun _=>rfl⟩
 |
  cons i ws =>
  refine⟨fun h2 => ?_,fun h2=>(by cases h2)⟩
  rw[List.foldl_cons] at h2
  obtain⟨j,h3,_⟩:=NB (cQ:=cQ) (cs:=cs) (ws:=ws) (k:=i)
  rw[show Az cQ cs none i=some i from rfl,h3] at h2
  cases h2
theorem PW {k:Nat} (h:nxt cQ cs st t=some k):k∈wt cs st t:=by
 unfold nxt at h
 cases hw:wt cs st t with
 | nil=>rw[hw] at h;cases h
 |
  cons i ws =>
  rw[hw,List.foldl_cons] at h
  obtain⟨j,h3,h4⟩:=NB (cQ:=cQ) (cs:=cs) (ws:=ws) (k:=i)
  rw[show Az cQ cs none i=some i from rfl,h3] at h
  injection h with h
  subst h
  rcases h4 with rfl | h4
  ·exact List.mem_cons_self
  ·exact List.mem_cons_of_mem _ h4
theorem Lg {k:Nat}:k∈wt cs st t↔k<cs.length∧HR st k<0∧M0 cs k≤t:=by
 simp[wt,isW]
theorem YP:(wt cs st t).Nodup:=List.Pairwise.filter _ List.nodup_range
theorem Hv {k i:Nat} (hk:k<st.length):HR (st.set k t) i=if i=k then t else HR st i:=by
 unfold HR
 rw[List.getElem?_set]
 by_cases h:i=k
 ·subst h
  simp[hk]
 ·rw[if_neg (fun h'=>h h'.symm),if_neg h]
theorem Po {p q:Nat→Bool} {k:Nat} (hp:p k=false) (h:∀i,i≠k→q i=p i):∀n,(List.range n).countP q=(List.range n).countP p+if k<n∧q k=true then 1 else 0:=by
 intro n
 induction n with
 | zero=>simp
 |
  succ n ih =>
  rw[List.range_succ,List.countP_append,List.countP_append,ih]
  by_cases hk:n=k
  ·subst hk
   simp only[List.countP_singleton,hp]
   cases hq:q n<;>simp
  ·rw[List.countP_singleton,List.countP_singleton,h n hk]
   have:(k<n+1∧q k=true)↔(k<n∧q k=true):=by
    constructor
    ·rintro⟨h1,h2⟩;exact⟨by omega,h2⟩
    ·rintro⟨h1,h2⟩;exact⟨by omega,h2⟩
   simp only[this]
   omega
theorem amL {k:Nat} {u:Int} (hk:k<cs.length) (hl:st.length=cs.length) (hs:HR st k<0) (h0:0≤t):bz cs (st.set k t) u=bz cs st u+if t≤u∧u<t+YG cs k then 1 else 0:=by
 unfold bz
 rw[Po (p:=inS cs st u) (q:=inS cs (st.set k t) u) (k:=k)]
 ·congr 1
  have:(k<cs.length∧inS cs (st.set k t) u k=true)↔(t≤u∧u<t+YG cs k):=by
   simp only[inS,Hv (t:=t) (i:=k) (by omega:k<st.length),if_true,Bool.and_eq_true,decide_eq_true_eq]
   constructor
   ·rintro⟨_,⟨_,h1⟩,h2⟩;exact⟨h1,h2⟩
   ·rintro⟨h1,h2⟩;exact⟨hk,⟨h0,h1⟩,h2⟩
  simp only[this]
 ·simp only[inS]
  rw[decide_eq_false (by omega)]
  rfl
 ·intro i hi
  simp only[inS,Hv (t:=t) (i:=i) (by omega:k<st.length),if_neg hi]
theorem alW {k:Nat} {u:Int} (hl:st.length=cs.length) (hk:k<cs.length) (h0:0≤t):wt cs (st.set k t) u=(wt cs st u).filter (· != k):=by
 unfold wt
 rw[List.filter_filter]
 refine List.filter_congr fun i hi => ?_
 simp only[isW,Hv (t:=t) (i:=i) (by omega:k<st.length)]
 by_cases h:i=k
 ·subst h
  simp
  omega
 ·simp[h]
def FQ (st:List Int):Nat:=st.countP (fun s=>decide (s<0))
theorem A4 {k:Nat} (hk:k<st.length) (hs:HR st k<0) (h0:0≤t):FQ (st.set k t)+1=FQ st:=by
 unfold FQ
 rw[List.countP_set hk]
 have hx:st[k]=HR st k:=by
  rw[ZD (x:=st[k]) (List.getElem?_eq_getElem hk)]
 have h1:decide (st[k]<0)=true:=by rw[hx];exact decide_eq_true hs
 have h2:decide (t<0)=false:=decide_eq_false (by omega)
 have h3:0<st.countP (fun s=>decide (s<0)):=by
  rw[List.countP_pos_iff]
  exact⟨st[k],List.getElem_mem hk,h1⟩
 simp only[h1,h2,if_true,Bool.false_eq_true,if_false]
 omega
theorem W3 (hl:st.length=cs.length) (h0:0≤t):∀(n m:Nat),FQ st≤n→FQ st≤m→fill cQ tI cs t n st=fill cQ tI cs t m st:=by
 intro n
 induction n generalizing st with
 |
  zero =>
  intro m hn hm
  have hf:full cQ tI cs st t:=by
   right
   rw[zU]
   cases hw:wt cs st t with
   | nil=>rfl
   |
    cons i ws =>
    have h1:i∈wt cs st t:=by rw[hw];exact List.mem_cons_self
    obtain⟨h2,h3,_⟩:=Lg.1 h1
    have:=A4 (t:=t) (by omega:i<st.length) h3 h0
    omega
  rw[xU hf,xU hf]
 |
  succ n ih =>
  intro m hn hm
  cases m with
  |
   zero =>
   have hf:full cQ tI cs st t:=by
    right
    rw[zU]
    cases hw:wt cs st t with
    | nil=>rfl
    |
     cons i ws =>
     have h1:i∈wt cs st t:=by rw[hw];exact List.mem_cons_self
     obtain⟨h2,h3,_⟩:=Lg.1 h1
     have:=A4 (t:=t) (by omega:i<st.length) h3 h0
     omega
   rw[xU hf,xU hf]
  |
   succ m =>
   rw[fill,fill]
   split
   ·split
    ·rfl
    ·rename_i k hk
     obtain⟨h2,h3,_⟩:=Lg.1 (PW hk)
     have:=A4 (t:=t) (by omega:k<st.length) h3 h0
     exact ih (by simp[hl]) m (by omega) (by omega)
   ·rfl
theorem V8:FQ st≤st.length:=List.countP_le_length
theorem XL {k:Nat} (hl:st.length=cs.length) (h0:0≤t) (hb:(bz cs st t:Int)<tI) (hk:nxt cQ cs st t=some k):fill cQ tI cs t cs.length (st.set k t)=fill cQ tI cs t cs.length st:=by
 obtain⟨h2,h3,_⟩:=Lg.1 (PW hk)
 have h4:=A4 (t:=t) (by omega:k<st.length) h3 h0
 have h5:=V8 (st:=st)
 rw[W3 (st:=st) hl h0 cs.length (cs.length+1) (by omega) (by omega)]
 conv=>rhs;rw[fill,if_pos hb,hk]
def evT (cs:List kM) (st:List Int) (i:Nat):Int:=if 0≤HR st i then HR st i+YG cs i else M0 cs i
def ajE (cs:List kM) (st:List Int) (t:Int) (b:Int) (i:Nat):Int:=if t<evT cs st i∧(b<0∨evT cs st i<b) then evT cs st i else b
def later (cs:List kM) (st:List Int) (t:Int):Int:=(List.range cs.length).foldl (ajE cs st t) (-1)
structure Way (cs:List kM) (st:List Int) (t:Int):Prop where
 len:st.length=cs.length
 low:∀i,i<cs.length → -1≤HR st i
 high:∀i,i<cs.length→HR st i≤t
 bd:∀i,i<cs.length→HR st i+1000*(FQ st:Int)≤10000+1000*(cs.length:Int)
 tm:0≤t∧t+1000*(FQ st:Int)≤11000+1000*(cs.length:Int)
theorem Way.set {k:Nat} (h:Way cs st t) (hk:k<cs.length) (hs:HR st k<0):Way cs (st.set k t) t:=by
 have hl:=h.len
 have Yr:=h.tm
 have h4:=A4 (t:=t) (by omega:k<st.length) hs Yr.1
 refine⟨by simp[hl],fun i hi => ?_,fun i hi => ?_,fun i hi => ?_,Yr.1,by omega⟩
 all_goals rw[Hv (by omega:k<st.length)]
 ·have:=h.low i hi
  split<;>omega
 ·have:=h.high i hi
  split<;>omega
 ·have:=h.bd i hi
  split<;>omega
theorem Way.le (h:Way cs st t) (hc:nN cs):t≤35000∧∀i,i<cs.length→HR st i≤34000:=by
 have hlen:=hc.2
 have Yr:=h.tm
 refine⟨by omega,fun i hi => ?_⟩
 have:=h.bd i hi
 omega
theorem nN.bnd (hc:nN cs) {i:Nat} (hi:i<cs.length):(0≤M0 cs i∧M0 cs i≤10000)∧(1≤YG cs i∧YG cs i≤1000):=by
 have hx:cs[i]? = some cs[i]:=List.getElem?_eq_getElem hi
 have:=hc.at hx
 rw[Tb hx,ajJ hx]
 exact⟨this.1,this.2.1⟩
def Mf (cQ:Int) (cs:List kM) (ws:List Nat):Nat :=
 if cQ=1 then ws.length-1 else if cQ=2∨cQ=3 then (List.range ws.length).foldl (fun b k=>if Kc cQ cs (ws.getD k 0) (ws.getD b 0) then k else b) 0 else 0
theorem TR {ws:List Nat} {k:Nat} (h:∀i j,Kc cQ cs i j=false):ws.foldl (Az cQ cs) (some k)=some k:=by
 induction ws with
 | nil=>rfl
 |
  cons i ws ih =>
  rw[List.foldl_cons]
  have:Az cQ cs (some k) i=some k:=by
   unfold Az
   simp only[h]
   rfl
  rw[this,ih]
theorem aaR {ws:List Nat} (fQ:ws≠[]) (hr:0≤cQ∧cQ≤3):Mf cQ cs ws<ws.length∧ws[Mf cQ cs ws]? = ws.foldl (Az cQ cs) none:=by
 have hlen:0<ws.length:=List.length_pos_iff.2 fQ
 unfold Mf
 by_cases h1:cQ=1
 ·rw[if_pos h1]
  rcases List.eq_nil_or_concat ws with rfl | ⟨xs,y,rfl⟩
  ·exact absurd rfl fQ
  ·rw[List.concat_eq_append,List.foldl_append]
   refine⟨by simp,?_⟩
   simp only[List.length_append,List.length_cons,List.length_nil,Nat.zero_add,Nat.add_sub_cancel,List.foldl_cons,List.foldl_nil]
   rw[List.getElem?_append_right (Nat.le_refl _),Nat.sub_self]
   unfold Az
   split
   ·rfl
   ·simp only[Kc,if_pos h1,if_true]
    rfl
 ·rw[if_neg h1]
  by_cases h2:cQ=2∨cQ=3
  ·rw[if_pos h2]
   have auX:∀i,Kc cQ cs i i=false:=fun i=>by
    unfold Kc
    rw[if_neg h1]
    split
    ·exact decide_eq_false (by omega)
    ·split
     ·exact decide_eq_false (by omega)
     ·rfl
   have key:∀n,n<ws.length→(List.range (n+1)).foldl (fun b k=>if Kc cQ cs (ws.getD k 0) (ws.getD b 0) then k else b) 0<ws.length ∧
     ws[(List.range (n+1)).foldl (fun b k=>if Kc cQ cs (ws.getD k 0) (ws.getD b 0) then k else b) 0]? = (ws.take (n+1)).foldl (Az cQ cs) none:=by
    intro n
    induction n with
    |
     zero =>
     intro _
     have:(List.range (0+1)).foldl (fun b k=>if Kc cQ cs (ws.getD k 0) (ws.getD b 0) then k else b) 0=0:=by
      simp[List.range_succ,auX]
     rw[this]
     refine⟨hlen,?_⟩
     cases ws with
     | nil=>exact absurd rfl fQ
     | cons i ws=>rfl
    |
     succ n ih =>
     intro hn
     obtain⟨g1,g2⟩:=ih (by omega)
     rw[List.range_succ,List.foldl_append,List.foldl_cons,List.foldl_nil]
     generalize (List.range (n+1)).foldl (fun b k=>if Kc cQ cs (ws.getD k 0) (ws.getD b 0) then k else b) 0=b at *
     obtain⟨x,hx⟩:∃x,ws[n+1]? = some x:=⟨_,List.getElem?_eq_getElem hn⟩
     obtain⟨y,hy⟩:∃y,ws[b]? = some y:=⟨_,List.getElem?_eq_getElem g1⟩
     rw[List.take_add_one,hx,List.foldl_append,←g2,hy]
     simp only[Option.toList_some,List.foldl_cons,List.foldl_nil,List.getD_eq_getElem?_getD,hx,hy,Option.getD_some,Az]
     split
     ·exact⟨hn,hx⟩
     ·exact⟨g1,hy⟩
   have:=key (ws.length-1) (by omega)
   rw[show ws.length-1+1=ws.length by omega,List.take_of_length_le (Nat.le_refl _)] at this
   exact this
  ·rw[if_neg h2]
   refine⟨hlen,?_⟩
   have hb:∀i j,Kc cQ cs i j=false:=fun i j=>by
    unfold Kc
    rw[if_neg h1,if_neg (by omega),if_neg (by omega)]
   cases ws with
   | nil=>exact absurd rfl fQ
   |
    cons i ws =>
    rw[List.foldl_cons,show Az cQ cs none i=some i from rfl,TR hb]
    rfl
end
end Go.PM
namespace Go.PM
def Ud (st:List Int) (i:Nat):Bool:=decide (HR st i<0)
def gtB (u e:Int):Bool:=decide (u<e)
section
variable {cQ tI:Int} {cs:List kM} {st:List Int} {t:Int}
theorem nN.sorted (hc:nN cs):∀ {i j:Nat},i≤j→j<cs.length→M0 cs i≤M0 cs j:=by
 intro i j Rx hj
 induction j with
 |
  zero =>
  have:i=0:=by omega
  subst this
  exact Int.le_refl _
 |
  succ j ih =>
  rcases Nat.lt_or_ge i (j+1) with h | h
  ·have h1:=ih (by omega) (by omega)
   have hx:cs[j+1]? = some cs[j+1]:=List.getElem?_eq_getElem hj
   have hy:cs[j]? = some cs[j]:=List.getElem?_eq_getElem (by omega)
   have h2:=(hc.1 (j+1) _ hx).2 _ (by omega) (by rw[Nat.add_sub_cancel];exact hy)
   rw[Tb hx]
   rw[Tb hy] at h1
   omega
  ·have:i=j+1:=by omega
   subst this
   exact Int.le_refl _
theorem GV {fH:Nat} (apQ:fH≤cs.length) (past:∀i,i<fH→M0 cs i≤t) (fut:∀i,fH≤i→i<cs.length→t<M0 cs i):wt cs st t=(List.range fH).filter (Ud st):=by
 unfold wt
 rw[show cs.length=fH+(cs.length-fH) by omega,List.range_add,List.filter_append]
 have h1:(List.range fH).filter (isW cs st t)=(List.range fH).filter (Ud st):=by
  refine List.filter_congr fun i hi => ?_
  rw[List.mem_range] at hi
  simp[isW,Ud,past i hi]
 have h2:((List.range (cs.length-fH)).map fun x=>fH+x).filter (isW cs st t)=[]:=by
  rw[List.filter_eq_nil_iff]
  intro i hi
  obtain⟨j,hj,rfl⟩:=List.mem_map.1 hi
  rw[List.mem_range] at hj
  have:=fut (fH+j) (by omega) (by omega)
  simp only[isW,Bool.and_eq_true,decide_eq_true_eq]
  omega
 rw[h1,h2,List.append_nil]
structure P4 (cQ tI:Int) (cs:List kM) (st:List Int) (t:Int) (fH:Nat) (ws:List Nat) (ends:List Int):Prop where
 len:st.length=cs.length
 low:∀i,i<cs.length → -1≤HR st i
 high:∀i,i<cs.length→HR st i≤t
 bd:∀i,i<cs.length→HR st i+1000*(FQ st:Int)≤10000+1000*(cs.length:Int)
 tm : -1≤t
 NW:fH≤cs.length
 past:∀i,i<fH→M0 cs i≤t
 fut:∀i,fH≤i→i<cs.length→t<M0 cs i∧HR st i<0
 wsq:ws=wt cs st t
 cnt:∀u,t≤u→ends.countP (gtB u)=bz cs st u
 ef:∀e∈ends,t<e
 eb:∀e∈ends,e+1000*(FQ st:Int)≤11000+1000*(cs.length:Int)
 fl:full cQ tI cs st t
 room:ws.length+ends.length≤fH
 es:(ends.length:Int)≤tI
 run:runT cQ tI cs (t+1) (100000-(t+1)).toNat st=stL cQ tI cs
theorem GG {n i:Nat} (h:i<n):HR (List.replicate n (-1)) i = -1:=ZD (by rw[List.getElem?_replicate,if_pos h])
theorem P4.start (hc:nN cs) (hs:1≤tI):P4 cQ tI cs (List.replicate cs.length (-1)) (-1) 0 [] []:=by
 have hw:wt cs (List.replicate cs.length (-1)) (-1)=[]:=by
  rw[GV (Nat.zero_le _) (fun i hi=>by omega) fun i _ hi=>by have:=hc.bnd hi;omega]
  rfl
 have hu:FQ (List.replicate cs.length (-1))=cs.length:=by simp[FQ,List.countP_replicate]
 refine⟨by simp,fun i hi=>by rw[GG hi];decide,fun i hi=>by rw[GG hi];decide,fun i hi=>by rw[GG hi,hu];omega,by decide,Nat.zero_le _,fun i hi=>by omega,fun i _ hi=>⟨by have:=hc.bnd hi;omega,by rw[GG hi];decide⟩,hw.symm,fun u _ => ?_,fun e he=>(by cases he),fun e he=>(by cases he),.inr (zU.2 hw),Nat.le_refl _,by simp;omega,rfl⟩
 unfold bz
 rw[(List.countP_eq_zero (p:=inS cs (List.replicate cs.length (-1)) u)).2]
 ·rfl
 ·intro i hi
  rw[List.mem_range] at hi
  simp only[inS,GG hi,Bool.and_eq_true,decide_eq_true_eq]
  omega
def Qi (w:Bool) (b e:Int):Int:=if b<0∨(w=true∧e<b) then e else b
theorem amG {es:List Int} {b:Int} (h:0≤b):es.foldl (Qi false) b=b:=by
 induction es with
 | nil=>rfl
 |
  cons e es ih =>
  rw[List.foldl_cons]
  have:Qi false b e=b:=by
   unfold Qi
   rw[if_neg (by simp;omega)]
  rw[this,ih]
theorem ahO:∀ {es:List Int} {b:Int},(∀e∈es,0≤e)→(es.foldl (Qi true) b=b∨es.foldl (Qi true) b∈es)∧(∀e∈es,es.foldl (Qi true) b≤e)∧(0≤b→es.foldl (Qi true) b≤b)∧(es≠[]→0≤es.foldl (Qi true) b)
 | [],b,_=>⟨.inl rfl,fun e he=>(by cases he),fun _=>Int.le_refl _,fun h=>absurd rfl h⟩
 |
  e::es,b,h=>by
  rw[List.foldl_cons]
  have h1:=h e List.mem_cons_self
  have h2:∀e'∈es,0≤e':=fun e' he=>h e' (List.mem_cons_of_mem _ he)
  have hm:(Qi true b e=b∨Qi true b e=e)∧Qi true b e≤e∧(0≤b→Qi true b e≤b)∧0≤Qi true b e:=by
   unfold Qi
   by_cases hc:b<0∨(true=true∧e<b)
   ·rw[if_pos hc]
    refine⟨.inr rfl,Int.le_refl _,fun hb => ?_,h1⟩
    rcases hc with hc | hc<;>omega
   ·rw[if_neg hc]
    simp at hc
    exact⟨.inl rfl,hc.2,fun _=>Int.le_refl _,hc.1⟩
  obtain⟨m1,m2,m3,m4⟩:=hm
  obtain⟨g1,g2,g3,g4⟩:=ahO (es:=es) (b:=Qi true b e) h2
  have g3:=g3 m4
  refine⟨?_,?_,fun hb=>by have:=m3 hb;omega,fun _ => ?_⟩
  ·rcases g1 with g1 | g1
   ·rw[g1]
    rcases m1 with m1 | m1
    ·exact .inl m1
    ·rw[m1];exact .inr List.mem_cons_self
   ·exact .inr (List.mem_cons_of_mem _ g1)
  ·intro e' he
   rcases List.mem_cons.1 he with rfl | he
   ·omega
   ·exact g2 e' he
  ·rcases g1 with g1 | g1
   ·rw[g1];exact m4
   ·exact h2 _ g1
def Qh (cs:List kM) (fH:Nat):Int:=if fH<cs.length then M0 cs fH else -1
def KP (cs:List kM) (fH:Nat) (ws:List Nat) (ends:List Int):Int:=ends.foldl (Qi (decide (0<ws.length))) (Qh cs fH)
theorem P4.Zm {fH:Nat} {ws:List Nat} {ends:List Int} (h:P4 cQ tI cs st t fH ws ends):ends.length=bz cs st t:=by
 rw[←h.cnt t (Int.le_refl _),List.countP_eq_length.2]
 intro e he
 exact decide_eq_true (h.ef e he)
theorem P4.time {fH:Nat} {ws:List Nat} {ends:List Int} (h:P4 cQ tI cs st t fH ws ends) (hc:nN cs) (hs:1≤tI) (hg:fH<cs.length∨0<ws.length) :
  (t<KP cs fH ws ends∧KP cs fH ws ends+1000*(FQ st:Int)≤11000+1000*(cs.length:Int))∧(∀i,fH≤i→i<cs.length→KP cs fH ws ends≤M0 cs i) ∧
   (fH<cs.length∧M0 cs fH=KP cs fH ws ends∨0<ws.length∧KP cs fH ws ends∈ends)∧runT cQ tI cs (KP cs fH ws ends) (100000-KP cs fH ws ends).toNat st=stL cQ tI cs:=by
 have Yr:=h.tm
 have Qk:=V8 (st:=st)
 have hlen:=h.len
 have he0:∀e∈ends,0≤e:=fun e he=>by have:=h.ef e he;omega
 have auB:=hc.2
 by_cases hw:0<ws.length
 ·have hbz:tI≤(bz cs st t:Int):=by
   rcases h.fl with hf | hf
   ·exact hf
   ·rw[zU,←h.wsq] at hf
    rw[hf] at hw
    simp at hw
  have fQ:ends≠[]:=by
   intro he
   have:=h.Zm
   rw[he] at this
   simp at this
   omega
  obtain⟨g1,g2,g3,g4⟩:=ahO (es:=ends) (b:=Qh cs fH) he0
  have WR:KP cs fH ws ends=ends.foldl (Qi true) (Qh cs fH):=by unfold KP;rw[decide_eq_true hw]
  rw[WR]
  generalize ends.foldl (Qi true) (Qh cs fH)=w at *
  have g4:=g4 fQ
  have MU:(fH<cs.length∧M0 cs fH=w)∨w∈ends:=by
   rcases g1 with g1 | g1
   ·unfold Qh at g1
    split at g1
    ·rename_i lO
     exact .inl ⟨lO,g1.symm⟩
    ·omega
   ·exact .inr g1
  have htw:t<w∧w+1000*(FQ st:Int)≤11000+1000*(cs.length:Int):=by
   rcases MU with⟨h1,h2⟩ | h1
   ·have:=h.fut fH (Nat.le_refl _) h1
    have:=hc.bnd h1
    omega
   ·exact⟨h.ef _ h1,h.eb _ h1⟩
  refine⟨htw,fun i h1 h2 => ?_,MU.imp id fun h1=>⟨hw,h1⟩,?_⟩
  ·have h3:=hc.sorted h1 h2
   have h4:=hc.bnd (i:=fH) (by omega)
   have h5:Qh cs fH=M0 cs fH:=by unfold Qh;rw[if_pos (by omega)]
   have:=g3 (by rw[h5];omega)
   omega
  ·rw[←h.run]
   refine(U2 (by omega) (by omega) (by omega) fun u h1 h2 => .inl ?_).symm
   rw[←h.cnt u (by omega),(List.countP_eq_length (p:=gtB u)).2 fun e he=>decide_eq_true (by have:=g2 e he;omega),h.Zm]
   exact hbz
 ·have lO:fH<cs.length:=by omega
  have h5:Qh cs fH=M0 cs fH:=by unfold Qh;rw[if_pos lO]
  have h4:=hc.bnd lO
  have hf:=(h.fut fH (Nat.le_refl _) lO).1
  have WR:KP cs fH ws ends=M0 cs fH:=by unfold KP;rw[decide_eq_false hw,amG (by rw[h5];omega),h5]
  rw[WR]
  refine⟨⟨hf,by omega⟩,fun i h1 h2=>hc.sorted h1 h2,.inl ⟨lO,rfl⟩,?_⟩
  rw[←h.run]
  refine(U2 (by omega) (by omega) (by omega) fun u h1 h2 => .inr ?_).symm
  rw[zU,GV h.NW (fun i hi=>by have:=h.past i hi;omega) fun i h3 h4=>by have:=hc.sorted h3 h4;omega]
  have e1:=GV (st:=st) h.NW h.past fun i h3 h4=>(h.fut i h3 h4).1
  rw[←e1,←h.wsq]
  exact List.eq_nil_of_length_eq_zero (by omega)
theorem P4.done {fH:Nat} {ws:List Nat} {ends:List Int} (h:P4 cQ tI cs st t fH ws ends) (apQ:¬fH<cs.length) (hw:¬0<ws.length):st=stL cQ tI cs:=by
 rw[←h.run]
 refine(Xb _ _ fun u hu => .inr ?_).symm
 have lO:=h.NW
 have e1:=GV (st:=st) h.NW h.past fun i h3 h4=>(h.fut i h3 h4).1
 rw[zU,GV h.NW (fun i hi=>by have:=h.past i hi;omega) fun i h3 h4=>by omega,←e1,←h.wsq]
 exact List.eq_nil_of_length_eq_zero (by omega)
structure Ph4 (cQ tI:Int) (cs:List kM) (st0:List Int) (now:Int) (fH tot:Nat) (st:List Int) (ws:List Nat) (ends:List Int):Prop where
 WO:Way cs st now
 wsq:ws=wt cs st now
 cnt:∀u,now≤u→ends.countP (gtB u)=bz cs st u
 ef:∀e∈ends,now<e
 eb:∀e∈ends,e+1000*(FQ st:Int)≤11000+1000*(cs.length:Int)
 fl:fill cQ tI cs now cs.length st=fill cQ tI cs now cs.length st0
 past:∀i,i<fH→M0 cs i≤now
 fut:∀i,fH≤i→i<cs.length→now<M0 cs i∧HR st i<0
 tot:ws.length+ends.length=tot
 es:(ends.length:Int)≤tI
theorem Cx:∀ {l:List Nat} {i k:Nat},l.Nodup→l[i]? = some k→l.eraseIdx i=l.filter (· != k)
 | [],_,_,_,h=>by cases h
 |
  x::l,0,k,hn,h=>by
  injection h with h
  subst h
  rw[List.nodup_cons] at hn
  rw[List.eraseIdx_cons_zero,List.filter_cons_of_neg (by simp),List.filter_eq_self.2]
  intro y hy
  have:y≠x:=fun he=>hn.1 (he▸hy)
  simpa using this
 |
  x::l,i+1,k,hn,h=>by
  rw[List.nodup_cons] at hn
  rw[List.getElem?_cons_succ] at h
  have hx:x≠k:=fun he=>hn.1 (he▸List.mem_of_getElem? h)
  rw[List.eraseIdx_cons_succ,List.filter_cons_of_pos (by simpa using hx),Cx hn.2 h]
theorem Ph4.step {now:Int} {st0:List Int} {fH tot:Nat} {ws:List Nat} {ends:List Int} (h:Ph4 cQ tI cs st0 now fH tot st ws ends) (hc:nN cs) (hr:0≤cQ∧cQ≤3) (hb:(ends.length:Int)<tI) (fQ:0<ws.length) :
  ∃k,ws[Mf cQ cs ws]? = some k∧k<cs.length∧Mf cQ cs ws<ws.length∧(0≤now∧now≤35000)∧Ph4 cQ tI cs st0 now fH tot (st.set k now) (ws.eraseIdx (Mf cQ cs ws)) (ends++[now+YG cs k]):=by
 have Xj:ws≠[]:=fun he=>by rw[he] at fQ;simp at fQ
 obtain⟨g1,g2⟩:=aaR (cs:=cs) Xj hr
 obtain⟨k,hk⟩:∃k,ws[Mf cQ cs ws]? = some k:=⟨_,List.getElem?_eq_getElem g1⟩
 have hnx:nxt cQ cs st now=some k:=by
  unfold nxt
  rw[←h.wsq,←g2,hk]
 obtain⟨m1,m2,m3⟩:=Lg.1 (PW hnx)
 have Yr:=h.WO.tm
 have hle:=(h.WO.le hc).1
 have hbz:(bz cs st now:Int)=ends.length:=by
  rw[←h.cnt now (Int.le_refl _),(List.countP_eq_length (p:=gtB now)).2 fun e he=>decide_eq_true (h.ef e he)]
 have P3:k<st.length:=by rw[h.WO.len];exact m1
 have hus:=A4 (t:=now) P3 m2 Yr.1
 have hwk:=(hc.bnd m1).2
 refine⟨k,hk,m1,g1,⟨Yr.1,hle⟩,h.WO.set m1 m2,?_,?_,?_,?_,?_,h.past,?_,?_,?_⟩
 ·rw[alW h.WO.len m1 Yr.1,←h.wsq]
  exact Cx (by rw[h.wsq];exact YP) hk
 ·intro u hu
  rw[List.countP_append,h.cnt u hu,amL m1 h.WO.len m2 Yr.1,List.countP_singleton]
  congr 1
  simp only[gtB,decide_eq_true_eq]
  by_cases hq:u<now+YG cs k
  ·rw[if_pos hq,if_pos ⟨hu,hq⟩]
  ·rw[if_neg hq,if_neg fun h'=>hq h'.2]
 ·intro e he
  rcases List.mem_append.1 he with he | he
  ·exact h.ef e he
  ·rw[List.mem_singleton] at he
   omega
 ·intro e he
  rcases List.mem_append.1 he with he | he
  ·have:=h.eb e he
   omega
  ·rw[List.mem_singleton] at he
   omega
 ·rw[XL h.WO.len Yr.1 (by rw[hbz];exact hb) hnx,h.fl]
 ·intro i h1 h2
  have h3:=h.fut i h1 h2
  refine⟨h3.1,?_⟩
  rw[Hv P3,if_neg (fun he=>by subst he;omega)]
  exact h3.2
 ·rw[List.length_eraseIdx_of_lt g1,List.length_append,List.length_cons,List.length_nil]
  have:=h.tot
  omega
 ·rw[List.length_append,List.length_cons,List.length_nil]
  omega
theorem Ph4.done {now:Int} {st0:List Int} {fH tot:Nat} {ws:List Nat} {ends:List Int} (h:Ph4 cQ tI cs st0 now fH tot st ws ends) (hc:nN cs) (lO:fH≤cs.length) (ht:tot≤fH) (hf:tI≤(ends.length:Int)∨ws=[])
  (hr:runT cQ tI cs now (100000-now).toNat st0=stL cQ tI cs):P4 cQ tI cs st now fH ws ends:=by
 have Yr:=h.WO.tm
 have hle:=(h.WO.le hc).1
 have hbz:(bz cs st now:Int)=ends.length:=by
  rw[←h.cnt now (Int.le_refl _),(List.countP_eq_length (p:=gtB now)).2 fun e he=>decide_eq_true (h.ef e he)]
 have ahN:full cQ tI cs st now:=by
  rcases hf with hf | hf
  ·exact .inl (by rw[hbz];exact hf)
  ·exact .inr (zU.2 (by rw[←h.wsq];exact hf))
 refine⟨h.WO.len,h.WO.low,h.WO.high,h.WO.bd,by omega,lO,h.past,h.fut,h.wsq,h.cnt,h.ef,h.eb,ahN,by rw[h.tot];exact ht,h.es,?_⟩
 have h1:=xU ahN cs.length
 rw[h.fl] at h1
 rw[ZQ Yr.1 (by omega),h1] at hr
 exact hr
end
end Go.PM
namespace Go.PM
end Go.PM
namespace Go.PM
section
variable {α:Type} {f:α→VV} {H:aA} {b g e lo:Nat} {X Y:List α}
end
end Go.PM
namespace Go.PM
end Go.PM
namespace Go.PM
open Go.Lib
def JH {α:Type} (f:α→VV) (e:Nat) (bE:List α) (lo hi:Nat) (H:aA) (v:VV):Prop :=
 ∃b g c,lo≤b∧b<hi∧v = .ref b g 0 bE.length c∧bE.length≤c∧aH H b g=some (bE.map f,e,true)
def TabIs {α:Type} (f:α→VV) (e:Nat) (m:List (List α)) (lo hi:Nat) (H:aA) (v:VV):Prop :=
 ∃b g c rs,v = .ref b g 0 m.length c∧m.length≤c∧MG f e lo hi b g H rs∧rs.map (·.xs)=m
theorem Gt {α:Type} {f:α→VV} {lo b k e bytes:Nat} {H:aA} {xs:List α} {x:α} (h:aH H b k=some (xs.map f,e,true)) (hk:k=xs.length) (fG:lo≤b) (he:1≤e) (hb:1≤bytes) (C0:(k+1)*bytes≤140737488355328) :
 eE lo e bytes (.ref b k 0 k k) [f x] H=some (.ref b (k+1) 0 (k+1) (k+1),H.set b (.row (k+1) ((xs++[x]).map f) e true)):=gZ h hk fG he hb C0
theorem JH.rd {α:Type} {f:α→VV} {e lo hi:Nat} {bE:List α} {H:aA} {v:VV} (h:JH f e bE lo hi H v):Rd f e bE H v:=by
 obtain⟨b,g,c,h1,h2,rfl,h3,h4⟩:=h
 exact Rd.row h4 rfl
theorem aaF {H:aA} {b g g' g2 e:Nat} {es:List VV} {w:Bool} {y:List VV×Nat×Bool} (h:aH H b g'=some y) (hg:g≠g2):aH (H.set b (.row g2 es e w)) b g=none:=by
 have hb:=eW h
 unfold aH
 rw[List.getElem?_set_self hb]
 simp[Ne.symm hg]
theorem M9 {lo:Nat} {H:aA} {v:VV} (qs:List Rat) (d:Rat) (hd:d≠0) (hv:Rd bF 3 qs H v) (fG:lo≤H.length) (hn:qs.length≤1000000) (hb:∀q∈qs,bQ q≤1099511627776) (hdk:bQ d≤1099511627776) :
  kS 149 [v,bF d] lo H (NC (JH bF 3 (qs.map (· / d))) H):=by
 refine kS.walk ⟨true,false⟩ Ng (Nat.le_of_ble_eq_true rfl) ?_
 have e0:∀K,jY false [.bool false,.slice none 0 0,.slice none 0 0] 0 [] K=some (.ref K.length 0 0 0 0,K++[.row 0 [] 3 true]):=fun K=>iA rfl
 have e1:=hv.len _ (List.prefix_append H [.row 0 [] 3 true])
 simp only[Jq,E6,e0,e1,aF,dE,dL,aY,aV,aO,kC,VX,Nat.reduceEqDiff,Nat.reduceAdd,Nat.reduceLeDiff,Nat.reduceLT,Nat.reduceSub]
 refine aP (fun(i:Nat) ρ H1=>i≤qs.length∧H <+: H1∧aH H1 H.length i=some (((qs.take i).map (· / d)).map bF,3,true)∧ρ 3 = .dB (bF d) 0∧ρ 5 = .ref H.length i 0 i i∧ρ 9=v∧ρ 10=VI qs.length∧ρ 11=VI i) (fun i=>qs.length-i) 0 ⟨Nat.zero_le _,List.prefix_append _ _,by rw[Hp,aU];rfl,rfl,rfl,rfl,rfl,rfl⟩ ?_
 rintro i ρ H1 ⟨hi,hp,gG,g3,g5,g9,g10,g11⟩
 have BP:=eW gG
 by_cases cK:(i:Int)<(qs.length:Int)
 ·obtain⟨q,hq⟩:∃q,qs[i]? = some q:=⟨_,List.getElem?_eq_getElem (by omega)⟩
  obtain⟨p,a1,a2⟩:=hv.get H1 hp i q hq
  have a2':=(a2 true).trans (dL _)
  have wi:IntKind.i64.wrap ((i:Int)+1)=((i+1:Nat):Int):=wrapN (i+1) (by omega) (by omega)
  have e3:=Ki q d hd (hb q (List.mem_of_getElem? hq)) hdk
  have eL:∀H,jY false [.bool false,.slice none 0 0,.slice none 0 0] 1 [(0,bF (q / d))] H=some (.tree [bF (q / d)] (.cl 3),H):=fun H=>gJ rfl rfl rfl
  have eS:∀H,dF 3 (.tree [bF (q / d)] (.cl 3)) H=some [bF (q / d)]:=fun H=>dV rfl rfl
  have eP:eE lo 3 56 (.ref H.length i 0 i i) [bF (q / d)] (H1++[cA.row 0 [bF q] 3 true])=some (.ref H.length (i+1) 0 (i+1) (i+1),(H1++[cA.row 0 [bF q] 3 true]).set H.length (.row (i+1) (((qs.take (i+1)).map (· / d)).map bF) 3 true)):=by
   rw[gZ (f:=bF) (xs:=(qs.take i).map (· / d)) (bK gG) (by simp;omega) fG (by decide) (by decide) (by omega),iK hq]
   simp only[List.map_append]
   rfl
  have s1:=yI (lo:=lo) (H:=H1) (q:=q) (by omega)
  have s2:=KE (H:=H1) (K:=[]) (q:=q)
  simp only[yP,g3,g5,g9,g10,g11,cK,a1,a2',e3,eL,eS,eP,s1,s2,wi,dL,kC,VX,Nat.reduceEqDiff,Nat.reduceAdd,Nat.reduceLeDiff,Nat.reduceLT,Nat.reduceSub]
  exact⟨i+1,by omega,by omega,mC (kQ hp) (Nat.le_refl _),bJ (bK gG),by (repeat' apply And.intro)<;>first | rfl | trivial | assumption⟩
 ·have lS:i=qs.length:=by omega
  subst lS
  rw[List.take_length] at gG
  simp only[yP,g5,g10,g11,cK,kC,VX,Nat.reduceEqDiff,Nat.reduceAdd,Nat.reduceLeDiff,Nat.reduceLT,Nat.reduceSub]
  exact⟨hp,H.length,qs.length,qs.length,Nat.le_refl _,BP,by rw[List.length_map],by rw[List.length_map];exact Nat.le_refl _,gG⟩
end Go.PM
namespace Go.PM
structure aoN (s:Kr):Prop where
 b4:s.b.length≤400000000
 e4:s.e.length≤400000000
 g4:s.g.length≤400000000∧∀x∈s.g,x.length≤400000000
 bs:∀x∈s.b,x.size≤1000000000
 es:∀x∈s.e,x.size≤1000000000
 gs:∀x∈s.g,∀y∈x,y.size≤1000000000
theorem aoN.g9 {s:Kr} (h:aoN s):s.g.length≤1000000000∧∀x∈s.g,x.length≤1000000000:=⟨by have:=h.g4.1;omega,fun x hx=>by have:=h.g4.2 x hx;omega⟩
end Go.PM