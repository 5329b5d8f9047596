/- Texts of a claim, in one: part 9. -/
import Derived.KernelRfl
import Derived.Test.YtodamlihdkalfaaGreatDoorKQh
set_option linter.unusedSimpArgs false
set_option linter.unusedVariables false
namespace Go.PM
open Go.Lib
theorem BE (l:List UInt8) {i:Nat} (h:i<l.length):D7 (.string ⟨l.toArray⟩) (.int .i64 (i:Int))=some (.int .u8 ((l.getD i 0).toNat:Int)):=by
 have hs:(⟨l.toArray⟩:ByteArray).size=l.length:=by simp[ByteArray.size]
 have e1:(0:Int)≤i∧(i:Int)<(l.length:Int):=by omega
 simp only[D7,hs,e1,and_self,if_true,Int.toNat_natCast]
theorem E8 (l:List UInt8) (h:0<l.length):D7 (.string ⟨l.toArray⟩) (.int .i64 0)=some (.int .u8 ((l.getD 0 0).toNat:Int)):=BE l h
theorem EE (l:List UInt8) (a b:Nat):(⟨l.toArray⟩:ByteArray).extract a b=⟨((l.drop a).take (b-a)).toArray⟩:=by
 rw[ByteArray.ext_iff,ByteArray.data_extract]
 simp[List.extract_toArray,List.extract_eq_take_drop]
theorem Du (l:List UInt8) {a:Nat} (h:a≤l.length):sK (aS l) (some (VI (a:Int))) none=some (aS (l.drop a)):=by
 have hs:(⟨l.toArray⟩:ByteArray).size=l.length:=by simp[ByteArray.size]
 have e2:(0:Int)≤a∧(a:Int)≤(l.length:Int):=by omega
 simp only[sK,Ee,xI,hs,dT,e2,and_self,if_true,Int.toNat_natCast,EE]
 rw[List.take_of_length_le (by simp)]
theorem Is (l:List UInt8) {b:Nat} (hb:b≤l.length):sK (aS l) none (some (VI (b:Int)))=some (aS (l.take b)):=by
 have hs:(⟨l.toArray⟩:ByteArray).size=l.length:=by simp[ByteArray.size]
 have e1:(0:Int)≤b∧(b:Int)≤(l.length:Int):=by omega
 simp only[sK,Ee,xI,hs,dT,e1,and_self,if_true,Int.toNat_natCast,EE]
 rw[List.drop_zero,Nat.sub_zero]
theorem O6 (l:List UInt8):cX .eql (.string ⟨l.toArray⟩) (.string ⟨#[]⟩)=some (.bool (decide (l=[]))):=Sw l []
theorem Gy (l:List UInt8):cX .neq (.string ⟨l.toArray⟩) (.string ⟨#[]⟩)=some (.bool (!decide (l=[]))):=Mf l []
theorem Od (l:List UInt8):TC 229 [aS l,aS [45]] (VB (isNeg l)):=by
 refine TC.walk ⟨true,false⟩ pY rfl (Nat.le_of_ble_eq_true rfl) rfl rfl ?_
 have e1:yQ (.string ⟨#[45]⟩)=some (.int .i64 1):=rfl
 by_cases h:(1:Int)≤(l.length:Int)
 ·have e2:=Is l (b:=1) (by omega)
  have e2:sK (aS l) none (some (VI 1))=some (aS (l.take 1)):=e2
  have e3:cX .eql (.string ⟨(l.take 1).toArray⟩) (.string ⟨#[45]⟩)=some (.bool (decide (l.take 1=[45]))):=Sw (l.take 1) [45]
  have e4:isNeg l=decide (l.take 1=[45]):=by
   cases l with
   | nil=>exact absurd h (by decide)
   | cons c l=>rw[Dd];simp
  rw[e4]
  simp only[fV,fF,bC,e1,ge_iff_le,h,e2,e3,VX,Nat.reduceEqDiff,Nat.reduceAdd]
  exact aH rfl
 ·have e4:isNeg l=false:=by unfold isNeg;rw[decide_eq_false (by omega)];rfl
  rw[e4]
  simp only[fV,fF,bC,e1,ge_iff_le,h,VX,Nat.reduceEqDiff,Nat.reduceAdd]
  exact aH rfl
theorem MI (l:List UInt8):TC 216 [aS l,aS [45]] (.eO [aS (if isNeg l then l.drop 1 else l),VB (isNeg l)]):=by
 refine TC.walk ⟨true,false⟩ pL rfl (Nat.le_of_ble_eq_true rfl) rfl rfl ?_
 have e0:=Od l
 have e1:yQ (.string ⟨#[45]⟩)=some (.int .i64 1):=rfl
 cases h:isNeg l with
 |
  true =>
  rw[h] at e0
  have hl:1≤l.length:=by
   cases l with
   | nil=>cases h
   | cons c l=>simp
  have e2:sK (aS l) (some (VI 1)) none=some (aS (l.drop 1)):=Du l (a:=1) hl
  simp only[fZ,fE,e0,e1,e2,VX,Nat.reduceEqDiff,Nat.reduceAdd]
  exact aH rfl
 |
  false =>
  rw[h] at e0
  simp only[fZ,fE,e0,Bool.false_eq_true,if_false,VX,Nat.reduceEqDiff,Nat.reduceAdd]
  exact aH rfl
theorem Pc (l:List UInt8):TC 168 [aS l,aS [45]] (.eO [aS (if isNeg l then l.drop 1 else l),VB (isNeg l)]):=by
 refine TC.walk ⟨true,false⟩ Cv rfl (Nat.le_of_ble_eq_true rfl) rfl rfl ?_
 have e0:=MI l
 simp only[wZ,tJ,e0,VX,Nat.reduceEqDiff,Nat.reduceAdd]
 exact aH rfl
theorem abQ (l:List UInt8) (hl:l.length≤1000000000000):TC 215 [aS l,aS [47]] (.eO [aS (kE 47 l).1,aS ((kE 47 l).2.getD []),VB (kE 47 l).2.isSome]):=by
 refine TC.walk ⟨true,false⟩ vD rfl (Nat.le_of_ble_eq_true rfl) rfl rfl ?_
 have e0:=ZA l 47
 have e1:yQ (.string ⟨#[47]⟩)=some (.int .i64 1):=rfl
 cases h:(kE 47 l).2 with
 |
  none =>
  obtain⟨h1,h2,_⟩:=yR h
  rw[h1] at e0
  rw[h2]
  simp only[jO,iS,e0,ge_iff_le,Int.reduceNeg,Int.reduceLE,VX,Nat.reduceEqDiff,Nat.reduceAdd]
  exact aH rfl
 |
  some r =>
  obtain⟨h1,h2,_⟩:=Fo h
  rw[h1] at e0
  generalize (kE 47 l).1=a at *
  subst h2
  rw[List.length_append,List.length_cons] at hl
  have h0:(0:Int)≤(a.length:Int):=by omega
  have e2:=Is (a++47::r) (b:=a.length) (by simp)
  have e3:=Du (a++47::r) (a:=a.length+1) (by simp)
  rw[List.take_left] at e2
  have ed:(a++47::r).drop (a.length+1)=r:=by rw[List.drop_append];simp
  rw[ed] at e3
  have w:IntKind.i64.wrap ((a.length:Int)+1)=((a.length+1:Nat):Int):=wrapN _ (by omega) (by omega)
  simp only[jO,iS,e0,e1,ge_iff_le,h0,w,e2,e3,VX,Nat.reduceEqDiff,Nat.reduceAdd]
  exact aH rfl
theorem afJ (l:List UInt8) (hl:l.length≤1000000000000):TC 167 [aS l,aS [47]] (.eO [aS (kE 47 l).1,aS ((kE 47 l).2.getD []),VB (kE 47 l).2.isSome]):=by
 refine TC.walk ⟨true,false⟩ JV rfl (Nat.le_of_ble_eq_true rfl) rfl rfl ?_
 have e0:=abQ l hl
 simp only[GL,CP,e0,VX,Nat.reduceEqDiff,Nat.reduceAdd]
 exact aH rfl
def yP (l:List UInt8):VV:=if gB l=true then .eO [bD (bL l),VB true] else .eO [bD 0,VB false]
theorem S9 (l:List UInt8):gJ (yP l)=true:=by
 unfold yP
 split<;>simp[gJ,pJ,oD,lR]
theorem adW {d:Nat}:fz (d+1) [.row 0 [] 1 true] (.ref 0 0 0 0 0)=some (bD 0):=by
 rw[Cr]
 cases d with
 | zero=>rfl
 | succ d=>rfl
theorem HR {n:Nat} (hn:n≤9) {lo:Nat} {H:aA} {ρ:cR} {Q:VQ} (h58:ρ 58=VI n) (h59:ρ 59=VI 0) (h9:ρ 9=VK .u64 1) (hQ:∀aW,(∀t,t<9→aW t=ρ t)→aW 9=VK .u64 ((10^n:Nat):Int)→Q .normal aW H):VW ⟨true,false⟩ lo (.loop oR) (xQ 4 Q) ρ H:=by
 refine aY (fun(i:Nat) aW H'=>i≤n∧H'=H∧(∀t,t<9→aW t=ρ t)∧aW 58=VI n∧aW 59=VI i∧aW 9=VK .u64 ((10^i:Nat):Int)) (fun i=>n-i) 0 ⟨Nat.zero_le _,rfl,fun _ _=>rfl,h58,h59,h9⟩ ?_
 rintro i aW H' ⟨hi,rfl,hk,g58,g59,g9⟩
 by_cases dA:(i:Int)<(n:Int)
 ·have wi:IntKind.i64.wrap ((i:Int)+1)=((i+1:Nat):Int):=wrapN (i+1) (by omega) (by omega)
  have hp:10^i≤10^8:=Nat.pow_le_pow_right (by decide) (by omega)
  have e8:(10:Nat)^8=100000000:=by decide
  have wp:IntKind.u64.wrap (((10^i:Nat):Int)*10)=((10^(i+1):Nat):Int):=by
   rw[Nat.pow_succ]
   generalize 10^i=p at *
   have:=eH (p*10) (by omega)
   rw[Int.natCast_mul] at this
   rw[Int.natCast_mul]
   exact this
  simp only[oR,g58,g59,g9,dA,wi,wp,VX,Nat.reduceEqDiff,Nat.reduceAdd]
  refine⟨i+1,by omega,by omega,fun t ht => ?_,rfl,rfl⟩
  try simp only[sM]
  repeat rw[if_neg (by omega)]
  exact hk t ht
 ·have rI:i=n:=by omega
  subst rI
  simp only[oR,g58,g59,dA,VX,Nat.reduceEqDiff,Nat.reduceAdd]
  refine hQ _ (fun t ht => ?_) ?_
  ·try simp only[sM]
   repeat rw[if_neg (by omega)]
   exact hk t ht
  ·simp only[g9,VX,Nat.reduceEqDiff,Nat.reduceAdd]
theorem XD {l:List UInt8} {i:Nat} (h:i<l.length):(l.take (i+1)).all gM=((l.take i).all gM&&gM (l.getD i 0)):=by
 rw[List.take_add_one,List.all_append]
 have:l[i]? = some (l.getD i 0):=by rw[List.getElem?_eq_getElem h,List.getD_eq_getElem?_getD,List.getElem?_eq_getElem h];rfl
 rw[this]
 simp
theorem Iv {l:List UInt8} (hl:l.length≤1000000000000) {lo:Nat} {H:aA} {ρ:cR} {Q:VQ} (h0:ρ 0=aS l) (h29:ρ 29=VI l.length) (h30:ρ 30=VI 0)
  (hR:l.all gM=false→∀aW:cR,aW 2 = .tree [] .nil→aW 3=VB false→Q .ret aW H) (hN:l.all gM=true→∀aW:cR,(∀t,t<5→aW t=ρ t)→Q .normal aW H):VW ⟨true,false⟩ lo (.loop jC) (xQ 0 Q) ρ H:=by
 refine aY (fun(i:Nat) aW H'=>i≤l.length∧H'=H∧(l.take i).all gM=true∧(∀t,t<5→aW t=ρ t)∧aW 29=VI l.length∧aW 30=VI i) (fun i=>l.length-i) 0 ⟨Nat.zero_le _,rfl,rfl,fun _ _=>rfl,h29,h30⟩ ?_
 rintro i aW H' ⟨hi,rfl,hd,hk,g29,g30⟩
 have g0:=(hk 0 (by decide)).trans h0
 by_cases dA:(i:Int)<(l.length:Int)
 ·have QW:i<l.length:=by omega
  have e1:=BE l QW
  have wi:IntKind.i64.wrap ((i:Int)+1)=((i+1:Nat):Int):=wrapN (i+1) (by omega) (by omega)
  have ht:=XD QW
  rw[hd,Bool.true_and] at ht
  have QG:gM (l.getD i 0)=(decide (48≤(l.getD i 0).toNat)&&decide ((l.getD i 0).toNat≤57)):=rfl
  have kA:gM (l.getD i 0)=false→l.all gM=false:=by
   intro h
   rw[h] at ht
   rw[←List.take_append_drop (i+1) l,List.all_append,ht,Bool.false_and]
  generalize (l.getD i 0).toNat=c at *
  by_cases q1:(c:Int)<48
  ·have:=kA (by rw[QG,decide_eq_false (by omega)];rfl)
   simp only[jC,g0,g29,g30,dA,e1,q1,VX,Nat.reduceEqDiff,Nat.reduceAdd]
   exact hR this _ (by simp only[VX,Nat.reduceEqDiff,Nat.reduceAdd]) (by simp only[VX,Nat.reduceEqDiff,Nat.reduceAdd])
  ·by_cases q2:(57:Int)<(c:Int)
   ·have:=kA (by rw[QG,decide_eq_false (show ¬c≤57 by omega),Bool.and_false])
    simp only[jC,g0,g29,g30,dA,e1,q1,q2,VX,Nat.reduceEqDiff,Nat.reduceAdd]
    exact hR this _ (by simp only[VX,Nat.reduceEqDiff,Nat.reduceAdd]) (by simp only[VX,Nat.reduceEqDiff,Nat.reduceAdd])
   ·rw[QG,decide_eq_true (by omega),decide_eq_true (by omega),Bool.and_self] at ht
    simp only[jC,g0,g29,g30,dA,e1,q1,q2,wi,VX,Nat.reduceEqDiff,Nat.reduceAdd]
    refine⟨i+1,by omega,by omega,ht,fun t ht => ?_,rfl⟩
    try simp only[sM]
    repeat rw[if_neg (by omega)]
    exact hk t ht
 ·have rI:i=l.length:=by omega
  subst rI
  rw[List.take_length] at hd
  simp only[jC,g29,g30,dA,VX,Nat.reduceEqDiff,Nat.reduceAdd]
  refine hN hd _ fun t ht => ?_
  try simp only[sM]
  repeat rw[if_neg (by omega)]
  exact hk t ht
set_option maxHeartbeats 2000000 in
theorem Ir {l:List UInt8} (hd:l.all gM=true) (hl:l.length≤200) (eX:l≠[]) {ρ:cR} {Q:VQ} (h0:ρ 0=aS l) (h4:ρ 4 = .ref 0 0 0 0 0)
  (hQ:∀(aW:cR),aW 4=bD (bL l)→Q .normal aW [.row 0 [] 1 false]):VW ⟨true,false⟩ 0 (.loop lD) (xQ 2 Q) ρ [.row 0 [] 1 true]:=by
 refine aY (fun(s:List UInt8×List UInt8) aW H'=>l=s.1++s.2∧aW 0=aS s.2∧((H'=[.row 0 [] 1 true]∧aW 4 = .ref 0 0 0 0 0∧s.1=[])∨(H'=[.row 0 [] 1 false]∧aW 4=bD (bL s.1)))) (fun s=>s.2.length) ([],l) ⟨rfl,h0,.inl ⟨rfl,h4,rfl⟩⟩ ?_
 rintro⟨pre,rest⟩ aW H' ⟨OH,g0,hv⟩
 simp only at OH g0 hv
 have e1:=Gy rest
 by_cases he:rest=[]
 ·subst he
  rw[List.append_nil] at OH
  subst OH
  rcases hv with⟨_,_,h⟩ | ⟨rfl,g4⟩
  ·exact absurd h eX
  have R0:cX .neq (.string ⟨#[]⟩) (.string ⟨#[]⟩)=some (.bool false):=by
   have:=Gy []
   rw[decide_eq_true rfl] at this
   exact this
  simp only[lD,g0,R0,VX,Nat.reduceEqDiff,Nat.reduceAdd]
  exact hQ _ (by simp only[g4,VX,Nat.reduceEqDiff,Nat.reduceAdd])
 ·rw[OH,List.all_append,Bool.and_eq_true] at hd
  obtain⟨hd1,hd2⟩:=hd
  rw[OH,List.length_append] at hl
  have jN:0<rest.length:=List.length_pos_iff.2 he
  have R0:cX .neq (.string ⟨rest.toArray⟩) (.string ⟨#[]⟩)=some (.bool true):=by rw[e1,decide_eq_false he];rfl
  have wm:(rest.length:Int).tmod 9=((rest.length % 9:Nat):Int):=by rw[Int.tmod_eq_emod_of_nonneg (by omega)];simp
  have er:cX .rem (.int .i64 (rest.length:Int)) (.int .i64 9)=some (.int .i64 ((rest.length % 9:Nat):Int)):=by
   rw[←wm]
   rfl
  obtain⟨n,hn⟩:∃n,n=if rest.length % 9=0 then 9 else rest.length % 9:=⟨_,rfl⟩
  have hn1:1≤n∧n≤9∧n≤rest.length:=by
   rw[hn]
   split<;>omega
  obtain⟨n1,n9,nl⟩:=hn1
  have e2:=Is rest nl
  have e3:=Du rest nl
  have Z0:(rest.take n).length=n:=by rw[List.length_take];omega
  have hcd:(rest.take n).all gM=true:=by
   rw[←List.take_append_drop n rest,List.all_append,Bool.and_eq_true] at hd2
   exact hd2.1
  have hp:=YU (rest.take n) (bL (rest.take n)) (by omega) (adX hcd (fun h=>by rw[h] at Z0;simp at Z0;omega) (by omega))
  have C1:=Ev hcd
  rw[Z0] at C1
  have hp9:10^n≤10^9:=Nat.pow_le_pow_right (by decide) n9
  have e9:(10:Nat)^9=1000000000:=by decide
  have atJ:bL (rest.take n)<1000000000:=by omega
  have c1:=kY (10^n) (by omega)
  have c2:=kY (bL (rest.take n)) (by omega)
  have hbp:bl (bL pre)≤665:=by
   refine CN (Nat.lt_of_lt_of_le (Ev hd1) ?_)
   exact Nat.le_trans (Nat.pow_le_pow_right (by decide) (by omega:pre.length≤200)) (by decide +kernel)
  have hb9:bl (10^n)≤64:=CN (by omega)
  have hbm:=lO (bL pre) (10^n)
  have hbc:bl (bL (rest.take n))≤64:=CN (by omega)
  have tm:=gO (bL pre) (10^n) (eI (by omega)) (eI (by omega))
  have c4:=Bd (bL pre*10^n) (bL (rest.take n)) (eI (by omega)) (eI (by omega))
  have rV:bL pre*10^n+bL (rest.take n)=bL (pre++rest.take n):=by rw[H0,Z0]
  rw[rV] at c4
  have fin:(rest.drop n).length<rest.length∧pre++rest=(pre++rest.take n)++rest.drop n:=⟨by rw[List.length_drop];omega,by rw[List.append_assoc,List.take_append_drop]⟩
  obtain⟨v4,g4,c3⟩:∃v4,aW 4=v4∧∀lo K,dE 180 [v4,bD (10^n)] lo H' K=K (bD (bL pre*10^n)) [.row 0 [] 1 false]:=by
   rcases hv with⟨rfl,g4,hp0⟩ | ⟨rfl,g4⟩
   ·refine⟨_,g4,fun lo K => ?_⟩
    subst hp0
    have:=tm.En (H:=[.row 0 [] 1 true]) (args:=[.ref 0 0 0 0 0,bD (10^n)]) (lo:=lo) (k:=K) rfl (by simp[aJ,bH]) (fz2 adW (aG (bH _))) rfl
    rw[this,show Gw (bD (bL []*10^n))=false from rfl,if_neg (by decide),List.flatMap_cons,List.flatMap_cons,List.flatMap_nil,Dv (bH _),KJ (n:=0) (c:=0) (es:=[]) (e:=1) (w:=true) bT rfl rfl]
    rfl
   ·exact⟨_,g4,fun lo K=>tm lo [.row 0 [] 1 false] K⟩
  clear hv
  obtain⟨P,hP⟩:∃P,P=10^n:=⟨_,rfl⟩
  rw[←hP] at c1 c4 c3
  have hnI:(rest.length % 9:Nat)=0∨¬(rest.length % 9:Nat)=0:=by omega
  rcases hnI with h9 | h9
  ·rw[if_pos h9] at hn
   subst hn
   have q:((rest.length % 9:Nat):Int)=0:=by omega
   have e2':sK (aS rest) none (some (VI 9))=some (aS (rest.take 9)):=e2
   have e3':sK (aS rest) (some (VI 9)) none=some (aS (rest.drop 9)):=e3
   simp only[lD,g0,g4,R0,bC,er,q,e2',hp,VX,Nat.reduceEqDiff,Nat.reduceAdd]
   refine HR (n:=9) (by decide) ?_ ?_ ?_ fun uE k1 q9 => ?_
   ·simp only[VX,Nat.reduceEqDiff,Nat.reduceAdd];rfl
   ·simp only[VX,Nat.reduceEqDiff,Nat.reduceAdd]
   ·simp only[VX,Nat.reduceEqDiff,Nat.reduceAdd]
   rw[←hP] at q9
   have u0:uE 0=aS rest:=by rw[k1 0 (by decide)];simp only[g0,VX,Nat.reduceEqDiff,Nat.reduceAdd]
   have u4:uE 4=v4:=by rw[k1 4 (by decide)];simp only[g4,VX,Nat.reduceEqDiff,Nat.reduceAdd]
   have u6:uE 6=VI 9:=by rw[k1 6 (by decide)];simp only[VX,Nat.reduceEqDiff,Nat.reduceAdd]
   have u7:uE 7=VK .u64 (bL (rest.take 9)):=by rw[k1 7 (by decide)];simp only[VX,Nat.reduceEqDiff,Nat.reduceAdd]
   simp only[u0,u4,u6,u7,q9,c1,c2,c3,c4,e3',VX,Nat.reduceEqDiff,Nat.reduceAdd]
   exact⟨(pre++rest.take 9,rest.drop 9),fin.1,OH.trans fin.2,rfl,.inr rfl⟩
  ·rw[if_neg h9] at hn
   rw[←hn] at er
   have q:¬(n:Int)=0:=by omega
   simp only[lD,g0,g4,R0,bC,er,q,e2,hp,VX,Nat.reduceEqDiff,Nat.reduceAdd]
   refine HR (n:=n) n9 ?_ ?_ ?_ fun uE k1 q9 => ?_
   ·simp only[VX,Nat.reduceEqDiff,Nat.reduceAdd]
   ·simp only[VX,Nat.reduceEqDiff,Nat.reduceAdd]
   ·simp only[VX,Nat.reduceEqDiff,Nat.reduceAdd]
   rw[←hP] at q9
   have u0:uE 0=aS rest:=by rw[k1 0 (by decide)];simp only[g0,VX,Nat.reduceEqDiff,Nat.reduceAdd]
   have u4:uE 4=v4:=by rw[k1 4 (by decide)];simp only[g4,VX,Nat.reduceEqDiff,Nat.reduceAdd]
   have u6:uE 6=VI n:=by rw[k1 6 (by decide)];simp only[VX,Nat.reduceEqDiff,Nat.reduceAdd]
   have u7:uE 7=VK .u64 (bL (rest.take n)):=by rw[k1 7 (by decide)];simp only[VX,Nat.reduceEqDiff,Nat.reduceAdd]
   simp only[u0,u4,u6,u7,q9,c1,c2,c3,c4,e3,VX,Nat.reduceEqDiff,Nat.reduceAdd]
   exact⟨(pre++rest.take n,rest.drop n),fin.1,OH.trans fin.2,rfl,.inr rfl⟩
set_option maxHeartbeats 2000000 in
theorem A9 (l:List UInt8) (hl:l.length≤1000000000000):TC 169 [aS l] (yP l):=by
 refine TC.walk ⟨true,false⟩ ID rfl (Nat.le_of_ble_eq_true rfl) rfl (S9 l) ?_
 have e1:=O6 l
 by_cases he:l=[]
 ·have hk:gB l=false:=by rw[he];rfl
  have R0:cX .eql (.string ⟨l.toArray⟩) (.string ⟨#[]⟩)=some (.bool true):=by rw[e1,decide_eq_true he]
  unfold yP
  rw[hk]
  simp only[nI,jX,R0,Bool.false_eq_true,if_false,VX,Nat.reduceEqDiff,Nat.reduceAdd]
  exact bG (d:=6) tS (aG (v:=VB false) rfl)
 have jN:0<l.length:=List.length_pos_iff.2 he
 by_cases Zd:(200:Int)<(l.length:Int)
 ·have hk:gB l=false:=by
   cases h:gB l with
   | false=>rfl
   | true=>have:=(iM.1 h).2.2.1;omega
  unfold yP
  rw[hk]
  simp only[nI,jX,e1,he,decide_false,bC,Zd,Bool.false_eq_true,if_false,VX,Nat.reduceEqDiff,Nat.reduceAdd]
  exact bG (d:=6) tS (aG (v:=VB false) rfl)
 have e2:=E8 l jN
 by_cases hz:(((l.getD 0 0).toNat:Int)=48∧1<(l.length:Int))
 ·obtain⟨E3,PU⟩:=hz
  have hk:gB l=false:=by
   cases h:gB l with
   | false=>rfl
   |
    true =>
    rcases(iM.1 h).2.2.2 with h1 | h1
    ·omega
    ·exact absurd (UInt8.toNat_inj.1 (by rw[show (48:UInt8).toNat=48 from rfl];omega)) h1
  unfold yP
  rw[hk]
  simp only[nI,jX,e1,he,decide_false,bC,Zd,e2,E3,PU,Bool.false_eq_true,if_false,VX,Nat.reduceEqDiff,Nat.reduceAdd]
  exact bG (d:=6) tS (aG (v:=VB false) rfl)
 have afU:l.length=1∨l.getD 0 0≠48:=by
  by_cases h1:l.length=1
  ·exact .inl h1
  ·right
   intro h2
   apply hz
   rw[h2]
   exact⟨rfl,by omega⟩
 have e3:∀lr,rC lr [.int .u32 0] 0 [] []=some (.ref 0 0 0 0 0,[.row 0 [] 1 true]):=fun lr=>oC (H:=[]) (lr:=lr) (z:=[.int .u32 0]) rfl
 have kN:l.all gM=true→gB l=true:=fun h=>iM.2 ⟨h,jN,by omega,afU⟩
 have kF:l.all gM=false→gB l=false:=fun h=>by unfold gB;rw[h];rfl
 have rF:gB l=false→yP l = .eO [bD 0,VB false]:=fun h=>by unfold yP;rw[h];rfl
 have rT:gB l=true→yP l = .eO [bD (bL l),VB true]:=fun h=>if_pos h
 by_cases hA:(((l.getD 0 0).toNat:Int)=48)
 ·have hB:¬1<(l.length:Int):=fun h=>hz ⟨hA,h⟩
  simp only[nI,jX,e1,e3,he,decide_false,bC,Zd,e2,hA,hB,Bool.false_eq_true,if_false,VX,Nat.reduceEqDiff,Nat.reduceAdd]
  refine Iv hl ?_ ?_ ?_ (fun hd uE g2 g3 => ?_) fun hd uE k1 => ?_
  ·simp only[VX,Nat.reduceEqDiff,Nat.reduceAdd]
  ·simp only[VX,Nat.reduceEqDiff,Nat.reduceAdd]
  ·simp only[VX,Nat.reduceEqDiff,Nat.reduceAdd]
  ·rw[rF (kF hd)]
   simp only[g2,g3,VX,Nat.reduceEqDiff,Nat.reduceAdd]
   exact bG (d:=6) tS (aG (v:=VB false) rfl)
  ·rw[rT (kN hd)]
   simp only[VX,Nat.reduceEqDiff,Nat.reduceAdd]
   refine Ir hd (by omega) he ?_ ?_ fun KC g4 => ?_
   ·rw[k1 0 (by decide)];simp only[VX,Nat.reduceEqDiff,Nat.reduceAdd]
   ·rw[k1 4 (by decide)];simp only[VX,Nat.reduceEqDiff,Nat.reduceAdd]
   ·simp only[g4,VX,Nat.reduceEqDiff,Nat.reduceAdd]
    exact bG (d:=6) (aG (bH _)) (aG (v:=VB true) rfl)
 ·simp only[nI,jX,e1,e3,he,decide_false,bC,Zd,e2,hA,Bool.false_eq_true,if_false,VX,Nat.reduceEqDiff,Nat.reduceAdd]
  refine Iv hl ?_ ?_ ?_ (fun hd uE g2 g3 => ?_) fun hd uE k1 => ?_
  ·simp only[VX,Nat.reduceEqDiff,Nat.reduceAdd]
  ·simp only[VX,Nat.reduceEqDiff,Nat.reduceAdd]
  ·simp only[VX,Nat.reduceEqDiff,Nat.reduceAdd]
  ·rw[rF (kF hd)]
   simp only[g2,g3,VX,Nat.reduceEqDiff,Nat.reduceAdd]
   exact bG (d:=6) tS (aG (v:=VB false) rfl)
  ·rw[rT (kN hd)]
   simp only[VX,Nat.reduceEqDiff,Nat.reduceAdd]
   refine Ir hd (by omega) he ?_ ?_ fun KC g4 => ?_
   ·rw[k1 0 (by decide)];simp only[VX,Nat.reduceEqDiff,Nat.reduceAdd]
   ·rw[k1 4 (by decide)];simp only[VX,Nat.reduceEqDiff,Nat.reduceAdd]
   ·simp only[g4,VX,Nat.reduceEqDiff,Nat.reduceAdd]
    exact bG (d:=6) (aG (bH _)) (aG (v:=VB true) rfl)
def Jh:VV := .agg [VB false,bD 0,bD 0]
def BW (l:List UInt8):VV:=match uK l with
 | some q => .eO [bX q,VB true]
 | none => .eO [Jh,VB false]
theorem Om:gJ Jh=true:=by simp[Jh,gJ,pJ,oD,lR]
theorem QN (l:List UInt8):gJ (BW l)=true:=by
 unfold BW
 split<;>simp[gJ,pJ,sT,Om,lR]
theorem fJ {d:Nat} {H:aA}:fz (d+2) H (.agg [VB false,.tree [] .nil,.tree [] .nil])=some Jh:=oK (aG (v:=VB false) rfl) tS tS
theorem Ju {neg:Bool} {t b:Nat} (hb:b≠0) (hg:Nat.gcd t b=1) (hn:¬(neg=true∧t=0)):bX (mkRat (iZ neg t) b) = .agg [VB neg,bD t,bD b]:=by
 obtain⟨e1,e2⟩:=GK (neg:=neg) hb hg
 refine DX ?_ (by rw[e1,mF]) e2
 rw[e1]
 cases neg with
 | false=>unfold iZ;simp
 |
  true =>
  have:t≠0:=fun h=>hn ⟨rfl,h⟩
  unfold iZ
  simp
  omega
theorem QZ (l:List UInt8):uK l=mV (isNeg (kE 47 l).1) (if isNeg (kE 47 l).1 then (kE 47 l).1.drop 1 else (kE 47 l).1) (kE 47 l).2:=by
 cases l with
 | nil=>rfl
 |
  cons c r =>
  unfold uK
  by_cases h47:c=47
  ·subst h47
   rfl
  ·have e:kE 47 (c::r)=(c::(kE 47 r).1,(kE 47 r).2):=by rw[kE,if_neg h47]
   by_cases h45:c=45
   ·subst h45
    rw[e]
    rfl
   ·rw[e,Dd,Dd,decide_eq_false h45]
    simp only[Bool.false_eq_true,if_false,e]
theorem Of {c:UInt8}:∀ {l:List UInt8},(kE c l).1.length≤l.length∧∀t,(kE c l).2=some t→t.length≤l.length:=by
 intro l
 cases h:(kE c l).2 with
 | none=>rw[(yR h).2.1];exact⟨Nat.le_refl _,fun t ht=>by cases ht⟩
 |
  some r =>
  have:=congrArg List.length (Fo h).2.1
  rw[List.length_append,List.length_cons] at this
  exact⟨by omega,fun t ht=>by cases ht;omega⟩
theorem KH {n:Nat}:(((aC 4294967296 n).length:Nat):Int)=0↔n=0:=by
 rw[←jW (b:=4294967296) (n:=n) (by decide),←List.length_eq_zero_iff]
 omega
set_option maxRecDepth 100000 in
set_option maxHeartbeats 4000000 in
theorem H5 (l:List UInt8) (hl:l.length≤1000000000000):TC 89 [aS l] (BW l):=by
 refine TC.walk ⟨true,false⟩ IK rfl (Nat.le_of_ble_eq_true rfl) rfl (QN l) ?_
 have e1:=afJ l hl
 obtain⟨l1,l2⟩:=Of (c:=47) (l:=l)
 have hq:=QZ l
 unfold BW
 rw[hq]
 clear hq
 generalize (kE 47 l).1=f at *
 generalize (kE 47 l).2=s2 at *
 have e2:=Pc f
 have ld:(if isNeg f=true then f.drop 1 else f).length≤f.length:=by split<;>simp
 generalize (if isNeg f=true then f.drop 1 else f)=d at *
 generalize isNeg f=neg at *
 have e3:=A9 d (by omega)
 have c1:TC 101 [.sc (.int .u64 1)] (bD 1):=kY 1 (by decide)
 cases hd:gB d with
 |
  false =>
  have hp:mV neg d s2=none:=if_pos (.inl hd)
  rw[hp]
  unfold yP at e3
  rw[hd,if_neg (by decide)] at e3
  simp only[dJ,cM,e1,e2,e3,aF,iA,Nat.reduceLeDiff,Nat.reduceLT,Nat.reduceSub,VX,Nat.reduceEqDiff,Nat.reduceAdd]
  exact bG (d:=6) fJ (aG (v:=VB false) rfl)
 |
  true =>
  unfold yP at e3
  rw[hd,if_pos rfl] at e3
  by_cases hz:neg=true∧bL d=0
  ·have hp:mV neg d s2=none:=if_pos (.inr hz)
   rw[hp]
   obtain⟨rfl,Cw⟩:=hz
   rw[Cw] at e3
   have xW:(((aC 4294967296 0).length:Nat):Int)=0:=KH.2 rfl
   simp only[dJ,cM,e1,e2,e3,dD,xW,aF,iA,Nat.reduceLeDiff,Nat.reduceLT,Nat.reduceSub,VX,Nat.reduceEqDiff,Nat.reduceAdd]
   exact bG (d:=6) fJ (aG (v:=VB false) rfl)
  ·have hbt:=vV hd
   have xW:neg=true→¬(((aC 4294967296 (bL d)).length:Nat):Int)=0:=fun h h0=>hz ⟨h,KH.1 h0⟩
   cases s2 with
   |
    none =>
    have hp:mV neg d none=some (mkRat (iZ neg (bL d)) 1):=if_neg (by rw[hd];rintro(h | h);exact absurd h (by decide);exact hz h)
    rw[hp]
    simp only[]
    rw[Ju (by decide) (Nat.gcd_one_right _) hz]
    cases neg with
    |
     false =>
     simp only[dJ,cM,e1,e2,e3,c1,Option.isSome_none,Option.getD_none,aF,aO,aN,aI,iA,Nat.reduceLeDiff,Nat.reduceLT,Nat.reduceSub,VX,Nat.reduceEqDiff,Nat.reduceAdd]
     exact bG (d:=6) (oK (aG (v:=VB false) rfl) (aG (bH _)) (aG (bH _))) (aG (v:=VB true) rfl)
    |
     true =>
     have xW:=xW rfl
     simp only[dJ,cM,e1,e2,e3,c1,dD,xW,Option.isSome_none,Option.getD_none,aF,aO,aN,aI,iA,Nat.reduceLeDiff,Nat.reduceLT,Nat.reduceSub,VX,Nat.reduceEqDiff,Nat.reduceAdd]
     exact bG (d:=6) (oK (aG (v:=VB true) rfl) (aG (bH _)) (aG (bH _))) (aG (v:=VB true) rfl)
   |
    some t =>
    have e4:=A9 t (by have:=l2 t rfl;omega)
    have hp:mV neg d (some t)=if gB t=true∧1<bL t∧Nat.gcd (bL d) (bL t)=1 then some (mkRat (iZ neg (bL d)) (bL t)) else none:=if_neg (by rw[hd];rintro(h | h);exact absurd h (by decide);exact hz h)
    rw[hp]
    cases ht:gB t with
    |
     false =>
     rw[if_neg (fun h=>absurd h.1 (by decide))]
     unfold yP at e4
     rw[ht,if_neg (by decide)] at e4
     cases neg with
     |
      false =>
      simp only[dJ,cM,e1,e2,e3,e4,c1,Option.isSome_some,Option.getD_some,aF,aO,aN,aI,iA,Nat.reduceLeDiff,Nat.reduceLT,Nat.reduceSub,VX,Nat.reduceEqDiff,Nat.reduceAdd]
      exact bG (d:=6) fJ (aG (v:=VB false) rfl)
     |
      true =>
      have xW:=xW rfl
      simp only[dJ,cM,e1,e2,e3,e4,c1,dD,xW,Option.isSome_some,Option.getD_some,aF,aO,aN,aI,iA,Nat.reduceLeDiff,Nat.reduceLT,Nat.reduceSub,VX,Nat.reduceEqDiff,Nat.reduceAdd]
      exact bG (d:=6) fJ (aG (v:=VB false) rfl)
    |
     true =>
     have IG:=vV ht
     unfold yP at e4
     rw[ht,if_pos rfl] at e4
     have c2:=iU (bL t) 1 (eI (by omega)) (eI (Nat.le_trans (CN (n:=1) (k:=1) (by decide)) (by decide)))
     have c3:=AX (bL d) (bL t) (eI (by omega)) (eI (by omega))
     by_cases h1:eE (bL t) 1≤0
     ·have hle:¬1<bL t:=fun h=>by unfold eE at h1;rw[if_neg (by omega),if_neg (by omega)] at h1;exact absurd h1 (by decide)
      rw[if_neg (fun h=>hle h.2.1)]
      cases neg with
      |
       false =>
       simp only[dJ,cM,e1,e2,e3,e4,c1,c2,h1,Option.isSome_some,Option.getD_some,aF,aO,aN,aI,iA,Nat.reduceLeDiff,Nat.reduceLT,Nat.reduceSub,VX,Nat.reduceEqDiff,Nat.reduceAdd]
       exact bG (d:=6) fJ (aG (v:=VB false) rfl)
      |
       true =>
       have xW:=xW rfl
       simp only[dJ,cM,e1,e2,e3,e4,c1,c2,h1,dD,xW,Option.isSome_some,Option.getD_some,aF,aO,aN,aI,iA,Nat.reduceLeDiff,Nat.reduceLT,Nat.reduceSub,VX,Nat.reduceEqDiff,Nat.reduceAdd]
       exact bG (d:=6) fJ (aG (v:=VB false) rfl)
     ·have aX:1<bL t:=by
       rcases Nat.lt_or_ge 1 (bL t) with h | h
       ·exact h
       ·exfalso
        apply h1
        unfold eE
        split
        ·decide
        ·rw[if_pos (by omega)];decide
      have Vr:bl (Nat.gcd (bL d) (bL t))≤665:=Nat.le_trans (jG (Nat.le_of_dvd (by omega) (Nat.gcd_dvd_right _ _))) IG
      have c4:=iU (Nat.gcd (bL d) (bL t)) 1 (eI (by omega)) (eI (Nat.le_trans (CN (n:=1) (k:=1) (by decide)) (by decide)))
      by_cases hg:Nat.gcd (bL d) (bL t)=1
      ·have h4:eE (Nat.gcd (bL d) (bL t)) 1=0:=by rw[hg];rfl
       rw[if_pos ⟨rfl,aX,hg⟩]
       simp only[]
       rw[Ju (by omega) hg hz]
       cases neg with
       |
        false =>
        simp only[dJ,cM,e1,e2,e3,e4,c1,c2,c3,c4,h1,h4,Option.isSome_some,Option.getD_some,aF,aO,aN,aI,iA,Nat.reduceLeDiff,Nat.reduceLT,Nat.reduceSub,VX,Nat.reduceEqDiff,Nat.reduceAdd]
        exact bG (d:=6) (oK (aG (v:=VB false) rfl) (aG (bH _)) (aG (bH _))) (aG (v:=VB true) rfl)
       |
        true =>
        have xW:=xW rfl
        simp only[dJ,cM,e1,e2,e3,e4,c1,c2,c3,c4,h1,h4,dD,xW,Option.isSome_some,Option.getD_some,aF,aO,aN,aI,iA,Nat.reduceLeDiff,Nat.reduceLT,Nat.reduceSub,VX,Nat.reduceEqDiff,Nat.reduceAdd]
        exact bG (d:=6) (oK (aG (v:=VB true) rfl) (aG (bH _)) (aG (bH _))) (aG (v:=VB true) rfl)
      ·have h4:¬eE (Nat.gcd (bL d) (bL t)) 1=0:=by
        unfold eE
        split<;>(try split)<;>first | decide | omega
       rw[if_neg (fun h=>hg h.2.2)]
       cases neg with
       |
        false =>
        simp only[dJ,cM,e1,e2,e3,e4,c1,c2,c3,c4,h1,h4,Option.isSome_some,Option.getD_some,aF,aO,aN,aI,iA,Nat.reduceLeDiff,Nat.reduceLT,Nat.reduceSub,VX,Nat.reduceEqDiff,Nat.reduceAdd]
        exact bG (d:=6) fJ (aG (v:=VB false) rfl)
       |
        true =>
        have xW:=xW rfl
        simp only[dJ,cM,e1,e2,e3,e4,c1,c2,c3,c4,h1,h4,dD,xW,Option.isSome_some,Option.getD_some,aF,aO,aN,aI,iA,Nat.reduceLeDiff,Nat.reduceLT,Nat.reduceSub,VX,Nat.reduceEqDiff,Nat.reduceAdd]
        exact bG (d:=6) fJ (aG (v:=VB false) rfl)
end Go.PM
namespace Go.PM
open Go.Lib
theorem N9 {l:List UInt8} {q:Rat} (h:uK l=some q):BW l = .eO [bX q,VB true]:=by unfold BW;rw[h]
theorem O1 {l:List UInt8} (h:uK l=none):BW l = .eO [Jh,VB false]:=by unfold BW;rw[h]
theorem G8:aB Jh=[VB false,bD 0,bD 0]:=rfl
theorem Je:isAny Jh=false:=rfl
theorem O5:dX true 3 Jh 0=some Jh:=rfl
theorem E9 (q:Rat):∃s k,DP q = .eO [aS s,VB k]:=by
 unfold DP
 split<;>exact⟨_,_,rfl⟩
end Go.PM
namespace Go.PM
open Go.Lib
theorem FJ (q:Rat) (n:Nat) (hn:n≤1000) (hq:cE q≤100000):TC 98 [bX q,VI n] (bX (q^n)):=by
 refine TC.walk ⟨true,false⟩ Dc rfl (Nat.le_of_ble_eq_true rfl) (by simp only[aJ,fN];rfl) (sT _) ?_
 have e1:TC 97 [VI 1] (bX 1):=nP 1 (by decide) (by decide)
 simp only[yB,wD,e1,aF,bQ,cY,aN,aO,aI,iA,Nat.reduceLeDiff,Nat.reduceLT,Nat.reduceSub,mH,cB,cN,gN,kG,nT,bne_iff_ne,ne_eq,not_false_eq_true,not_true_eq_false,VX,Nat.reduceEqDiff,Nat.reduceAdd]
 refine aY (fun(i:Nat) ρ H=>i≤n∧H=[.row 0 [.agg [VB false,.tree [] .nil,.tree [] .nil]] 3 true,.row 0 [bX (q^i)] 3 true]∧ρ 2=(bX q).cO 0∧ρ 4 = .ptr 0 0 0 0∧ρ 5 = .ptr 1 0 0 0∧ρ 7=VI n∧ρ 8=VI i) (fun i=>n-i) 0 ⟨Nat.zero_le _,?_,rfl,rfl,rfl,rfl,rfl⟩ ?_
 ·rw[Rat.pow_zero]
 rintro i ρ H ⟨hi,rfl,g2,g4,g5,g7,g8⟩
 by_cases dA:(i:Int)<(n:Int)
 ·have wi:IntKind.i64.wrap ((i:Int)+1)=((i+1:Nat):Int):=wrapN (i+1) (by omega) (by omega)
  have hb:=Cn q i
  have Y2:i*cE q≤1000*100000:=Nat.mul_le_mul (by omega) hq
  have e2:=BA (q^i) q (by omega) (by omega)
  rw[←Rat.pow_succ] at e2
  simp only[nW,g2,g4,g5,g7,g8,dA,e2,wi,aF,bQ,cY,aN,aO,aI,iA,Nat.reduceLeDiff,Nat.reduceLT,Nat.reduceSub,mH,cB,cN,gN,kG,nT,bne_iff_ne,ne_eq,not_false_eq_true,not_true_eq_false,VX,Nat.reduceEqDiff,Nat.reduceAdd]
  exact⟨i+1,by omega,by omega,rfl,rfl⟩
 ·have rI:i=n:=by omega
  subst rI
  simp only[nW,g2,g4,g5,g7,g8,dA,aF,bQ,cY,aN,aO,aI,iA,Nat.reduceLeDiff,Nat.reduceLT,Nat.reduceSub,mH,cB,cN,gN,kG,nT,bne_iff_ne,ne_eq,not_false_eq_true,not_true_eq_false,VX,Nat.reduceEqDiff,Nat.reduceAdd]
  exact aH (fN _)
end Go.PM
namespace Go.PM
open Go.Lib
theorem Nl {α:Type} {f:α→VV} {d e b g c:Nat} {xs:List α} {H:aA} {w:Bool} (hp:∀x,aR (f x)=true) (h:aQ H b g=some (xs.map f,e,w)) (hc:xs.length≤c):fz (d+2) H (.ref b g 0 xs.length c)=some (bK f xs):=by
 have:aR (.ref b g 0 xs.length c)=false:=rfl
 unfold PM.fz
 simp only[this,h,Bool.false_eq_true,if_false]
 rw[if_pos ⟨by simp,hc⟩,List.drop_zero,List.take_of_length_le (by simp),mapM_pure (dQ hp)]
 rfl
theorem Zt {d:Nat} {H:aA}:fz (d+1) H (.tree [] .nil)=some (.tree [] .op):=by
 unfold PM.fz
 have:aR (.tree [] .nil)=false:=by simp[aR]
 simp[this]
theorem DJ {H:aA}:fz depth H (.eO [.tree [] .nil,VB false])=some (.eO [.tree [] .op,VB false]):=bG (d:=6) Zt (aG (v:=VB false) rfl)
theorem DV {u v:VV} (hu:gJ u=true) (hv:gJ v=true):gJ (.eO [u,v])=true:=by simp only[gJ,pJ,hu,hv,Bool.and_self]
theorem TH {u v:VV} (hu:aR u=true) (hv:aR v=true):aR (.eO [u,v])=true:=by simp only[aR,aJ,hu,hv,Bool.and_self]
theorem acH {u:VV} (hu:aR u=true):aJ [u]=true:=by simp only[aJ,hu,Bool.and_self]
def pQ (s:ByteArray):Option Rat:=uK s.data.toList
theorem VY (s:ByteArray):sV s=aS s.data.toList:=rfl
def Ax (xs:List ByteArray):Option (List Rat):=if xs.length≤300 then xs.mapM pQ else none
def Kt (o:Option (List Rat)):VV:=match o with
 | some qs => .eO [bK bX qs,VB true]
 | none => .eO [bK bX [],VB false]
theorem F4 (q:Rat):(aB (bX q)).length=3:=rfl
theorem uN (qs:List Rat):aR (bK bX qs)=true:=jD F4 fN
theorem Uo (q:Rat):xP (bX q)=true:=by simp[xP,bX,bD]
theorem KE (qs:List Rat):gJ (bK bX qs)=true:=Bs F4 sT Uo
theorem Kk (o:Option (List Rat)):gJ (Kt o)=true:=by
 unfold Kt
 split
 ·exact DV (KE _) rfl
 ·exact DV (KE []) rfl
theorem Ky {α β:Type} {f:α→Option β} {xs:List α} {ys:List β} {x:α} {y:β} (h:xs.mapM f=some ys) (hx:f x=some y):(xs++[x]).mapM f=some (ys++[y]):=by
 rw[List.mapM_append,h]
 simp[hx]
theorem mapM_none {α β:Type} {f:α→Option β} {x:α} (hx:f x=none):∀ {xs:List α},x∈xs→xs.mapM f=none
 | [],h=>by cases h
 |
  y::xs,h=>by
  rw[List.mapM_cons]
  cases hy:f y with
  | none=>rfl
  |
   some z =>
   rcases List.mem_cons.1 h with rfl | h
   ·rw[hx] at hy;cases hy
   ·show ((xs.mapM f).bind fun zs=>some (z::zs))=none
    rw[mapM_none hx h];rfl
theorem mapM_mem {α β:Type} {f:α→Option β} {P:β→Prop} (hP:∀x y,f x=some y→P y):∀ {xs:List α} {ys:List β},xs.mapM f=some ys→∀y∈ys,P y
 | [],ys,h,y,hy=>by simp at h;subst h;cases hy
 |
  x::xs,ys,h,y,hy=>by
  rw[List.mapM_cons] at h
  cases hx:f x with
  | none=>rw[hx] at h;cases h
  |
   some z =>
   rw[hx] at h
   cases hs:xs.mapM f with
   | none=>rw[hs] at h;cases h
   |
    some zs =>
    rw[hs] at h
    cases h
    rcases List.mem_cons.1 hy with rfl | hy
    ·exact hP _ _ hx
    ·exact mapM_mem hP hs _ hy
theorem E5 {α:Type} {xs:List α} {i:Nat} {x:α} (h:xs[i]? = some x):xs.take (i+1)=xs.take i++[x]:=by rw[List.take_add_one,h];rfl
theorem DH {xs:List ByteArray} {qs:List Rat} (h:Ax xs=some qs):(∀q∈qs,cE q≤665)∧qs.length≤300∧qs.length=xs.length:=by
 unfold Ax at h
 split at h
 ·rename_i hl
  have:=vR h
  exact⟨mapM_mem (fun _ _ h=>QE h) h,by omega,this⟩
 ·cases h
set_option maxHeartbeats 1000000 in
theorem Oc (xs:List ByteArray) (hn:xs.length≤1000000000) (hs:∀s∈xs,s.size≤1000000000):TC 145 [fP xs] (Kt (Ax xs)):=by
 refine TC.walk ⟨true,false⟩ Pd rfl (Nat.le_of_ble_eq_true rfl) (by simp[aJ,dR]) (Kk _) ?_
 unfold Ax
 by_cases Rf:(300:Int)<(xs.length:Int)
 ·rw[if_neg (by omega)]
  simp only[F6,BQ,Rf,VX,Nat.reduceEqDiff,Nat.reduceAdd]
  exact DJ
 rw[if_pos (by omega)]
 have e0:=fun H=>oC (H:=H) (lr:=false) (z:=[.bool false,.slice none 0 0,.slice none 0 0]) rfl
 simp only[F6,BQ,Rf,e0,VX,Nat.reduceEqDiff,Nat.reduceAdd]
 refine HY (fun(s:Nat×List Rat) ρ H=>s.1≤xs.length∧(xs.take s.1).mapM pQ=some s.2∧H=[.row s.1 (s.2.map bX) 3 true]∧ρ 4 = .ref 0 s.1 0 s.1 s.1∧ρ 13=fP xs∧ρ 14=VI xs.length∧ρ 15=VI s.1) (fun s=>xs.length-s.1) (0,[]) ⟨Nat.zero_le _,rfl,rfl,rfl,rfl,rfl,rfl⟩ ?_
 rintro⟨i,out⟩ ρ H ⟨hi,IM,rfl,g4,g13,g14,g15⟩
 simp only at hi IM g4 g15
 have iF:out.length=i:=by rw[vR IM,List.length_take];omega
 by_cases dA:(i:Int)<(xs.length:Int)
 ·obtain⟨x,hx⟩:∃x,xs[i]? = some x:=⟨_,List.getElem?_eq_getElem (by omega)⟩
  have hxm:=List.mem_of_getElem? hx
  have e1:=fun H=>aM (f:=sV) (t := .op) (H:=H) (size:=1) (k := .i64) hx rfl
  have wi:IntKind.i64.wrap ((i:Int)+1)=((i+1:Nat):Int):=wrapN (i+1) (by omega) (by omega)
  have e2:=H5 x.data.toList (by have:=hs x hxm;rw[Array.length_toList];show x.size≤_;omega)
  rw[←VY] at e2
  cases hp:pQ x with
  |
   none =>
   rw[O1 hp] at e2
   rw[mapM_none hp hxm]
   simp only[tX,g4,g13,g14,g15,dA,e1,e2,G8,Je,O5,aN,aO,aI,iA,Nat.reduceLeDiff,Nat.reduceLT,Nat.reduceSub,mH,cB,cN,gN,kG,nT,bne_iff_ne,ne_eq,not_false_eq_true,not_true_eq_false,VX,Nat.reduceEqDiff,Nat.reduceAdd]
   exact DJ
  |
   some q =>
   rw[N9 hp] at e2
   have eL:∀H,rC false [.bool false,.slice none 0 0,.slice none 0 0] 1 [(0,bX q)] H=some (.tree [bX q] (.cl 3),H):=fun H=>sS rfl rfl rfl
   have eS:∀H,eW 3 (.tree [bX q] (.cl 3)) H=some [bX q]:=fun H=>pE rfl rfl
   have eP:gE 0 3 56 (.ref 0 i 0 i i) [bX q] [.row i (out.map bX) 3 true,.row 0 [bX q] 3 true]=some (.ref 0 (i+1) 0 (i+1) (i+1),[.row (i+1) ((out++[q]).map bX) 3 true,.row 0 [bX q] 3 true]):=by
    rw[pH (f:=bX) (xs:=out) (by rw[bT]) iF.symm (Nat.le_refl _) (by decide) (by decide) (by omega),List.set_cons_zero]
   simp only[tX,g4,g13,g14,g15,dA,e1,e2,eL,eS,eP,wi,aF,bQ,cY,aN,aO,aI,iA,Nat.reduceLeDiff,Nat.reduceLT,Nat.reduceSub,mH,cB,cN,gN,kG,nT,bne_iff_ne,ne_eq,not_false_eq_true,not_true_eq_false,VX,Nat.reduceEqDiff,Nat.reduceAdd]
   refine⟨(i+1,out++[q]),by simp only;omega,?_,by simp only;omega,by simp only[E5 hx];exact Ky IM hp,rfl,?_⟩
   ·rw[uA (kI _ (dQ fN)),FW]
   ·simp only[fG,g13,g14,vG (dR _),yN (Nat.lt_succ_self 0),VX,Nat.reduceEqDiff,Nat.reduceAdd,List.take_zero,gA,List.all_nil,List.length_nil,fG,Jj,vG]
 ·have rI:i=xs.length:=by omega
  subst rI
  rw[List.take_length] at IM
  rw[IM]
  simp only[tX,g4,g13,g14,g15,dA,VX,Nat.reduceEqDiff,Nat.reduceAdd]
  refine bG (d:=6) ?_ (aG (v:=VB true) rfl)
  have:=Nl (d:=5) (w:=true) (f:=bX) (e:=3) (b:=0) (g:=xs.length) (c:=xs.length) (xs:=out) (H:=[.row xs.length (out.map bX) 3 true]) fN (by rw[bT]) (by omega)
  rw[iF] at this
  exact this
end Go.PM
namespace Go.PM
end Go.PM
namespace Go.PM
theorem Ar.get {b i:Nat} {H:aA} {xs:List (List ByteArray)} {x:List ByteArray} (h:Ar H false xs b) (hx:xs[i]? = some x) :
  ∃b',dV false 1 (.ptr b 0 i 0) H=some (.ref b' 0 0 x.length (x.length+room x.length))∧aQ H b' 0=some ((gG kJ x).map sV,1,true):=by
 obtain⟨cells,IV,h1,h2,h3,h4,h5⟩:=h
 obtain⟨c,k1,k2⟩:=h4 i x hx
 rcases k2 with⟨k,_⟩ | ⟨b',_,rfl,k3⟩
 ·cases k
 ·refine⟨b',?_,k3⟩
  rw[kU,h1]
  simp only[List.getElem?_append_left (List.getElem?_eq_some_iff.1 k1).1,k1]
  rfl
theorem yG.ref {n:Nat} {H:aA} {x:List ByteArray} {c:VV} (h:yG n H false x c):∃b,c = .ref b 0 0 x.length (x.length+room x.length)∧aQ H b 0=some ((gG kJ x).map sV,1,true):=by
 rcases h with⟨k,_⟩ | ⟨b',_,rfl,k3⟩
 ·cases k
 ·exact⟨b',rfl,k3⟩
theorem uU.ref {n:Nat} {H:aA} {x:List (List ByteArray)} {c:VV} (h:uU n H false x c):∃b,c = .ref b 0 0 x.length (x.length+room x.length)∧Ar H false x b:=by
 rcases h with⟨k,_⟩ | ⟨b',_,rfl,k3⟩
 ·cases k
 ·exact⟨b',rfl,k3⟩
end Go.PM
namespace Go.PM
def rX:aE:=(LS [LO 2 (.mv (.const (.string ⟨#[]⟩))),LO 3 (.mv LF)] (LS [LM 7 0,LO 8 (.call 115 [(LT 7)]),LM 6 8,LO 9 (LX 6 0),LO 10 (LX 6 1),LM 4 9,LM 5 10] (.seq (LS [LM 11 5,LO 12 (.un .not (LT 11)),LM 13 12,LZ 13 14 (.mv (LT 4)),LZ 13 15 (.call 116 [(LT 14)]),LZ 13 16 (.un .not (LT 15)),LO 17 (.pick (LT 13) LG (LT 16))] (.cond (LT 17) (LS [LO 2 (.mv (.const (.string ⟨#[]⟩))),LO 3 (.mv LF)] .ret) .skip)) (LS [LM 18 4,LO 19 (.call 117 [(LT 18),(LI 1)]),LO 20 (.call 93 [(LT 19)]),LO 21 (LX 20 0),LO 22 (LX 20 1),LM 2 21,LM 3 22] .ret))))
def xG:aV:=⟨23,[(.tmp 2),(.tmp 3)],rX⟩
theorem JQ:hJ 42=some xG:=by kernel_rfl
def Bl:aE:=(LS [LO 0 (.new [(.bool false),(.slice none 0 0),(.slice none 0 0)])] (LS [LO 1 (.call 166 [(LI 0)]),LN (.store 3 (LT 0) (LT 1))] .ret))
def EM:aV:=⟨2,[(.cell 0 true 3)],Bl⟩
theorem IT:hJ 136=some EM:=by kernel_rfl
def sA:aE:=(LS [LO 2 (.box (LT 0)),LO 3 (.box (LT 1)),LO 4 (.new [(.bool false),(.slice none 0 0),(.slice none 0 0)])] (LS [LO 8 (LA 1 2),LO 9 (LL 8),LO 10 (LA 2 3),LO 11 (LL 10),LO 12 (.call 162 [(LT 9),(LT 11)]),LM 5 12] (LS [LO 13 (LA 1 3),LO 14 (LL 13),LO 15 (LA 2 2),LO 16 (LL 15),LO 17 (.call 162 [(LT 14),(LT 16)]),LM 6 17] (LS [LO 18 (LA 2 2),LO 19 (LL 18),LO 20 (LA 2 3),LO 21 (LL 20),LO 22 (.call 162 [(LT 19),(LT 21)]),LM 7 22] (.seq (LS [LO 23 (LA 0 2),LO 24 (LL 23),LO 25 (LA 0 3),LO 26 (LL 25),LO 27 (.eqb false (LT 24) (LT 26))] (.cond (LT 27) (LS [LO 28 (LA 0 2),LO 29 (LL 28),LM 30 5,LM 31 6,LQ 32 (.call 177 [(LT 30),(LT 31)]),LM 33 7,LQ 34 (.call 164 [(LT 29),(LT 32),(LT 33)]),LN (.store 3 (LT 4) (LT 34))] .ret) .skip)) (.seq (LS [LM 35 5,LM 36 6,LO 37 (.call 178 [(LT 35),(LT 36)]),LO 38 (.bin .geq (LT 37) (LI 0))] (.cond (LT 38) (LS [LO 39 (LA 0 2),LO 40 (LL 39),LM 41 5,LM 42 6,LQ 43 (.call 179 [(LT 41),(LT 42)]),LM 44 7,LQ 45 (.call 164 [(LT 40),(LT 43),(LT 44)]),LN (.store 3 (LT 4) (LT 45))] .ret) .skip)) (LS [LO 46 (LA 0 3),LO 47 (LL 46),LM 48 6,LM 49 5,LQ 50 (.call 179 [(LT 48),(LT 49)]),LM 51 7,LQ 52 (.call 164 [(LT 47),(LT 50),(LT 51)]),LN (.store 3 (LT 4) (LT 52))] .ret)))))))
def xJ:aV:=⟨53,[(.cell 4 true 3)],sA⟩
theorem Kj:hJ 94=some xJ:=by kernel_rfl
def AM:aE:=(LS [LO 2 (.box (LT 0)),LO 3 (.box (LT 1)),LO 4 (.new [(.bool false),(.slice none 0 0),(.slice none 0 0)])] (LS [LO 5 (LA 0 2),LO 6 (LL 5),LO 7 (LA 0 3),LO 8 (LL 7),LO 9 (.eqb true (LT 6) (LT 8)),LO 10 (LA 1 2),LO 11 (LL 10),LO 12 (LA 1 3),LO 13 (LL 12),LQ 14 (.call 162 [(LT 11),(LT 13)]),LO 15 (LA 2 2),LO 16 (LL 15),LO 17 (LA 2 3),LO 18 (LL 17),LQ 19 (.call 162 [(LT 16),(LT 18)]),LQ 20 (.call 164 [(LT 9),(LT 14),(LT 19)]),LN (.store 3 (LT 4) (LT 20))] .ret))
def CL:aV:=⟨21,[(.cell 4 true 3)],AM⟩
theorem Hy:hJ 137=some CL:=by kernel_rfl
def xN:aE:=(LS [LO 2 (.new [(.bool false),(.slice none 0 0),(.slice none 0 0)])] (.seq (LS [LM 3 0,LO 4 (.bin .lss (LT 3) (LI 0))] (.cond (LT 4) (LS [LM 5 0,LO 6 (.un .neg (LT 5)),LO 7 (.call 161 [(LT 6)]),LO 8 (.lit [(.int .i64 0)] 1 [(0,(LI 1))]),LO 9 (.build [(.bool false),(.slice none 0 0),(.slice none 0 0)] [(0,1),(1,1),(2,1)] [(0,LG),(1,(LT 7)),(2,(LT 8))]),LN (.store 3 (LT 2) (LT 9))] .ret) .skip)) (LS [LM 10 0,LO 11 (.call 161 [(LT 10)]),LO 12 (.lit [(.int .i64 0)] 1 [(0,(LI 1))]),LO 13 (.build [(.bool false),(.slice none 0 0),(.slice none 0 0)] [(0,1),(1,1),(2,1)] [(1,(LT 11)),(2,(LT 12))]),LN (.store 3 (LT 2) (LT 13))] .ret)))
def BM:aV:=⟨14,[(.cell 2 true 3)],xN⟩
theorem J5:hJ 166=some BM:=by kernel_rfl
def oH:aE:=(LS [LO 2 (.box (LT 0)),LO 3 (.box (LT 1)),LO 4 (.mv LF)] (LS [LO 5 (LA 0 2),LO 6 (LL 5),LO 7 (LA 0 3),LO 8 (LL 7),LO 9 (.eqb false (LT 6) (LT 8)),LM 10 9,LY 10 11 (LA 1 2),LY 10 12 (LL 11),LY 10 13 (LA 2 3),LY 10 14 (LL 13),⟨(some 15),(.call 162 [(LT 12),(LT 14)]),(some (10,true)),true,[]⟩,LY 10 16 (LA 1 3),LY 10 17 (LL 16),LY 10 18 (LA 2 2),LY 10 19 (LL 18),⟨(some 20),(.call 162 [(LT 17),(LT 19)]),(some (10,true)),true,[]⟩,⟨(some 21),(.call 178 [(LT 15),(LT 20)]),(some (10,true)),true,[]⟩,LY 10 22 (.bin .eql (LT 21) (LI 0)),LO 23 (.pick (LT 10) (LT 22) LF),LM 4 23] .ret))
def sB:aV:=⟨24,[(.tmp 4)],oH⟩
theorem Hs:hJ 197=some sB:=by kernel_rfl
def oN:aE:=(LS [LO 15 (.bin .lss (LT 14) (LT 13))] (.seq (.cond (LT 15) .skip (.exit 0)) (.seq (.block 1 (LS [LM 16 14,LM 5 16] (LS [LM 18 0,LM 19 5,LO 20 (.iaddr 1 (LT 18) (LT 19)),LO 21 (LL 20),LO 22 (.call 175 [(LT 21)]),LM 17 22,LO 23 (LX 17 0),LO 24 (LX 17 1),LO 6 (.new [(.bool false),(.slice none 0 0),(.slice none 0 0)]),LN (.store 3 (LT 6) (LT 23)),LM 7 24] (.seq (LS [LM 25 7,LO 26 (.un .not (LT 25))] (.cond (LT 26) (LS [LO 2 (.mv (.const (.slice none 0 0))),LO 3 (.mv LF)] .ret) .skip)) (.dY [LM 27 4,LO 28 (LK 6),LO 29 (.lit [(.bool false),(.slice none 0 0),(.slice none 0 0)] 1 [(0,(LT 28))]),LO 30 (.app 3 56 (LT 27) (LT 29)),LM 4 30]))))) (.dY [LO 31 (.bin .add (LT 14) (LI 1)),LM 14 31]))))
def uT:aE:=(LS [LO 2 (.mv (.const (.slice none 0 0))),LO 3 (.mv LF)] (.seq (LS [LM 8 0,LO 9 (.len (LT 8)),LO 10 (.bin .gtr (LT 9) (LI 300))] (.cond (LT 10) (LS [LO 2 (.mv (.const (.slice none 0 0))),LO 3 (.mv LF)] .ret) .skip)) (LS [LO 11 (.lit [(.bool false),(.slice none 0 0),(.slice none 0 0)] 0 []),LM 4 11] (.seq (LS [LM 12 0,LO 13 (.len (LT 12)),LO 14 (.mv (LI 0))] (.block 0 (.loop oN))) (LS [LM 32 4,LM 2 32,LO 3 (.mv LG)] .ret)))))
def Ai:aV:=⟨33,[(.tmp 2),(.tmp 3)],uT⟩
theorem IJ:hJ 115=some Ai:=by kernel_rfl
def qM:aE:=(LS [LO 2 (.mv LF)] (LS [LM 3 0,LO 4 (.call 140 [(LT 3)]),LM 5 4,LY 5 6 (.mv (LT 0)),LY 5 7 (.call 142 [(LT 6)]),LY 5 8 (.call 124 []),LY 5 9 (.call 197 [(LT 7),(LT 8)]),LO 10 (.pick (LT 5) (LT 9) LF),LM 2 10] .ret))
def tC:aV:=⟨11,[(.tmp 2)],qM⟩
theorem Ei:hJ 116=some tC:=by kernel_rfl
def wC:aE:=(LS [LO 1 (.box (LT 0)),LO 2 (.mv (.const (.string ⟨#[]⟩))),LO 3 (.mv LF)] (.seq (LS [LO 4 (LK 1),LO 5 (.call 176 [(LT 4)]),LO 6 (.un .not (LT 5))] (.cond (LT 6) (LS [LO 2 (.mv (.const (.string ⟨#[]⟩))),LO 3 (.mv LF)] .ret) .skip)) (LS [LO 7 (LK 1),LO 8 (.call 163 [(LT 7)]),LM 2 8,LO 3 (.mv LG)] .ret)))
def zQ:aV:=⟨9,[(.tmp 2),(.tmp 3)],wC⟩
theorem I6:hJ 93=some zQ:=by kernel_rfl
def pV:aE:=(LS [LO 11 (.bin .lss (LT 10) (LT 9))] (.seq (.cond (LT 11) .skip (.exit 0)) (.seq (.block 1 (LS [LM 12 10,LM 6 12] (.dY [LO 13 (LK 5),LM 14 0,LM 15 6,LO 16 (.iaddr 3 (LT 14) (LT 15)),LO 17 (LK 16),LM 18 6,LQ 19 (.call 166 [(LT 18)]),LM 20 1,LQ 21 (.call 198 [(LT 19),(LT 20)]),LQ 22 (.call 137 [(LT 17),(LT 21)]),LQ 23 (.call 94 [(LT 13),(LT 22)]),LN (.store 3 (LT 5) (LT 23))]))) (.dY [LO 24 (.bin .add (LT 10) (LI 1)),LM 10 24]))))
def yJ:aE:=(LS [LO 4 (.new [(.bool false),(.slice none 0 0),(.slice none 0 0)])] (LS [LO 7 (.call 136 []),LO 5 (.new [(.bool false),(.slice none 0 0),(.slice none 0 0)]),LN (.store 3 (LT 5) (LT 7))] (.seq (LS [LM 8 0,LO 9 (.len (LT 8)),LO 10 (.mv (LI 0))] (.block 0 (.loop pV))) (LS [LO 25 (LK 5),LN (.store 3 (LT 4) (LT 25))] .ret))))
def BF:aV:=⟨26,[(.cell 4 true 3)],yJ⟩
theorem F5:hJ 117=some BF:=by kernel_rfl
def CM:aE:=(LS [LO 0 (.new [(.bool false),(.slice none 0 0),(.slice none 0 0)])] (LS [LO 1 (.call 166 [(LI 1)]),LN (.store 3 (LT 0) (LT 1))] .ret))
def GH:aV:=⟨2,[(.cell 0 true 3)],CM⟩
theorem JU:hJ 124=some GH:=by kernel_rfl
def jT:aE:=(LS [LO 7 (.bin .lss (LT 6) (LT 5))] (.seq (.cond (LT 7) .skip (.exit 0)) (.seq (.block 1 (LS [LM 8 6,LM 3 8] (LS [LM 9 0,LM 10 3,LO 11 (.iaddr 3 (LT 9) (LT 10)),LO 12 (LA 0 11),LO 13 (LL 12)] (.cond (LT 13) (LS [LO 2 (.mv LF)] .ret) .skip)))) (.dY [LO 14 (.bin .add (LT 6) (LI 1)),LM 6 14]))))
def vC:aE:=(LS [LO 2 (.mv LF)] (.seq (LS [LM 4 0,LO 5 (.len (LT 4)),LO 6 (.mv (LI 0))] (.block 0 (.loop jT))) (LS [LO 2 (.mv LG)] .ret)))
def zI:aV:=⟨15,[(.tmp 2)],vC⟩
theorem Dn:hJ 140=some zI:=by kernel_rfl
def rS:aE:=(LS [LO 9 (.bin .lss (LT 8) (LT 7))] (.seq (.cond (LT 9) .skip (.exit 0)) (.seq (.block 1 (LS [LM 10 8,LM 4 10] (.dY [LO 11 (LK 3),LM 12 0,LM 13 4,LO 14 (.iaddr 3 (LT 12) (LT 13)),LO 15 (LK 14),LQ 16 (.call 94 [(LT 11),(LT 15)]),LN (.store 3 (LT 3) (LT 16))]))) (.dY [LO 17 (.bin .add (LT 8) (LI 1)),LM 8 17]))))
def Au:aE:=(LS [LO 2 (.new [(.bool false),(.slice none 0 0),(.slice none 0 0)])] (LS [LO 5 (.call 136 []),LO 3 (.new [(.bool false),(.slice none 0 0),(.slice none 0 0)]),LN (.store 3 (LT 3) (LT 5))] (.seq (LS [LM 6 0,LO 7 (.len (LT 6)),LO 8 (.mv (LI 0))] (.block 0 (.loop rS))) (LS [LO 18 (LK 3),LN (.store 3 (LT 2) (LT 18))] .ret))))
def Da:aV:=⟨19,[(.cell 2 true 3)],Au⟩
theorem Hx:hJ 142=some Da:=by kernel_rfl
def iO:aE:=(LS [LO 6 (.new [(.bool false),(.slice none 0 0),(.slice none 0 0)])] (LS [LM 8 1,LM 9 2,LO 10 (.call 213 [(LT 8),(LT 9)]),LM 7 10] (.seq (LS [LM 11 7,LO 12 (.lit [(.int .i64 0)] 1 [(0,(LI 1))]),LO 13 (.call 178 [(LT 11),(LT 12)]),LO 14 (.bin .neq (LT 13) (LI 0))] (.cond (LT 14) (LS [LM 16 1,LM 17 7,LO 18 (.call 214 [(LT 16),(LT 17)]),LM 15 18,LO 19 (LX 15 0),LO 20 (LX 15 1),LM 1 19] (.dY [LM 22 2,LM 23 7,LO 24 (.call 214 [(LT 22),(LT 23)]),LM 21 24,LO 25 (LX 21 0),LO 26 (LX 21 1),LM 2 25])) .skip)) (LS [LM 27 0,LM 28 27,LY 28 29 (.mv (LT 1)),LY 28 30 (.len (LT 29)),LY 28 31 (.bin .gtr (LT 30) (LI 0)),LO 32 (.pick (LT 28) (LT 31) LF),LM 33 1,LM 34 2,LO 35 (.build [(.bool false),(.slice none 0 0),(.slice none 0 0)] [(0,1),(1,1),(2,1)] [(0,(LT 32)),(1,(LT 33)),(2,(LT 34))]),LN (.store 3 (LT 6) (LT 35))] .ret))))
def kS:aV:=⟨36,[(.cell 6 true 3)],iO⟩
theorem H6:hJ 164=some kS:=by kernel_rfl
def mT:aE:=(.seq (LS [LM 19 5,LO 20 (.bin .geq (LT 19) (LI 0))] (.cond (LT 20) .skip (.exit 0))) (.seq (.block 1 (LS [LM 23 0,LM 24 5,LO 25 (.iaddr 1 (LT 23) (LT 24)),LO 26 (LL 25),LM 27 1,LM 28 5,LO 29 (.iaddr 1 (LT 27) (LT 28)),LO 30 (LL 29),LO 31 (.bin .neq (LT 26) (LT 30))] (.cond (LT 31) (.seq (LS [LM 32 0,LM 33 5,LO 34 (.iaddr 1 (LT 32) (LT 33)),LO 35 (LL 34),LM 36 1,LM 37 5,LO 38 (.iaddr 1 (LT 36) (LT 37)),LO 39 (LL 38),LO 40 (.bin .lss (LT 35) (LT 39))] (.cond (LT 40) (LS [LO 4 (.mv (LI (-1)))] .ret) .skip)) (LS [LO 4 (.mv (LI 1))] .ret)) .skip))) (.dY [LM 21 5,LO 22 (.bin .sub (LT 21) (LI 1)),LM 5 22])))
def rY:aE:=(LS [LO 4 (.mv (LI 0))] (.seq (LS [LM 6 0,LO 7 (.len (LT 6)),LM 8 1,LO 9 (.len (LT 8)),LO 10 (.bin .neq (LT 7) (LT 9))] (.cond (LT 10) (.seq (LS [LM 11 0,LO 12 (.len (LT 11)),LM 13 1,LO 14 (.len (LT 13)),LO 15 (.bin .lss (LT 12) (LT 14))] (.cond (LT 15) (LS [LO 4 (.mv (LI (-1)))] .ret) .skip)) (LS [LO 4 (.mv (LI 1))] .ret)) .skip)) (.seq (LS [LM 16 0,LO 17 (.len (LT 16)),LO 18 (.bin .sub (LT 17) (LI 1)),LM 5 18] (.block 0 (.loop mT))) (LS [LO 4 (.mv (LI 0))] .ret))))
def xF:aV:=⟨41,[(.tmp 4)],rY⟩
theorem JH:hJ 178=some xF:=by kernel_rfl
def pM:aE:=(LS [LO 24 (.bin .lss (LT 23) (LT 22))] (.seq (.cond (LT 24) .skip (.exit 2)) (.seq (.block 3 (LS [LM 25 23,LM 8 25] (LS [LM 26 5,LM 27 6,LM 28 8,LO 29 (.bin .add (LT 27) (LT 28)),LO 30 (.iaddr 1 (LT 26) (LT 29)),LO 31 (LL 30),LM 32 0,LM 33 6,LO 34 (.iaddr 1 (LT 32) (LT 33)),LO 35 (LL 34),LM 36 1,LM 37 8,LO 38 (.iaddr 1 (LT 36) (LT 37)),LO 39 (LL 38),LO 40 (.bin .mul (LT 35) (LT 39)),LO 41 (.bin .add (LT 31) (LT 40)),LM 42 7,LO 43 (.bin .add (LT 41) (LT 42)),LM 9 43] (LS [LM 44 5,LM 45 6,LM 46 8,LO 47 (.bin .add (LT 45) (LT 46)),LM 48 9,LO 49 (.bin .rem (LT 48) (LI 1000000000)),LO 50 (.iaddr 1 (LT 44) (LT 47)),LN (.store 1 (LT 50) (LT 49))] (.dY [LM 51 9,LO 52 (.bin .quo (LT 51) (LI 1000000000)),LM 7 52]))))) (.dY [LO 53 (.bin .add (LT 23) (LI 1)),LM 23 53]))))
def qO:aE:=(LS [LO 19 (.bin .lss (LT 18) (LT 17))] (.seq (.cond (LT 19) .skip (.exit 0)) (.seq (.block 1 (LS [LM 20 18,LM 6 20] (LS [LO 7 (.mv (LI 0))] (.seq (LS [LM 21 1,LO 22 (.len (LT 21)),LO 23 (.mv (LI 0))] (.block 2 (.loop pM))) (.dY [LM 54 5,LM 55 6,LM 56 1,LO 57 (.len (LT 56)),LO 58 (.bin .add (LT 55) (LT 57)),LO 59 (.iaddr 1 (LT 54) (LT 58)),LO 60 (LL 59),LM 61 7,LO 62 (.bin .add (LT 60) (LT 61)),LO 63 (.iaddr 1 (LT 54) (LT 58)),LN (.store 1 (LT 63) (LT 62))]))))) (.dY [LO 64 (.bin .add (LT 18) (LI 1)),LM 18 64]))))
def zD:aE:=(LS [LO 4 (.mv (.const (.slice none 0 0)))] (LS [LM 10 0,LO 11 (.len (LT 10)),LM 12 1,LO 13 (.len (LT 12)),LO 14 (.bin .add (LT 11) (LT 13)),LO 15 (.make [(.int .i64 0)] 8 (LT 14) (LT 14)),LM 5 15] (.seq (LS [LM 16 0,LO 17 (.len (LT 16)),LO 18 (.mv (LI 0))] (.block 0 (.loop qO))) (LS [LM 65 5,LO 66 (.call 211 [(LT 65)]),LM 4 66] .ret))))
def BT:aV:=⟨67,[(.tmp 4)],zD⟩
theorem Fu:hJ 162=some BT:=by kernel_rfl
def jF:aE:=(.seq (LS [LM 10 7,LM 11 0,LO 12 (.len (LT 11)),LO 13 (.bin .lss (LT 10) (LT 12)),LM 14 13,LZ 14 15 (.mv (LT 7)),LZ 14 16 (.mv (LT 1)),LZ 14 17 (.len (LT 16)),LZ 14 18 (.bin .lss (LT 15) (LT 17)),LO 19 (.pick (LT 14) LG (LT 18)),LM 20 19,LZ 20 21 (.mv (LT 6)),LZ 20 22 (.bin .gtr (LT 21) (LI 0)),LO 23 (.pick (LT 20) LG (LT 22))] (.cond (LT 23) .skip (.exit 0))) (.seq (.block 1 (LS [LM 26 0,LM 27 7,LO 28 (.call 225 [(LT 26),(LT 27)]),LM 29 1,LM 30 7,LO 31 (.call 225 [(LT 29),(LT 30)]),LO 32 (.bin .add (LT 28) (LT 31)),LM 33 6,LO 34 (.bin .add (LT 32) (LT 33)),LM 8 34] (LS [LM 35 5,LM 36 8,LO 37 (.bin .rem (LT 36) (LI 1000000000)),LO 38 (.lit [(.int .i64 0)] 1 [(0,(LT 37))]),LO 39 (.app 1 8 (LT 35) (LT 38)),LM 5 39] (.dY [LM 40 8,LO 41 (.bin .quo (LT 40) (LI 1000000000)),LM 6 41])))) (.dY [LM 24 7,LO 25 (.bin .add (LT 24) (LI 1)),LM 7 25])))
def yM:aE:=(LS [LO 4 (.mv (.const (.slice none 0 0)))] (LS [LO 9 (.lit [(.int .i64 0)] 0 []),LM 5 9] (LS [LO 6 (.mv (LI 0))] (.seq (LS [LO 7 (.mv (LI 0))] (.block 0 (.loop jF))) (LS [LM 42 5,LM 4 42] .ret)))))
def Bt:aV:=⟨43,[(.tmp 4)],yM⟩
theorem FX:hJ 177=some Bt:=by kernel_rfl
def kV:aE:=(LS [LO 13 (.bin .lss (LT 12) (LT 11))] (.seq (.cond (LT 13) .skip (.exit 0)) (.seq (.block 1 (LS [LM 14 12,LM 7 14] (LS [LM 15 0,LM 16 7,LO 17 (.iaddr 1 (LT 15) (LT 16)),LO 18 (LL 17),LM 19 1,LM 20 7,LQ 21 (.call 225 [(LT 19),(LT 20)]),LO 22 (.bin .sub (LT 18) (LT 21)),LM 23 6,LO 24 (.bin .sub (LT 22) (LT 23)),LM 8 24] (LS [LO 6 (.mv (LI 0))] (.seq (LS [LM 25 8,LO 26 (.bin .lss (LT 25) (LI 0))] (.cond (LT 26) (LS [LM 27 8,LO 28 (.bin .add (LT 27) (LI 1000000000)),LM 8 28] (.dY [LO 6 (.mv (LI 1))])) .skip)) (.dY [LM 29 5,LM 30 8,LO 31 (.lit [(.int .i64 0)] 1 [(0,(LT 30))]),LO 32 (.app 1 8 (LT 29) (LT 31)),LM 5 32])))))) (.dY [LO 33 (.bin .add (LT 12) (LI 1)),LM 12 33]))))
def wR:aE:=(LS [LO 4 (.mv (.const (.slice none 0 0)))] (LS [LO 9 (.lit [(.int .i64 0)] 0 []),LM 5 9] (LS [LO 6 (.mv (LI 0))] (.seq (LS [LM 10 0,LO 11 (.len (LT 10)),LO 12 (.mv (LI 0))] (.block 0 (.loop kV))) (LS [LM 34 5,LO 35 (.call 211 [(LT 34)]),LM 4 35] .ret)))))
def AH:aV:=⟨36,[(.tmp 4)],wR⟩
theorem DU:hJ 179=some AH:=by kernel_rfl
def uQ:aE:=(.seq (LS [LM 5 0,LO 6 (.bin .gtr (LT 5) (LI 0))] (.cond (LT 6) .skip (.exit 0))) (.block 1 (LS [LM 7 3,LM 8 0,LO 9 (.bin .rem (LT 8) (LI 1000000000)),LO 10 (.lit [(.int .i64 0)] 1 [(0,(LT 9))]),LO 11 (.app 1 8 (LT 7) (LT 10)),LM 3 11] (.dY [LM 12 0,LO 13 (.bin .quo (LT 12) (LI 1000000000)),LM 0 13]))))
def Db:aE:=(LS [LO 2 (.mv (.const (.slice none 0 0)))] (LS [LO 4 (.lit [(.int .i64 0)] 0 []),LM 3 4] (.seq (.block 0 (.loop uQ)) (LS [LM 14 3,LM 2 14] .ret))))
def GV:aV:=⟨15,[(.tmp 2)],Db⟩
theorem JY:hJ 161=some GV:=by kernel_rfl
def aZ:aE:=(LS [LO 2 (.new [(.bool false),(.slice none 0 0),(.slice none 0 0)]),LO 3 (.mv LF)] (LS [LM 8 0,LO 9 (.slen (LT 8)),LO 10 (.bin .gtr (LT 9) (LI 0)),LM 11 10,LY 11 12 (.mv (LT 0)),LY 11 13 (.sidx (LT 12) (LI 0)),LY 11 14 (.bin .eql (LT 13) (.const (.int .u8 45))),LO 15 (.pick (LT 11) (LT 14) LF),LM 4 15] (.seq (LS [LM 16 4] (.cond (LT 16) (.dY [LM 17 0,LO 18 (.ssub (LT 17) (some (LI 1)) none),LM 0 18]) .skip)) (LS [LM 19 0,LO 20 (.call 222 [(LT 19),(.const (.int .u8 47))]),LM 5 20] (.seq (LS [LM 21 5,LO 22 (.len (LT 21)),LO 23 (.bin .gtr (LT 22) (LI 2)),LM 24 23,LZ 24 25 (.mv (LT 5)),LZ 24 26 (.iaddr 1 (LT 25) (LI 0)),LZ 24 27 (LL 26),LZ 24 28 (.call 223 [(LT 27)]),LZ 24 29 (.un .not (LT 28)),LO 30 (.pick (LT 24) LG (LT 29))] (.cond (LT 30) (LS [LO 31 (.build [(.bool false),(.slice none 0 0),(.slice none 0 0)] [(0,1),(1,1),(2,1)] []),LN (.store 3 (LT 2) (LT 31)),LO 3 (.mv LF)] .ret) .skip)) (LS [LM 32 5,LO 33 (.iaddr 1 (LT 32) (LI 0)),LO 34 (LL 33),LO 35 (.call 224 [(LT 34)]),LM 6 35] (.seq (LS [LM 36 4,LM 37 36,LY 37 38 (.mv (LT 6)),LY 37 39 (.len (LT 38)),LY 37 40 (.bin .eql (LT 39) (LI 0)),LO 41 (.pick (LT 37) (LT 40) LF)] (.cond (LT 41) (LS [LO 42 (.build [(.bool false),(.slice none 0 0),(.slice none 0 0)] [(0,1),(1,1),(2,1)] []),LN (.store 3 (LT 2) (LT 42)),LO 3 (.mv LF)] .ret) .skip)) (.seq (LS [LM 43 5,LO 44 (.len (LT 43)),LO 45 (.bin .eql (LT 44) (LI 1))] (.cond (LT 45) (LS [LM 46 4,LM 47 6,LO 48 (.lit [(.int .i64 0)] 1 [(0,(LI 1))]),LO 49 (.build [(.bool false),(.slice none 0 0),(.slice none 0 0)] [(0,1),(1,1),(2,1)] [(0,(LT 46)),(1,(LT 47)),(2,(LT 48))]),LN (.store 3 (LT 2) (LT 49)),LO 3 (.mv LG)] .ret) .skip)) (.seq (LS [LM 50 5,LO 51 (.iaddr 1 (LT 50) (LI 1)),LO 52 (LL 51),LO 53 (.call 223 [(LT 52)]),LO 54 (.un .not (LT 53))] (.cond (LT 54) (LS [LO 55 (.build [(.bool false),(.slice none 0 0),(.slice none 0 0)] [(0,1),(1,1),(2,1)] []),LN (.store 3 (LT 2) (LT 55)),LO 3 (.mv LF)] .ret) .skip)) (LS [LM 56 5,LO 57 (.iaddr 1 (LT 56) (LI 1)),LO 58 (LL 57),LO 59 (.call 224 [(LT 58)]),LM 7 59] (.seq (LS [LM 60 7,LO 61 (.lit [(.int .i64 0)] 1 [(0,(LI 1))]),LO 62 (.call 178 [(LT 60),(LT 61)]),LO 63 (.bin .leq (LT 62) (LI 0)),LM 64 63,LZ 64 65 (.mv (LT 6)),LZ 64 66 (.mv (LT 7)),LZ 64 67 (.call 213 [(LT 65),(LT 66)]),LZ 64 68 (.lit [(.int .i64 0)] 1 [(0,(LI 1))]),LZ 64 69 (.call 178 [(LT 67),(LT 68)]),LZ 64 70 (.bin .neq (LT 69) (LI 0)),LO 71 (.pick (LT 64) LG (LT 70))] (.cond (LT 71) (LS [LO 72 (.build [(.bool false),(.slice none 0 0),(.slice none 0 0)] [(0,1),(1,1),(2,1)] []),LN (.store 3 (LT 2) (LT 72)),LO 3 (.mv LF)] .ret) .skip)) (LS [LM 73 4,LM 74 6,LM 75 7,LO 76 (.build [(.bool false),(.slice none 0 0),(.slice none 0 0)] [(0,1),(1,1),(2,1)] [(0,(LT 73)),(1,(LT 74)),(2,(LT 75))]),LN (.store 3 (LT 2) (LT 76)),LO 3 (.mv LG)] .ret))))))))))))
def bO:aV:=⟨77,[(.cell 2 true 3),(.tmp 3)],aZ⟩
theorem Ht:hJ 175=some bO:=by kernel_rfl
def vJ:aE:=(LS [LO 1 (.box (LT 0)),LO 2 (.mv LF)] (LS [LO 3 (LA 1 1),LO 4 (LL 3),LO 5 (.call 212 [(LT 4)]),LO 6 (.slen (LT 5)),LO 7 (.bin .leq (LT 6) (LI 200)),LM 8 7,LY 8 9 (LA 2 1),LY 8 10 (LL 9),LY 8 11 (.call 212 [(LT 10)]),LY 8 12 (.slen (LT 11)),LY 8 13 (.bin .leq (LT 12) (LI 200)),LO 14 (.pick (LT 8) (LT 13) LF),LM 2 14] .ret))
def Aj:aV:=⟨15,[(.tmp 2)],vJ⟩
theorem HW:hJ 176=some Aj:=by kernel_rfl
def wE:aE:=(LS [LO 1 (.box (LT 0)),LO 2 (.mv (.const (.string ⟨#[]⟩)))] (LS [LO 4 (LA 1 1),LO 5 (LL 4),LO 6 (.call 212 [(LT 5)]),LM 3 6] (.seq (LS [LO 7 (LA 0 1),LO 8 (LL 7)] (.cond (LT 8) (.dY [LM 9 3,LO 10 (.bin .add (.const (.string ⟨#[45]⟩)) (LT 9)),LM 3 10]) .skip)) (.seq (LS [LO 11 (LA 2 1),LO 12 (LL 11),LO 13 (.lit [(.int .i64 0)] 1 [(0,(LI 1))]),LO 14 (.call 178 [(LT 12),(LT 13)]),LO 15 (.bin .neq (LT 14) (LI 0))] (.cond (LT 15) (.dY [LM 16 3,LO 17 (LA 2 1),LO 18 (LL 17),LO 19 (.call 212 [(LT 18)]),LO 20 (.bin .add (.const (.string ⟨#[47]⟩)) (LT 19)),LO 21 (.bin .add (LT 16) (LT 20)),LM 3 21]) .skip)) (LS [LM 22 3,LM 2 22] .ret)))))
def An:aV:=⟨23,[(.tmp 2)],wE⟩
theorem Iu:hJ 163=some An:=by kernel_rfl
def rQ:aE:=(.seq (LS [LM 7 1,LO 8 (.bin .gtr (LT 7) (LI 0))] (.cond (LT 8) .skip (.exit 0))) (.seq (.block 1 (.dY [LO 11 (LK 5),LO 12 (LK 2),LO 13 (.call 137 [(LT 11),(LT 12)]),LN (.store 3 (LT 5) (LT 13))])) (.dY [LM 9 1,LO 10 (.bin .sub (LT 9) (LI 1)),LM 1 10])))
def Aw:aE:=(LS [LO 2 (.box (LT 0)),LO 4 (.new [(.bool false),(.slice none 0 0),(.slice none 0 0)])] (LS [LO 6 (.call 124 []),LO 5 (.new [(.bool false),(.slice none 0 0),(.slice none 0 0)]),LN (.store 3 (LT 5) (LT 6))] (.seq (.block 0 (.loop rQ)) (LS [LO 14 (LK 5),LN (.store 3 (LT 4) (LT 14))] .ret))))
def CU:aV:=⟨15,[(.cell 4 true 3)],Aw⟩
theorem Hz:hJ 198=some CU:=by kernel_rfl
def vZ:aE:=(.seq (LS [LM 7 1,LO 8 (.len (LT 7)),LO 9 (.bin .gtr (LT 8) (LI 0))] (.cond (LT 9) .skip (.exit 0))) (.block 1 (LS [LM 11 0,LM 12 1,LO 13 (.call 214 [(LT 11),(LT 12)]),LM 10 13,LO 14 (LX 10 0),LO 15 (LX 10 1),LM 5 14,LM 6 15] (LS [LM 16 1,LM 0 16] (.dY [LM 17 6,LM 1 17])))))
def CF:aE:=(LS [LO 4 (.mv (.const (.slice none 0 0)))] (.seq (.block 0 (.loop vZ)) (LS [LM 18 0,LM 4 18] .ret)))
def GX:aV:=⟨19,[(.tmp 4)],CF⟩
theorem Ka:hJ 213=some GX:=by kernel_rfl
def fC:aE:=(.seq (LS [LM 132 19,LO 133 (.bin .geq (LT 132) (LI 1000000000)),LM 134 133,LZ 134 135 (.mv (LT 19)),LZ 134 136 (.mv (LT 14)),LZ 134 137 (.mv (LT 15)),LZ 134 138 (.bin .sub (LT 137) (LI 2)),LZ 134 139 (.iaddr 1 (LT 136) (LT 138)),LZ 134 140 (LL 139),LZ 134 141 (.bin .mul (LT 135) (LT 140)),LZ 134 142 (.mv (LT 20)),LZ 134 143 (.bin .mul (LT 142) (LI 1000000000)),LZ 134 144 (.mv (LT 13)),LZ 134 145 (.mv (LT 17)),LZ 134 146 (.mv (LT 15)),LZ 134 147 (.bin .add (LT 145) (LT 146)),LZ 134 148 (.bin .sub (LT 147) (LI 2)),LZ 134 149 (.iaddr 1 (LT 144) (LT 148)),LZ 134 150 (LL 149),LZ 134 151 (.bin .add (LT 143) (LT 150)),LZ 134 152 (.bin .gtr (LT 141) (LT 151)),LO 153 (.pick (LT 134) LG (LT 152))] (.cond (LT 153) .skip (.exit 2))) (.block 3 (LS [LM 154 19,LO 155 (.bin .sub (LT 154) (LI 1)),LM 19 155] (LS [LM 156 20,LM 157 14,LM 158 15,LO 159 (.bin .sub (LT 158) (LI 1)),LO 160 (.iaddr 1 (LT 157) (LT 159)),LO 161 (LL 160),LO 162 (.bin .add (LT 156) (LT 161)),LM 20 162] (LS [LM 163 20,LO 164 (.bin .geq (LT 163) (LI 1000000000))] (.cond (LT 164) (.exit 2) .skip))))))
def gV:aE:=(.seq (LS [LM 99 17,LO 100 (.bin .geq (LT 99) (LI 0))] (.cond (LT 100) .skip (.exit 0))) (.seq (.block 1 (LS [LM 103 13,LM 104 17,LM 105 15,LO 106 (.bin .add (LT 104) (LT 105)),LO 107 (.iaddr 1 (LT 103) (LT 106)),LO 108 (LL 107),LO 109 (.bin .mul (LT 108) (LI 1000000000)),LM 110 13,LM 111 17,LM 112 15,LO 113 (.bin .add (LT 111) (LT 112)),LO 114 (.bin .sub (LT 113) (LI 1)),LO 115 (.iaddr 1 (LT 110) (LT 114)),LO 116 (LL 115),LO 117 (.bin .add (LT 109) (LT 116)),LM 18 117] (LS [LM 118 18,LM 119 14,LM 120 15,LO 121 (.bin .sub (LT 120) (LI 1)),LO 122 (.iaddr 1 (LT 119) (LT 121)),LO 123 (LL 122),LO 124 (.bin .quo (LT 118) (LT 123)),LM 125 18,LM 126 14,LM 127 15,LO 128 (.bin .sub (LT 127) (LI 1)),LO 129 (.iaddr 1 (LT 126) (LT 128)),LO 130 (LL 129),LO 131 (.bin .rem (LT 125) (LT 130)),LM 19 124,LM 20 131] (.seq (.block 2 (.loop fC)) (.seq (LS [LM 165 13,LM 166 14,LM 167 17,LM 168 19,LO 169 (.call 239 [(LT 165),(LT 166),(LT 167),(LT 168)])] (.cond (LT 169) (LS [LM 170 19,LO 171 (.bin .sub (LT 170) (LI 1)),LM 19 171] (.dY [LM 172 13,LM 173 14,LM 174 17,LO 175 (.call 240 [(LT 172),(LT 173),(LT 174)])])) .skip)) (.dY [LM 176 16,LM 177 17,LM 178 19,LO 179 (.iaddr 1 (LT 176) (LT 177)),LN (.store 1 (LT 179) (LT 178))])))))) (.dY [LM 101 17,LO 102 (.bin .sub (LT 101) (LI 1)),LM 17 102])))
def cW:aE:=(LS [LO 4 (.mv (.const (.slice none 0 0))),LO 5 (.mv (.const (.slice none 0 0)))] (LS [LM 24 0,LO 25 (.call 236 [(LT 24)]),LM 23 25,LO 26 (LX 23 0),LO 27 (LX 23 1),LM 6 26,LM 7 27] (LS [LM 29 1,LO 30 (.call 236 [(LT 29)]),LM 28 30,LO 31 (LX 28 0),LO 32 (LX 28 1),LM 8 31,LM 9 32] (.seq (LS [LM 33 7,LM 34 33,LY 34 35 (.mv (LT 9)),LO 36 (.pick (LT 34) (LT 35) LF)] (.cond (LT 36) (LS [LM 37 6,LM 38 8,LO 39 (.bin .quo (LT 37) (LT 38)),LQ 40 (.call 161 [(LT 39)]),LM 41 6,LM 42 8,LO 43 (.bin .rem (LT 41) (LT 42)),LQ 44 (.call 161 [(LT 43)]),LM 4 40,LM 5 44] .ret) .skip)) (.seq (LS [LM 45 0,LM 46 1,LO 47 (.call 178 [(LT 45),(LT 46)]),LO 48 (.bin .lss (LT 47) (LI 0))] (.cond (LT 48) (LS [LO 49 (.lit [(.int .i64 0)] 0 []),LO 50 (.lit [(.int .i64 0)] 0 []),LM 51 0,LO 52 (.app 1 8 (LT 50) (LT 51)),LM 4 49,LM 5 52] .ret) .skip)) (.seq (LS [LM 53 1,LO 54 (.len (LT 53)),LO 55 (.bin .eql (LT 54) (LI 1))] (.cond (LT 55) (LS [LM 57 0,LM 58 1,LO 59 (.iaddr 1 (LT 58) (LI 0)),LO 60 (LL 59),LO 61 (.call 237 [(LT 57),(LT 60)]),LM 56 61,LO 62 (LX 56 0),LO 63 (LX 56 1),LM 10 62,LM 11 63] (LS [LM 64 10,LM 65 11,LO 66 (.call 161 [(LT 65)]),LM 4 64,LM 5 66] .ret)) .skip)) (LS [LM 67 1,LM 68 1,LO 69 (.len (LT 68)),LO 70 (.bin .sub (LT 69) (LI 1)),LO 71 (.iaddr 1 (LT 67) (LT 70)),LO 72 (LL 71),LO 73 (.bin .add (LT 72) (LI 1)),LO 74 (.bin .quo (LI 1000000000) (LT 73)),LM 12 74] (LS [LM 75 0,LO 76 (.len (LT 75)),LO 77 (.bin .add (LT 76) (LI 1)),LO 78 (.make [(.int .i64 0)] 8 (LT 77) (LT 77)),LM 13 78] (LS [LM 79 13,LM 80 0,LM 81 12,LO 82 (.call 238 [(LT 80),(LT 81)]),LO 83 (.copy 1 (LT 79) (LT 82))] (LS [LM 84 1,LM 85 12,LO 86 (.call 238 [(LT 84),(LT 85)]),LM 14 86] (LS [LM 87 14,LO 88 (.len (LT 87)),LM 15 88] (LS [LM 89 13,LO 90 (.len (LT 89)),LM 91 15,LO 92 (.bin .sub (LT 90) (LT 91)),LO 93 (.make [(.int .i64 0)] 8 (LT 92) (LT 92)),LM 16 93] (.seq (LS [LM 94 13,LO 95 (.len (LT 94)),LM 96 15,LO 97 (.bin .sub (LT 95) (LT 96)),LO 98 (.bin .sub (LT 97) (LI 1)),LM 17 98] (.block 0 (.loop gV))) (LS [LM 181 13,LO 182 (.call 211 [(LT 181)]),LM 183 12,LO 184 (.call 237 [(LT 182),(LT 183)]),LM 180 184,LO 185 (LX 180 0),LO 186 (LX 180 1),LM 21 185,LM 22 186] (LS [LM 187 16,LO 188 (.call 211 [(LT 187)]),LM 189 21,LM 4 188,LM 5 189] .ret)))))))))))))))
def dZ:aV:=⟨190,[(.tmp 4),(.tmp 5)],cW⟩
theorem E1:hJ 214=some dZ:=by kernel_rfl
def oQ:aE:=(.seq (LS [LM 3 0,LO 4 (.len (LT 3)),LO 5 (.bin .gtr (LT 4) (LI 0)),LM 6 5,LY 6 7 (.mv (LT 0)),LY 6 8 (.mv (LT 0)),LY 6 9 (.len (LT 8)),LY 6 10 (.bin .sub (LT 9) (LI 1)),LY 6 11 (.iaddr 1 (LT 7) (LT 10)),LY 6 12 (LL 11),LY 6 13 (.bin .eql (LT 12) (LI 0)),LO 14 (.pick (LT 6) (LT 13) LF)] (.cond (LT 14) .skip (.exit 0))) (.block 1 (.dY [LM 15 0,LM 16 0,LO 17 (.len (LT 16)),LO 18 (.bin .sub (LT 17) (LI 1)),LO 19 (.sub 1 (LT 15) none (some (LT 18)) none),LM 0 19])))
def BJ:aE:=(LS [LO 2 (.mv (.const (.slice none 0 0)))] (.seq (.block 0 (.loop oQ)) (LS [LM 20 0,LM 2 20] .ret)))
def Ep:aV:=⟨21,[(.tmp 2)],BJ⟩
theorem IN:hJ 211=some Ep:=by kernel_rfl
def tF:aE:=(LS [LO 4 (.mv (LI 0))] (.seq (LS [LM 5 1,LM 6 0,LO 7 (.len (LT 6)),LO 8 (.bin .lss (LT 5) (LT 7))] (.cond (LT 8) (LS [LM 9 0,LM 10 1,LO 11 (.iaddr 1 (LT 9) (LT 10)),LO 12 (LL 11),LM 4 12] .ret) .skip)) (LS [LO 4 (.mv (LI 0))] .ret)))
def xO:aV:=⟨13,[(.tmp 4)],tF⟩
theorem He:hJ 225=some xO:=by kernel_rfl
def mK:aE:=(.seq (LS [LM 9 7,LM 10 0,LO 11 (.slen (LT 10)),LO 12 (.bin .leq (LT 9) (LT 11))] (.cond (LT 12) .skip (.exit 0))) (.seq (.block 1 (LS [LM 15 7,LM 16 0,LO 17 (.slen (LT 16)),LO 18 (.bin .eql (LT 15) (LT 17)),LM 19 18,LZ 19 20 (.mv (LT 0)),LZ 19 21 (.mv (LT 7)),LZ 19 22 (.sidx (LT 20) (LT 21)),LZ 19 23 (.mv (LT 1)),LZ 19 24 (.bin .eql (LT 22) (LT 23)),LO 25 (.pick (LT 19) LG (LT 24))] (.cond (LT 25) (LS [LM 26 5,LM 27 0,LM 28 6,LM 29 7,LO 30 (.ssub (LT 27) (some (LT 28)) (some (LT 29))),LO 31 (.lit [(.string ⟨#[]⟩)] 1 [(0,(LT 30))]),LO 32 (.app 1 16 (LT 26) (LT 31)),LM 5 32] (.dY [LM 33 7,LO 34 (.bin .add (LT 33) (LI 1)),LM 6 34])) .skip))) (.dY [LM 13 7,LO 14 (.bin .add (LT 13) (LI 1)),LM 7 14])))
def CS:aE:=(LS [LO 4 (.mv (.const (.slice none 0 0)))] (LS [LO 8 (.lit [(.string ⟨#[]⟩)] 0 []),LM 5 8] (LS [LO 6 (.mv (LI 0))] (.seq (LS [LO 7 (.mv (LI 0))] (.block 0 (.loop mK))) (LS [LM 35 5,LM 4 35] .ret)))))
def G0:aV:=⟨36,[(.tmp 4)],CS⟩
theorem Kb:hJ 222=some G0:=by kernel_rfl
def cZ:aE:=(.seq (LS [LM 4 3,LM 5 0,LO 6 (.slen (LT 5)),LO 7 (.bin .lss (LT 4) (LT 6))] (.cond (LT 7) .skip (.exit 0))) (.seq (.block 1 (LS [LM 10 0,LM 11 3,LO 12 (.sidx (LT 10) (LT 11)),LO 13 (.bin .lss (LT 12) (.const (.int .u8 48))),LM 14 13,LZ 14 15 (.mv (LT 0)),LZ 14 16 (.mv (LT 3)),LZ 14 17 (.sidx (LT 15) (LT 16)),LZ 14 18 (.bin .gtr (LT 17) (.const (.int .u8 57))),LO 19 (.pick (LT 14) LG (LT 18))] (.cond (LT 19) (LS [LO 2 (.mv LF)] .ret) .skip))) (.dY [LM 8 3,LO 9 (.bin .add (LT 8) (LI 1)),LM 3 9])))
def yV:aE:=(LS [LO 2 (.mv LF)] (.seq (LS [LO 3 (.mv (LI 0))] (.block 0 (.loop cZ))) (LS [LM 20 0,LO 21 (.slen (LT 20)),LO 22 (.bin .geq (LT 21) (LI 1)),LM 23 22,LY 23 24 (.mv (LT 0)),LY 23 25 (.slen (LT 24)),LY 23 26 (.bin .leq (LT 25) (LI 200)),LO 27 (.pick (LT 23) (LT 26) LF),LM 28 27,LY 28 29 (.mv (LT 0)),LY 28 30 (.slen (LT 29)),LY 28 31 (.bin .eql (LT 30) (LI 1)),LY 28 32 (.mv (LT 31)),LZ 32 33 (.mv (LT 0)),LZ 32 34 (.sidx (LT 33) (LI 0)),LZ 32 35 (.bin .neq (LT 34) (.const (.int .u8 48))),LY 28 36 (.pick (LT 32) LG (LT 35)),LO 37 (.pick (LT 28) (LT 36) LF),LM 2 37] .ret)))
def Bk:aV:=⟨38,[(.tmp 2)],yV⟩
theorem Gc:hJ 223=some Bk:=by kernel_rfl
def lB:aE:=(.seq (LS [LM 20 7,LM 21 4,LO 22 (.bin .lss (LT 20) (LT 21))] (.cond (LT 22) .skip (.exit 2))) (.seq (.block 3 (.dY [LM 25 6,LO 26 (.bin .mul (LI 10) (LT 25)),LM 27 0,LM 28 7,LO 29 (.sidx (LT 27) (LT 28)),LO 30 (.bin .sub (LT 29) (.const (.int .u8 48))),LO 31 (.cvt .i64 (LT 30)),LO 32 (.bin .add (LT 26) (LT 31)),LM 6 32])) (.dY [LM 23 7,LO 24 (.bin .add (LT 23) (LI 1)),LM 7 24])))
def kZ:aE:=(.seq (LS [LM 11 4,LO 12 (.bin .gtr (LT 11) (LI 0))] (.cond (LT 12) .skip (.exit 0))) (.seq (.block 1 (LS [LO 5 (.mv (LI 0))] (.seq (LS [LM 15 4,LO 16 (.bin .gtr (LT 15) (LI 9))] (.cond (LT 16) (.dY [LM 17 4,LO 18 (.bin .sub (LT 17) (LI 9)),LM 5 18]) .skip)) (LS [LO 6 (.mv (LI 0))] (.seq (LS [LM 19 5,LM 7 19] (.block 2 (.loop lB))) (.dY [LM 33 3,LM 34 6,LO 35 (.lit [(.int .i64 0)] 1 [(0,(LT 34))]),LO 36 (.app 1 8 (LT 33) (LT 35)),LM 3 36])))))) (.dY [LM 13 4,LO 14 (.bin .sub (LT 13) (LI 9)),LM 4 14])))
def wV:aE:=(LS [LO 2 (.mv (.const (.slice none 0 0)))] (LS [LO 8 (.lit [(.int .i64 0)] 0 []),LM 3 8] (.seq (LS [LM 9 0,LO 10 (.slen (LT 9)),LM 4 10] (.block 0 (.loop kZ))) (LS [LM 37 3,LO 38 (.call 211 [(LT 37)]),LM 2 38] .ret))))
def AB:aV:=⟨39,[(.tmp 2)],wV⟩
theorem Et:hJ 224=some AB:=by kernel_rfl
def oX:aE:=(.seq (LS [LM 19 4,LO 20 (.bin .geq (LT 19) (LI 0))] (.cond (LT 20) .skip (.exit 0))) (.seq (.block 1 (LS [LM 23 0,LM 24 4,LO 25 (.iaddr 1 (LT 23) (LT 24)),LO 26 (LL 25),LO 27 (.bin .add (LT 26) (LI 1000000000)),LO 28 (.call 235 [(LT 27)]),LM 5 28] (.dY [LM 29 3,LM 30 5,LO 31 (.ssub (LT 30) (some (LI 1)) none),LO 32 (.bin .add (LT 29) (LT 31)),LM 3 32]))) (.dY [LM 21 4,LO 22 (.bin .sub (LT 21) (LI 1)),LM 4 22])))
def pU:aE:=(LS [LO 2 (.mv (.const (.string ⟨#[]⟩)))] (.seq (LS [LM 6 0,LO 7 (.len (LT 6)),LO 8 (.bin .eql (LT 7) (LI 0))] (.cond (LT 8) (LS [LO 2 (.mv (.const (.string ⟨#[48]⟩)))] .ret) .skip)) (LS [LM 9 0,LM 10 0,LO 11 (.len (LT 10)),LO 12 (.bin .sub (LT 11) (LI 1)),LO 13 (.iaddr 1 (LT 9) (LT 12)),LO 14 (LL 13),LO 15 (.call 235 [(LT 14)]),LM 3 15] (.seq (LS [LM 16 0,LO 17 (.len (LT 16)),LO 18 (.bin .sub (LT 17) (LI 2)),LM 4 18] (.block 0 (.loop oX))) (LS [LM 33 3,LM 2 33] .ret)))))
def sZ:aV:=⟨34,[(.tmp 2)],pU⟩
theorem D5:hJ 212=some sZ:=by kernel_rfl
def tD:aE:=(LS [LO 2 (.mv (LI 0)),LO 3 (.mv LF)] (.seq (LS [LM 4 0,LO 5 (.len (LT 4)),LO 6 (.bin .gtr (LT 5) (LI 2))] (.cond (LT 6) (LS [LO 2 (.mv (LI 0)),LO 3 (.mv LF)] .ret) .skip)) (LS [LM 7 0,LO 8 (.call 225 [(LT 7),(LI 0)]),LM 9 0,LO 10 (.call 225 [(LT 9),(LI 1)]),LO 11 (.bin .mul (LI 1000000000) (LT 10)),LO 12 (.bin .add (LT 8) (LT 11)),LM 2 12,LO 3 (.mv LG)] .ret)))
def xS:aV:=⟨13,[(.tmp 2),(.tmp 3)],tD⟩
theorem Hh:hJ 236=some xS:=by kernel_rfl
def nR:aE:=(.seq (LS [LM 16 8,LO 17 (.bin .geq (LT 16) (LI 0))] (.cond (LT 17) .skip (.exit 0))) (.seq (.block 1 (LS [LM 20 7,LO 21 (.bin .mul (LT 20) (LI 1000000000)),LM 22 0,LM 23 8,LO 24 (.iaddr 1 (LT 22) (LT 23)),LO 25 (LL 24),LO 26 (.bin .add (LT 21) (LT 25)),LM 9 26] (LS [LM 27 6,LM 28 8,LM 29 9,LM 30 1,LO 31 (.bin .quo (LT 29) (LT 30)),LO 32 (.iaddr 1 (LT 27) (LT 28)),LN (.store 1 (LT 32) (LT 31))] (.dY [LM 33 9,LM 34 1,LO 35 (.bin .rem (LT 33) (LT 34)),LM 7 35])))) (.dY [LM 18 8,LO 19 (.bin .sub (LT 18) (LI 1)),LM 8 19])))
def vL:aE:=(LS [LO 4 (.mv (.const (.slice none 0 0))),LO 5 (.mv (LI 0))] (LS [LM 10 0,LO 11 (.len (LT 10)),LO 12 (.make [(.int .i64 0)] 8 (LT 11) (LT 11)),LM 6 12] (LS [LO 7 (.mv (LI 0))] (.seq (LS [LM 13 0,LO 14 (.len (LT 13)),LO 15 (.bin .sub (LT 14) (LI 1)),LM 8 15] (.block 0 (.loop nR))) (LS [LM 36 6,LO 37 (.call 211 [(LT 36)]),LM 38 7,LM 4 37,LM 5 38] .ret)))))
def zA:aV:=⟨39,[(.tmp 4),(.tmp 5)],vL⟩
theorem Dm:hJ 237=some zA:=by kernel_rfl
def jR:aE:=(LS [LO 17 (.bin .lss (LT 16) (LT 15))] (.seq (.cond (LT 17) .skip (.exit 0)) (.seq (.block 1 (LS [LO 18 (.iaddr 1 (LT 14) (LT 16)),LO 19 (LL 18),LM 8 19] (LS [LM 20 8,LM 21 1,LO 22 (.bin .mul (LT 20) (LT 21)),LM 23 6,LO 24 (.bin .add (LT 22) (LT 23)),LM 9 24] (LS [LM 25 5,LM 26 9,LO 27 (.bin .rem (LT 26) (LI 1000000000)),LO 28 (.lit [(.int .i64 0)] 1 [(0,(LT 27))]),LO 29 (.app 1 8 (LT 25) (LT 28)),LM 5 29] (.dY [LM 30 9,LO 31 (.bin .quo (LT 30) (LI 1000000000)),LM 6 31]))))) (.dY [LO 32 (.bin .add (LT 16) (LI 1)),LM 16 32]))))
def vY:aE:=(LS [LO 4 (.mv (.const (.slice none 0 0)))] (LS [LM 10 0,LO 11 (.len (LT 10)),LO 12 (.bin .add (LT 11) (LI 1)),LO 13 (.make [(.int .i64 0)] 8 (LI 0) (LT 12)),LM 5 13] (LS [LO 6 (.mv (LI 0))] (.seq (LS [LM 14 0,LO 15 (.len (LT 14)),LO 16 (.mv (LI 0))] (.block 0 (.loop jR))) (.seq (LS [LM 33 6,LO 34 (.bin .gtr (LT 33) (LI 0))] (.cond (LT 34) (.dY [LM 35 5,LM 36 6,LO 37 (.lit [(.int .i64 0)] 1 [(0,(LT 36))]),LO 38 (.app 1 8 (LT 35) (LT 37)),LM 5 38]) .skip)) (LS [LM 39 5,LM 4 39] .ret))))))
def zG:aV:=⟨40,[(.tmp 4)],vY⟩
theorem Ds:hJ 238=some zG:=by kernel_rfl
def iV:aE:=(LS [LO 16 (.bin .lss (LT 15) (LT 14))] (.seq (.cond (LT 16) .skip (.exit 0)) (.seq (.block 1 (LS [LM 17 15,LO 18 (.iaddr 1 (LT 13) (LT 15)),LO 19 (LL 18),LM 10 17,LM 11 19] (LS [LM 20 0,LM 21 2,LM 22 10,LO 23 (.bin .add (LT 21) (LT 22)),LO 24 (.iaddr 1 (LT 20) (LT 23)),LO 25 (LL 24),LM 26 11,LM 27 3,LO 28 (.bin .mul (LT 26) (LT 27)),LO 29 (.bin .rem (LT 28) (LI 1000000000)),LO 30 (.bin .sub (LT 25) (LT 29)),LM 31 9,LO 32 (.bin .sub (LT 30) (LT 31)),LM 12 32] (LS [LM 33 11,LM 34 3,LO 35 (.bin .mul (LT 33) (LT 34)),LO 36 (.bin .quo (LT 35) (LI 1000000000)),LM 9 36] (.seq (LS [LM 37 12,LO 38 (.bin .lss (LT 37) (LI 0))] (.cond (LT 38) (LS [LM 39 12,LO 40 (.bin .add (LT 39) (LI 1000000000)),LM 12 40] (LS [LM 41 9,LO 42 (.bin .add (LT 41) (LI 1)),LM 9 42] (LS [LM 43 12,LO 44 (.bin .lss (LT 43) (LI 0))] (.cond (LT 44) (LS [LM 45 12,LO 46 (.bin .add (LT 45) (LI 1000000000)),LM 12 46] (.dY [LM 47 9,LO 48 (.bin .add (LT 47) (LI 1)),LM 9 48])) .skip)))) .skip)) (.dY [LM 49 0,LM 50 2,LM 51 10,LO 52 (.bin .add (LT 50) (LT 51)),LM 53 12,LO 54 (.iaddr 1 (LT 49) (LT 52)),LN (.store 1 (LT 54) (LT 53))])))))) (.dY [LO 55 (.bin .add (LT 15) (LI 1)),LM 15 55]))))
def xK:aE:=(LS [LO 8 (.mv LF)] (LS [LO 9 (.mv (LI 0))] (.seq (LS [LM 13 1,LO 14 (.len (LT 13)),LO 15 (.mv (LI 0))] (.block 0 (.loop iV))) (LS [LM 56 0,LM 57 2,LM 58 1,LO 59 (.len (LT 58)),LO 60 (.bin .add (LT 57) (LT 59)),LO 61 (.iaddr 1 (LT 56) (LT 60)),LO 62 (LL 61),LM 63 9,LO 64 (.bin .sub (LT 62) (LT 63)),LO 65 (.iaddr 1 (LT 56) (LT 60)),LN (.store 1 (LT 65) (LT 64))] (LS [LM 66 0,LM 67 2,LM 68 1,LO 69 (.len (LT 68)),LO 70 (.bin .add (LT 67) (LT 69)),LO 71 (.iaddr 1 (LT 66) (LT 70)),LO 72 (LL 71),LO 73 (.bin .lss (LT 72) (LI 0)),LM 8 73] .ret)))))
def Az:aV:=⟨74,[(.tmp 8)],xK⟩
theorem DS:hJ 239=some Az:=by kernel_rfl
def oY:aE:=(LS [LO 13 (.bin .lss (LT 12) (LT 11))] (.seq (.cond (LT 13) .skip (.exit 0)) (.seq (.block 1 (LS [LM 14 12,LO 15 (.iaddr 1 (LT 10) (LT 12)),LO 16 (LL 15),LM 7 14,LM 8 16] (LS [LM 17 0,LM 18 2,LM 19 7,LO 20 (.bin .add (LT 18) (LT 19)),LO 21 (.iaddr 1 (LT 17) (LT 20)),LO 22 (LL 21),LM 23 8,LO 24 (.bin .add (LT 22) (LT 23)),LM 25 6,LO 26 (.bin .add (LT 24) (LT 25)),LM 9 26] (LS [LM 27 9,LO 28 (.bin .quo (LT 27) (LI 1000000000)),LM 6 28] (.dY [LM 29 0,LM 30 2,LM 31 7,LO 32 (.bin .add (LT 30) (LT 31)),LM 33 9,LO 34 (.bin .rem (LT 33) (LI 1000000000)),LO 35 (.iaddr 1 (LT 29) (LT 32)),LN (.store 1 (LT 35) (LT 34))]))))) (.dY [LO 36 (.bin .add (LT 12) (LI 1)),LM 12 36]))))
def xE:aE:=(LS [LO 6 (.mv (LI 0))] (.seq (LS [LM 10 1,LO 11 (.len (LT 10)),LO 12 (.mv (LI 0))] (.block 0 (.loop oY))) (.dY [LM 37 0,LM 38 2,LM 39 1,LO 40 (.len (LT 39)),LO 41 (.bin .add (LT 38) (LT 40)),LO 42 (.iaddr 1 (LT 37) (LT 41)),LO 43 (LL 42),LM 44 6,LO 45 (.bin .add (LT 43) (LT 44)),LO 46 (.iaddr 1 (LT 37) (LT 41)),LN (.store 1 (LT 46) (LT 45))])))
def AI:aV:=⟨47,[],xE⟩
theorem EC:hJ 240=some AI:=by kernel_rfl
def iQ:aE:=(.seq (LS [LM 8 3,LO 9 (.len (LT 8)),LO 10 (.bin .eql (LT 9) (LI 0)),LM 11 10,LZ 11 12 (.mv (LT 4)),LZ 11 13 (.bin .neq (LT 12) (LI 0)),LO 14 (.pick (LT 11) LG (LT 13))] (.cond (LT 14) .skip (.exit 0))) (.block 1 (LS [LM 15 4,LO 16 (.bin .rem (LT 15) (LI 10)),LM 5 16] (.seq (LS [LM 17 5,LO 18 (.bin .lss (LT 17) (LI 0))] (.cond (LT 18) (.dY [LM 19 5,LO 20 (.un .neg (LT 19)),LM 5 20]) .skip)) (LS [LM 21 5,LO 22 (.bin .add (LI 48) (LT 21)),LO 23 (.cvt .u8 (LT 22)),LO 24 (.lit [(.int .u8 0)] 1 [(0,(LT 23))]),LM 25 3,LO 26 (.app 1 1 (LT 24) (LT 25)),LM 3 26] (.dY [LM 27 4,LO 28 (.bin .quo (LT 27) (LI 10)),LM 4 28]))))))
def CZ:aE:=(LS [LO 2 (.mv (.const (.string ⟨#[]⟩)))] (LS [LO 6 (.lit [(.int .u8 0)] 0 []),LM 3 6] (LS [LM 7 0,LM 4 7] (.seq (.block 0 (.loop iQ)) (.seq (LS [LM 29 0,LO 30 (.bin .lss (LT 29) (LI 0))] (.cond (LT 30) (.dY [LO 31 (.lit [(.int .u8 0)] 1 [(0,(.const (.int .u8 45)))]),LM 32 3,LO 33 (.app 1 1 (LT 31) (LT 32)),LM 3 33]) .skip)) (LS [LM 34 3,LO 35 (.b2s (LT 34)),LM 2 35] .ret))))))
def Gs:aV:=⟨36,[(.tmp 2)],CZ⟩
theorem J8:hJ 235=some Gs:=by kernel_rfl
end Go.PM
namespace Go.PM
section
variable {b:Nat}
theorem F3 (hb:2≤b) (n i:Nat):(aC b n).getD i 0=n / b^i % b:=by
 induction i generalizing n with
 |
  zero =>
  by_cases h:n=0
  ·subst h;simp[bR]
  ·rw[iC hb h,List.getD_cons_zero,Nat.pow_zero,Nat.div_one]
 |
  succ i ih =>
  by_cases h:n=0
  ·subst h;simp[bR]
  ·rw[iC hb h,List.getD_cons_succ,ih,Nat.div_div_eq_div_mul,Nat.pow_succ,Nat.mul_comm b]
theorem Ct (hb:2≤b) {n i:Nat}:i<(aC b n).length↔n / b^i≠0:=by
 induction i generalizing n with
 |
  zero =>
  rw[Nat.pow_zero,Nat.div_one,List.length_pos_iff]
  exact not_congr (jW hb)
 |
  succ i ih =>
  by_cases h:n=0
  ·subst h;simp[bR]
  ·rw[iC hb h,List.length_cons,Nat.add_lt_add_iff_right,ih,Nat.div_div_eq_div_mul,Nat.pow_succ,Nat.mul_comm b]
theorem HT (hb:2≤b) {n i:Nat} (h:i<(aC b n).length):(aC b n)[i]? = some (n / b^i % b):=by
 rw[←F3 hb,List.getD_eq_getElem?_getD,List.getElem?_eq_getElem h]
 rfl
theorem Td (hb:2≤b) (n i:Nat):(aC b n).drop i=aC b (n / b^i):=by
 induction i generalizing n with
 | zero=>simp
 |
  succ i ih =>
  by_cases h:n=0
  ·subst h;simp[bR]
  ·rw[iC hb h,List.drop_succ_cons,ih,Nat.div_div_eq_div_mul,Nat.pow_succ,Nat.mul_comm b]
theorem pR (n i:Nat):n / b^(i+1)=n / b^i / b:=by rw[Nat.div_div_eq_div_mul,Nat.pow_succ]
theorem C4 (xs:List Nat) (i:Nat):val b (xs.take (i+1))=val b (xs.take i)+b^i*xs.getD i 0:=by
 by_cases h:i<xs.length
 ·rw[aU (List.getElem?_eq_getElem h),List.getD_eq_getElem?_getD,List.getElem?_eq_getElem h]
  rfl
 ·rw[iI (by omega),iI (by omega),List.getD_eq_getElem?_getD,List.getElem?_eq_none (by omega)]
  simp
theorem Lm (hb:2≤b) {n d q:Nat} (hn:n≠0) (h:n=d+b*q) (hd:d<b):aC b n=d::aC b q:=by
 rw[iC hb hn,h,Nat.add_mul_mod_self_left,Nat.mod_eq_of_lt hd,Nat.add_mul_div_left _ _ (by omega),Nat.div_eq_of_lt hd,Nat.zero_add]
theorem UB (hb:2≤b) {x y c:Nat} (h:x+y+c≠0):aC b (x+y+c)=(x % b+y % b+c) % b::aC b (x / b+y / b+(x % b+y % b+c) / b):=by
 refine Lm hb h ?_ (Nat.mod_lt _ (by omega))
 have h1:=Nat.mod_add_div x b
 have h2:=Nat.mod_add_div y b
 have h3:=Nat.mod_add_div (x % b+y % b+c) b
 have e:b*(x / b+y / b+(x % b+y % b+c) / b)=b*(x / b)+b*(y / b)+b*((x % b+y % b+c) / b):=by grind
 omega
theorem TX (hb:2≤b) {x d c:Nat} (h:x*d+c≠0):aC b (x*d+c)=(x % b*d+c) % b::aC b (x / b*d+(x % b*d+c) / b):=by
 refine Lm hb h ?_ (Nat.mod_lt _ (by omega))
 have h1:=Nat.mod_add_div x b
 have h3:=Nat.mod_add_div (x % b*d+c) b
 have e:b*(x / b*d+(x % b*d+c) / b)=b*(x / b)*d+b*((x % b*d+c) / b):=by grind
 have e2:x*d=x % b*d+b*(x / b)*d:=by
  conv=>lhs;rw[←h1,Nat.add_mul]
 omega
theorem M3 (hb:2≤b) {m n k:Nat} (hm:(aC b m).length≤k) (hn:(aC b n).length≤k):(aC b (m+n)).length≤k+1:=by
 refine kK hb ?_
 have y1:=fO hb m
 have y2:=fO hb n
 have y3:b^(aC b m).length≤b^k:=Nat.pow_le_pow_right (by omega) hm
 have y4:b^(aC b n).length≤b^k:=Nat.pow_le_pow_right (by omega) hn
 have y5:b^k*2≤b^k*b:=Nat.mul_le_mul_left _ hb
 rw[Nat.pow_succ]
 omega
theorem Mi (hb:2≤b) (m n:Nat):(aC b (m*n)).length≤(aC b m).length+(aC b n).length:=by
 refine kK hb ?_
 rw[Nat.pow_add]
 exact Nat.mul_lt_mul'' (fO hb m) (fO hb n)
theorem BO (hb:2≤b) {c:Nat} (h:c≠0) (hc:c<b):aC b c=[c]:=by
 rw[iC hb h,Nat.mod_eq_of_lt hc,Nat.div_eq_of_lt hc,bR]
end
end Go.PM
namespace Go.PM
abbrev tV (d:Nat):VV:=VI (d:Int)
abbrev gC (ds:List Nat):VV:=bK tV ds
def bM (n:Nat):VV:=gC (aC 1000000000 n)
theorem Dt:∀d:Nat,(aB (tV d)).length=1:=fun _=>rfl
theorem uM (ds:List Nat):aR (gC ds)=true:=jD Dt fun _=>rfl
theorem Ul (ds:List Nat):gJ (gC ds)=true:=Bs Dt (fun _=>rfl) fun _=>rfl
theorem bU (n:Nat):aR (bM n)=true:=uM _
theorem lF (n:Nat):gJ (bM n)=true:=Ul _
theorem E2:bM 0 = .tree [] .op:=by rw[bM,bR];rfl
theorem Wr:bM 1=gC [1]:=by rw[bM,iC (by decide) (by decide),bR]
theorem cK (n:Nat) {H:aA}:oB (bM n) H=some (VI (aC 1000000000 n).length):=dP
section
variable {α:Type} {f:α→VV} {xs:List α} {x:α} {H:aA}
theorem HJ {g e:Nat} {es:List VV} {w:Bool}:aQ [.row g es e w] 0 g=some (es,e,w):=bT
theorem alT {e bytes:Nat} (he:1≤e) (hb:1≤bytes) (BL:(xs.length+1)*bytes≤140737488355328):gE 0 e bytes (.ref 0 xs.length 0 xs.length xs.length) [f x] [.row xs.length (xs.map f) e true]=some (.ref 0 (xs.length+1) 0 (xs.length+1) (xs.length+1),[.row (xs.length+1) ((xs++[x]).map f) e true]):=by
 rw[pH (f:=f) (x:=x) bT rfl (Nat.le_refl _) he hb BL]
 rfl
theorem NW {n g e:Nat} {w:Bool} (hp:∀x,aR (f x)=true) (hn:n=xs.length):fz depth [.row g (xs.map f) e w] (.ref 0 g 0 n n)=some (bK f xs):=DG bT (by simpa using hn) (Nat.le_refl _) (dQ hp)
end
theorem Ic {lr:Bool}:rC lr [.int .i64 0] 0 [] []=some (.ref 0 0 0 0 0,[.row 0 (([]:List Nat).map tV) 1 true]):=oC (H:=[]) rfl
theorem qG {d:Int} {H:aA}:rC false [.int .i64 0] 1 [(0,VI d)] H=some (.tree [VI d] (.cl 1),H):=sS rfl rfl rfl
theorem sI {d:Int} {H:aA} {t:TK}:eW 1 (.tree [VI d] t) H=some [VI d]:=pE rfl rfl
theorem Yu {ds:List Nat} {d:Nat} (h:ds.length<17592186044416):gE 0 1 8 (.ref 0 ds.length 0 ds.length ds.length) [VI (d:Int)] [.row ds.length (ds.map tV) 1 true]=some (.ref 0 (ds.length+1) 0 (ds.length+1) (ds.length+1),[.row (ds.length+1) ((ds++[d]).map tV) 1 true]):=alT (f:=tV) (by decide) (by decide) (by omega)
theorem KF (n:Nat):cX .rem (.int .i64 (n:Int)) (.int .i64 1000000000)=some (.int .i64 ((n % 1000000000:Nat):Int)):=by
 have h2:(n:Int).tmod 1000000000=((n % 1000000000:Nat):Int):=by rw[Int.tmod_eq_emod_of_nonneg (by omega)];simp
 simp only[cX,if_true,h2]
 rfl
theorem Lw (n:Nat) (h:n≤9223372036854775807):cX .quo (.int .i64 (n:Int)) (.int .i64 1000000000)=some (.int .i64 ((n / 1000000000:Nat):Int)):=by
 have h2:(n:Int).tdiv 1000000000=((n / 1000000000:Nat):Int):=by rw[Int.tdiv_eq_ediv_of_nonneg (by omega)];simp
 simp only[cX,if_true,h2]
 rw[wrap64 (by omega) (by omega)]
 rfl
theorem pX (ds:List Nat) (h:∀d∈ds,d<1000000000) (hlen:ds.length≤70368744177664):TC 211 [gC ds] (bM (val 1000000000 ds)):=by
 refine TC.walk ⟨true,false⟩ IN rfl (Nat.le_of_ble_eq_true rfl) (by simp[aJ,uM]) (lF _) ?_
 simp only[Ep,BJ,VX,Nat.reduceEqDiff,Nat.reduceAdd]
 refine aY (fun(xs:List Nat) ρ H'=>(∀d∈xs,d<1000000000)∧val 1000000000 xs=val 1000000000 ds∧xs.length≤ds.length∧H'=[]∧ρ 0=gC xs) (fun s=>s.length) ds ⟨h,rfl,Nat.le_refl _,rfl,rfl⟩ ?_
 rintro xs ρ H' ⟨hx,hv,hl,rfl,h0⟩
 have done:xs.getLast? ≠ some 0→fz depth [] (gC xs)=some (bM (val 1000000000 ds)):=fun eX=>by rw[bM,←hv,Ig (by decide) hx eX];exact aH (uM _)
 rcases Nat.eq_zero_or_pos xs.length with hz | hp
 ·have hxn:xs=[]:=List.length_eq_zero_iff.1 hz
  subst hxn
  simp only[oQ,h0,Int.reduceLT,Int.natCast_zero,dP,List.length_nil,VX,Nat.reduceEqDiff,Nat.reduceAdd]
  exact done (by simp)
 ·obtain⟨m,hm⟩:∃m,xs.length=m+1:=⟨xs.length-1,by omega⟩
  obtain⟨d,hd⟩:∃d,xs[m]? = some d:=⟨_,List.getElem?_eq_getElem (by omega)⟩
  have BV:(0:Int)<((m+1:Nat):Int):=by omega
  have w1:IntKind.i64.wrap (((m+1:Nat):Int)-1)=(m:Int):=by rw[wrap64 (by omega) (by omega)];omega
  have e1:=aM (f:=tV) (t := .op) (H:=[]) (size:=1) (k := .i64) hd rfl
  by_cases Br:(d:Int)=0
  ·have hd1:d=0:=by omega
   subst hd1
   have e2:=Ge (f:=tV) (size:=1) (t := .op) (H:=[]) (k2 := .i64) (xs:=xs) (h:=m) Dt (by omega) (by omega)
   have OH:xs=xs.take m++[0]:=by
    have:=List.take_append_drop m xs
    have h3:=(List.getElem?_eq_some_iff.1 hd)
    rw[List.drop_eq_getElem_cons h3.1,h3.2,List.drop_of_length_le (by omega)] at this
    exact this.symm
   simp only[oQ,h0,hm,BV,w1,e1,e2,Br,dP,VX,Nat.reduceEqDiff,Nat.reduceAdd]
   refine⟨xs.take m,by simp only[List.length_take];omega,fun d hd=>hx d (List.mem_of_mem_take hd),?_,by simp only[List.length_take];omega,by first | rfl | exact⟨rfl,rfl⟩⟩
   rw[←hv]
   conv=>rhs;rw[OH]
   rw[qI]
   simp
  ·simp only[oQ,h0,hm,BV,w1,e1,Br,dP,VX,Nat.reduceEqDiff,Nat.reduceAdd]
   exact done (MM hm hd (by omega))
theorem FT {outs:List Nat} {n g m:Nat} {lo:Nat} {w:Bool} {K:VV→aA→Prop} (hd:∀d∈outs,d<1000000000) (hn:n=outs.length) (hlen:outs.length≤70368744177664) (hm:val 1000000000 outs=m) (hk:K (bM m) (cJ [.row g (outs.map tV) 1 w] [0])) :
  dE 211 [.ref 0 g 0 n n] lo [.row g (outs.map tV) 1 w] K:=by
 subst hm
 rw[TC.Yp (f:=tV) (pX outs hd hlen) bT hn (Nat.le_refl _) Dt (fun _=>rfl) rfl rfl]
 exact hk
theorem NC {H:aA} (n:Nat):fz depth H (bM n)=some (bM n):=aH (bU n)
theorem nZ (n:Int) (h1:n≤9223372036854775807):TC 161 [VI n] (bM n.toNat):=by
 refine TC.walk ⟨true,false⟩ JY rfl (Nat.le_of_ble_eq_true rfl) rfl (lF _) ?_
 simp only[GV,Db,Ic,VX,Nat.reduceEqDiff,Nat.reduceAdd]
 refine aY (fun(s:Int×List Nat) ρ H=>s.1≤9223372036854775807∧H=[.row s.2.length (s.2.map tV) 1 true]∧s.2.length≤63∧s.1.toNat*2^s.2.length≤9223372036854775807∧aC 1000000000 n.toNat=s.2++aC 1000000000 s.1.toNat∧ρ 0=VI s.1∧ρ 3 = .ref 0 s.2.length 0 s.2.length s.2.length) (fun s=>s.1.toNat) (n,[]) ⟨h1,rfl,by simp,by simp only[List.length_nil,Nat.pow_zero,Nat.mul_one];omega,rfl,rfl,rfl⟩ ?_
 rintro⟨m,ds⟩ ρ H ⟨hm,rfl,hl,aX,hd,g0,g3⟩
 simp only at hm hl aX hd g0 g3
 by_cases hp:(0:Int)<m
 ·obtain⟨k,rfl⟩:∃k:Nat,m=(k:Int):=⟨m.toNat,by omega⟩
  rw[Int.toNat_natCast] at aX hd
  have hk0:k≠0:=by omega
  have Gx:ds.length<63:=by
   rcases Nat.lt_or_ge ds.length 63 with h | h
   ·exact h
   ·have e:2^ds.length=9223372036854775808:=by rw[show ds.length=63 by omega]
    rw[e] at aX
    omega
  have r1:=KF k
  have q1:=Lw k (by omega)
  have a1:=Yu (ds:=ds) (d:=k % 1000000000) (by omega)
  simp only[uQ,g0,g3,hp,r1,q1,qG,sI,a1,VX,Nat.reduceEqDiff,Nat.reduceAdd]
  refine⟨(((k / 1000000000:Nat):Int),ds++[k % 1000000000]),?_,by simp only;omega,by simp,by simp;omega,?_,?_,rfl,by simp⟩
  ·simp only[Int.toNat_natCast];exact Nat.div_lt_self (by omega) (by decide)
  ·simp only[Int.toNat_natCast,List.length_append,List.length_singleton,Nat.pow_succ]
   have h1:k / 1000000000*2≤k:=by omega
   have:=Nat.mul_le_mul_right (2^ds.length) h1
   rw[Nat.mul_assoc,Nat.mul_comm 2] at this
   omega
  ·simp only[Int.toNat_natCast]
   rw[hd,iC (by decide) hk0,List.append_assoc]
   rfl
 ·have hz:m.toNat=0:=by omega
  rw[hz,bR,List.append_nil] at hd
  simp only[uQ,g0,g3,hp,VX,Nat.reduceEqDiff,Nat.reduceAdd]
  rw[bM,hd]
  exact NW (fun _=>rfl) rfl
theorem sD (a b:Nat) (ha:(aC 1000000000 a).length≤17592186044416) (hb:(aC 1000000000 b).length≤17592186044416):TC 178 [bM a,bM b] (VI (eE a b)):=by
 refine TC.walk ⟨true,false⟩ JH rfl (Nat.le_of_ble_eq_true rfl) (by simp[aJ,bU]) rfl ?_
 have fin:∀ {x:Int},x=eE a b→fz depth [] (VI x)=some (VI (eE a b)):=fun h=>by rw[h];exact aH rfl
 unfold bM gC
 by_cases hl:(((aC 1000000000 a).length:Nat):Int)=(((aC 1000000000 b).length:Nat):Int)
 ·have A8:(aC 1000000000 a).length=(aC 1000000000 b).length:=by omega
  have w1:IntKind.i64.wrap ((((aC 1000000000 b).length:Nat):Int)-1)=(((aC 1000000000 b).length:Nat):Int)-1:=wrap64 (by omega) (by omega)
  simp only[xF,rY,hl,w1,VX,Nat.reduceEqDiff,Nat.reduceAdd]
  refine aY (fun(j:Nat) ρ H=>j≤(aC 1000000000 b).length∧H=[]∧(aC 1000000000 a).drop j=(aC 1000000000 b).drop j∧ρ 0=bK tV (aC 1000000000 a)∧ρ 1=bK tV (aC 1000000000 b)∧ρ 5=VI ((j:Int)-1)) (fun j=>j) (aC 1000000000 b).length ⟨Nat.le_refl _,rfl,by rw[List.drop_length,←A8,List.drop_length],rfl,rfl,rfl⟩ ?_
  rintro j ρ H ⟨hj,rfl,hd,h0,h1,h5⟩
  by_cases hz:(0:Int)≤(j:Int)-1
  ·obtain⟨i,rfl⟩:∃i,j=i+1:=⟨j-1,by omega⟩
   obtain⟨x,hx⟩:∃x,(aC 1000000000 a)[i]? = some x:=⟨_,List.getElem?_eq_getElem (by omega)⟩
   obtain⟨y,hy⟩:∃y,(aC 1000000000 b)[i]? = some y:=⟨_,List.getElem?_eq_getElem (by omega)⟩
   have J0:((i+1:Nat):Int)-1=(i:Int):=by omega
   have e1:=aM (f:=tV) (t := .op) (H:=[]) (size:=1) (k := .i64) hx rfl
   have e2:=aM (f:=tV) (t := .op) (H:=[]) (size:=1) (k := .i64) hy rfl
   rw[J0] at h5 hz
   have w2:IntKind.i64.wrap ((i:Int)-1)=(i:Int)-1:=wrap64 (by omega) (by omega)
   by_cases AA:(x:Int)=(y:Int)
   ·simp only[mT,h0,h1,h5,hz,e1,e2,AA,w2,VX,Nat.reduceEqDiff,Nat.reduceAdd]
    have aaV:x=y:=by omega
    subst aaV
    refine⟨i,by omega,by omega,?_⟩
    obtain⟨g1,g2⟩:=List.getElem?_eq_some_iff.1 hx
    obtain⟨g3,g4⟩:=List.getElem?_eq_some_iff.1 hy
    rw[List.drop_eq_getElem_cons g1,List.drop_eq_getElem_cons g3,g2,g4,hd]
    exact⟨rfl,rfl⟩
   ·by_cases aX:(x:Int)<(y:Int)
    ·simp only[mT,h0,h1,h5,hz,e1,e2,AA,aX,VX,Nat.reduceEqDiff,Nat.reduceAdd]
     refine fin ?_
     have:=BZ (eG (by decide) a) A8 hx hy hd (by omega)
     rw[bW (by decide),bW (by decide)] at this
     simp[eE,this]
    ·simp only[mT,h0,h1,h5,hz,e1,e2,AA,aX,VX,Nat.reduceEqDiff,Nat.reduceAdd]
     refine fin ?_
     have:=BZ (eG (by decide) b) A8.symm hy hx hd.symm (by omega)
     rw[bW (by decide),bW (by decide)] at this
     rw[eE,if_neg (by omega),if_neg (by omega)]
  ·have Qv:j=0:=by omega
   subst Qv
   simp only[mT,h0,h1,h5,hz,VX,Nat.reduceEqDiff,Nat.reduceAdd]
   refine fin ?_
   have:=Nr (b:=1000000000) (by decide) (by simpa using hd)
   subst this
   simp[eE]
 ·by_cases aX:(((aC 1000000000 a).length:Nat):Int)<(((aC 1000000000 b).length:Nat):Int)
  ·simp only[xF,rY,hl,aX,VX,Nat.reduceEqDiff,Nat.reduceAdd]
   refine fin ?_
   have:=B8 (b:=1000000000) (by decide) (m:=a) (n:=b) (by omega)
   simp[eE,this]
  ·simp only[xF,rY,hl,aX,VX,Nat.reduceEqDiff,Nat.reduceAdd]
   refine fin ?_
   have:=B8 (b:=1000000000) (by decide) (m:=b) (n:=a) (by omega)
   rw[eE,if_neg (by omega),if_neg (by omega)]
theorem HA (ds:List Nat) (i:Nat):TC 225 [gC ds,VI (i:Int)] (tV (ds.getD i 0)):=by
 refine TC.walk ⟨true,false⟩ He rfl (Nat.le_of_ble_eq_true rfl) (by simp[aJ,uM];rfl) rfl ?_
 by_cases h:(i:Int)<(ds.length:Int)
 ·obtain⟨d,hd⟩:∃d,ds[i]? = some d:=⟨_,List.getElem?_eq_getElem (by omega)⟩
  have e1:=aM (f:=tV) (t := .op) (H:=[]) (size:=1) (k := .i64) hd rfl
  simp only[xO,tF,dP,h,e1,VX,Nat.reduceEqDiff,Nat.reduceAdd]
  rw[List.getD_eq_getElem?_getD,hd]
  exact aH rfl
 ·simp only[xO,tF,dP,h,VX,Nat.reduceEqDiff,Nat.reduceAdd]
  rw[List.getD_eq_getElem?_getD,List.getElem?_eq_none (by omega)]
  exact aH rfl
theorem Bn (n i:Nat):TC 225 [bM n,VI (i:Int)] (tV (n / 1000000000^i % 1000000000)):=by
 have:=HA (aC 1000000000 n) i
 rwa [F3 (by decide)] at this
theorem Fw (a b:Nat) (ha:(aC 1000000000 a).length<17592186044416) (hb:(aC 1000000000 b).length<17592186044416):TC 177 [bM a,bM b] (bM (a+b)):=by
 refine TC.walk ⟨true,false⟩ FX rfl (Nat.le_of_ble_eq_true rfl) (by simp[aJ,bU]) (lF _) ?_
 simp only[Bt,yM,Ic,VX,Nat.reduceEqDiff,Nat.reduceAdd]
 have hL:=M3 (b:=1000000000) (by decide) (m:=a) (n:=b) (k:=17592186044416-1) (by omega) (by omega)
 refine aY (fun(s:Nat×List Nat×Nat) ρ H=>s.1=s.2.1.length∧H=[.row s.2.1.length (s.2.1.map tV) 1 true]∧s.2.2≤1∧aC 1000000000 (a+b)=s.2.1++aC 1000000000 (a / 1000000000^s.1+b / 1000000000^s.1+s.2.2)∧ρ 0=bM a∧ρ 1=bM b∧ρ 5 = .ref 0 s.2.1.length 0 s.2.1.length s.2.1.length∧ρ 6=VI s.2.2∧ρ 7=VI s.1)
  (fun s=>(aC 1000000000 (a+b)).length-s.1) (0,[],0) ⟨rfl,rfl,by simp,by simp,rfl,rfl,rfl,rfl,rfl⟩ ?_
 rintro⟨i,ds,c⟩ ρ H ⟨hi,rfl,hc,hd,g0,g1,g5,g6,g7⟩
 simp only at hi hc hd g5 g6 g7
 have la:=Ct (b:=1000000000) (by decide) (n:=a) (i:=i)
 have lb:=Ct (b:=1000000000) (by decide) (n:=b) (i:=i)
 have c1:=Bn a i
 have c2:=Bn b i
 have m1:=Nat.mod_lt (a / 1000000000^i) (show 0<1000000000 by decide)
 have m2:=Nat.mod_lt (b / 1000000000^i) (show 0<1000000000 by decide)
 have Wb:a / 1000000000^i+b / 1000000000^i+c≠0→aC 1000000000 (a+b)=ds++(a / 1000000000^i % 1000000000+b / 1000000000^i % 1000000000+c) % 1000000000::aC 1000000000 (a / 1000000000^(i+1)+b / 1000000000^(i+1)+(a / 1000000000^i % 1000000000+b / 1000000000^i % 1000000000+c) / 1000000000):=fun h=>by
  rw[hd,UB (by decide) h,pR,pR]
 generalize a / 1000000000^i=A at *
 generalize b / 1000000000^i=B at *
 by_cases Jz:A+B+c=0
 ·have h1:¬(i:Int)<((aC 1000000000 a).length:Int):=by omega
  have h2:¬(i:Int)<((aC 1000000000 b).length:Int):=by omega
  have h3:¬(0:Int)<(c:Int):=by omega
  simp only[jF,g0,g1,g5,g6,g7,cK,h1,h2,h3,VX,Nat.reduceEqDiff,Nat.reduceAdd]
  rw[Jz,bR,List.append_nil] at hd
  rw[bM,hd]
  exact NW (fun _=>rfl) rfl
 ·have hdn:=Wb Jz
  have aX:i<(aC 1000000000 (a+b)).length:=by
   rw[hdn,List.length_append,List.length_cons]
   omega
  have w1:IntKind.i64.wrap (((A % 1000000000:Nat):Int)+((B % 1000000000:Nat):Int))=((A % 1000000000+B % 1000000000:Nat):Int):=wrapN _ (by omega) (by omega)
  have w2:IntKind.i64.wrap (((A % 1000000000+B % 1000000000:Nat):Int)+(c:Int))=((A % 1000000000+B % 1000000000+c:Nat):Int):=wrapN _ (by omega) (by omega)
  have wi:IntKind.i64.wrap ((i:Int)+1)=((i+1:Nat):Int):=wrapN (i+1) (by omega) (by omega)
  have r1:=KF (A % 1000000000+B % 1000000000+c)
  have q1:=Lw (A % 1000000000+B % 1000000000+c) (by omega)
  have a1:=Yu (ds:=ds) (d:=(A % 1000000000+B % 1000000000+c) % 1000000000) (by omega)
  have acF:aC 1000000000 (a+b)=(ds++[(A % 1000000000+B % 1000000000+c) % 1000000000])++aC 1000000000 (a / 1000000000^(i+1)+b / 1000000000^(i+1)+(A % 1000000000+B % 1000000000+c) / 1000000000):=by rw[hdn,List.append_assoc];rfl
  by_cases h1:(i:Int)<((aC 1000000000 a).length:Int)
  ·simp only[jF,g0,g1,g5,g6,g7,cK,h1,c1,c2,w1,w2,wi,r1,q1,qG,sI,a1,VX,Nat.reduceEqDiff,Nat.reduceAdd]
   refine⟨(i+1,ds++[(A % 1000000000+B % 1000000000+c) % 1000000000],(A % 1000000000+B % 1000000000+c) / 1000000000),by simp only;omega,by simp;omega,by simp,by simp only;omega,acF,?_⟩
   simp only[List.length_append,List.length_singleton]
   try (repeat' apply And.intro)<;>first | rfl | trivial
  ·by_cases h2:(i:Int)<((aC 1000000000 b).length:Int)
   ·simp only[jF,g0,g1,g5,g6,g7,cK,h1,h2,c1,c2,w1,w2,wi,r1,q1,qG,sI,a1,VX,Nat.reduceEqDiff,Nat.reduceAdd]
    refine⟨(i+1,ds++[(A % 1000000000+B % 1000000000+c) % 1000000000],(A % 1000000000+B % 1000000000+c) / 1000000000),by simp only;omega,by simp;omega,by simp,by simp only;omega,acF,?_⟩
    simp only[List.length_append,List.length_singleton]
    try (repeat' apply And.intro)<;>first | rfl | trivial
   ·have h3:(0:Int)<(c:Int):=by omega
    simp only[jF,g0,g1,g5,g6,g7,cK,h1,h2,h3,c1,c2,w1,w2,wi,r1,q1,qG,sI,a1,VX,Nat.reduceEqDiff,Nat.reduceAdd]
    refine⟨(i+1,ds++[(A % 1000000000+B % 1000000000+c) % 1000000000],(A % 1000000000+B % 1000000000+c) / 1000000000),by simp only;omega,by simp;omega,by simp,by simp only;omega,acF,?_⟩
    simp only[List.length_append,List.length_singleton]
    try (repeat' apply And.intro)<;>first | rfl | trivial
end Go.PM