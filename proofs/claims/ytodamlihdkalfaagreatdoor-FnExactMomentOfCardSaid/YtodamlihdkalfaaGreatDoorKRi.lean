/- Texts of a claim, in one: part 9. -/
import Derived.KernelRfl
import Derived.Test.YtodamlihdkalfaaGreatDoorKRh
set_option linter.unusedSimpArgs false
set_option linter.unusedVariables false
namespace Go.PM
open Go.Lib
theorem BO (l:List UInt8) {i:Nat} (h:i<l.length):EI (.string ⟨l.toArray⟩) (.int .i64 (i:Int))=some (.int .u8 ((l.getD i 0).toNat:Int)):=by
 have hs:(⟨l.toArray⟩:ByteArray).size=l.length:=by simp[ByteArray.size]
 have e1:(0:Int)≤i∧(i:Int)<(l.length:Int):=by omega
 simp only[EI,hs,e1,and_self,if_true,Int.toNat_natCast]
theorem FW (l:List UInt8) (h:0<l.length):EI (.string ⟨l.toArray⟩) (.int .i64 0)=some (.int .u8 ((l.getD 0 0).toNat:Int)):=BO l h
theorem Ey (l:List UInt8) (a b:Nat):(⟨l.toArray⟩:ByteArray).extract a b=⟨((l.drop a).take (b-a)).toArray⟩:=by
 rw[ByteArray.ext_iff,ByteArray.data_extract]
 simp[List.extract_toArray,List.extract_eq_take_drop]
theorem Dc (l:List UInt8) {a:Nat} (h:a≤l.length):sS (aS l) (some (VI (a:Int))) none=some (aS (l.drop a)):=by
 have hs:(⟨l.toArray⟩:ByteArray).size=l.length:=by simp[ByteArray.size]
 have e2:(0:Int)≤a∧(a:Int)≤(l.length:Int):=by omega
 simp only[sS,D5,xF,hs,dR,e2,and_self,if_true,Int.toNat_natCast,Ey]
 rw[List.take_of_length_le (by simp)]
theorem I0 (l:List UInt8) {b:Nat} (hb:b≤l.length):sS (aS l) none (some (VI (b:Int)))=some (aS (l.take b)):=by
 have hs:(⟨l.toArray⟩:ByteArray).size=l.length:=by simp[ByteArray.size]
 have e1:(0:Int)≤b∧(b:Int)≤(l.length:Int):=by omega
 simp only[sS,D5,xF,hs,dR,e1,and_self,if_true,Int.toNat_natCast,Ey]
 rw[List.drop_zero,Nat.sub_zero]
theorem Nd (l:List UInt8):cX .eql (.string ⟨l.toArray⟩) (.string ⟨#[]⟩)=some (.bool (decide (l=[]))):=Sc l []
theorem GD (l:List UInt8):cX .neq (.string ⟨l.toArray⟩) (.string ⟨#[]⟩)=some (.bool (!decide (l=[]))):=LD l []
theorem Ow (l:List UInt8):TC 229 [aS l,aS [45]] (VB (isNeg l)):=by
 refine TC.walk ⟨true,false⟩ qM rfl (Nat.le_of_ble_eq_true rfl) rfl rfl ?_
 have e1:yD (.string ⟨#[45]⟩)=some (.int .i64 1):=rfl
 by_cases h:(1:Int)≤(l.length:Int)
 ·have e2:=I0 l (b:=1) (by omega)
  have e2:sS (aS l) none (some (VI 1))=some (aS (l.take 1)):=e2
  have e3:cX .eql (.string ⟨(l.take 1).toArray⟩) (.string ⟨#[45]⟩)=some (.bool (decide (l.take 1=[45]))):=Sc (l.take 1) [45]
  have e4:isNeg l=decide (l.take 1=[45]):=by
   cases l with
   | nil=>exact absurd h (by decide)
   | cons c l=>rw[Dn];simp
  rw[e4]
  simp only[gA,fE,bC,e1,ge_iff_le,h,e2,e3,VX,Nat.reduceEqDiff,Nat.reduceAdd]
  exact aG rfl
 ·have e4:isNeg l=false:=by unfold isNeg;rw[decide_eq_false (by omega)];rfl
  rw[e4]
  simp only[gA,fE,bC,e1,ge_iff_le,h,VX,Nat.reduceEqDiff,Nat.reduceAdd]
  exact aG rfl
theorem L8 (l:List UInt8):TC 216 [aS l,aS [45]] (.eQ [aS (if isNeg l then l.drop 1 else l),VB (isNeg l)]):=by
 refine TC.walk ⟨true,false⟩ pW rfl (Nat.le_of_ble_eq_true rfl) rfl rfl ?_
 have e0:=Ow l
 have e1:yD (.string ⟨#[45]⟩)=some (.int .i64 1):=rfl
 cases h:isNeg l with
 |
  true =>
  rw[h] at e0
  have hl:1≤l.length:=by
   cases l with
   | nil=>cases h
   | cons c l=>simp
  have e2:sS (aS l) (some (VI 1)) none=some (aS (l.drop 1)):=Dc l (a:=1) hl
  simp only[fY,fM,e0,e1,e2,VX,Nat.reduceEqDiff,Nat.reduceAdd]
  exact aG rfl
 |
  false =>
  rw[h] at e0
  simp only[fY,fM,e0,Bool.false_eq_true,if_false,VX,Nat.reduceEqDiff,Nat.reduceAdd]
  exact aG rfl
theorem Ox (l:List UInt8):TC 168 [aS l,aS [45]] (.eQ [aS (if isNeg l then l.drop 1 else l),VB (isNeg l)]):=by
 refine TC.walk ⟨true,false⟩ Cz rfl (Nat.le_of_ble_eq_true rfl) rfl rfl ?_
 have e0:=L8 l
 simp only[wW,tK,e0,VX,Nat.reduceEqDiff,Nat.reduceAdd]
 exact aG rfl
theorem abS (l:List UInt8) (hl:l.length≤1000000000000):TC 215 [aS l,aS [47]] (.eQ [aS (kE 47 l).1,aS ((kE 47 l).2.getD []),VB (kE 47 l).2.isSome]):=by
 refine TC.walk ⟨true,false⟩ uX rfl (Nat.le_of_ble_eq_true rfl) rfl rfl ?_
 have e0:=YH l 47
 have e1:yD (.string ⟨#[47]⟩)=some (.int .i64 1):=rfl
 cases h:(kE 47 l).2 with
 |
  none =>
  obtain⟨h1,h2,_⟩:=xZ h
  rw[h1] at e0
  rw[h2]
  simp only[jN,iS,e0,ge_iff_le,Int.reduceNeg,Int.reduceLE,VX,Nat.reduceEqDiff,Nat.reduceAdd]
  exact aG rfl
 |
  some r =>
  obtain⟨h1,h2,_⟩:=E3 h
  rw[h1] at e0
  generalize (kE 47 l).1=a at *
  subst h2
  rw[List.length_append,List.length_cons] at hl
  have h0:(0:Int)≤(a.length:Int):=by omega
  have e2:=I0 (a++47::r) (b:=a.length) (by simp)
  have e3:=Dc (a++47::r) (a:=a.length+1) (by simp)
  rw[List.take_left] at e2
  have ed:(a++47::r).drop (a.length+1)=r:=by rw[List.drop_append];simp
  rw[ed] at e3
  have w:IntKind.i64.wrap ((a.length:Int)+1)=((a.length+1:Nat):Int):=wrapN _ (by omega) (by omega)
  simp only[jN,iS,e0,e1,ge_iff_le,h0,w,e2,e3,VX,Nat.reduceEqDiff,Nat.reduceAdd]
  exact aG rfl
theorem afT (l:List UInt8) (hl:l.length≤1000000000000):TC 167 [aS l,aS [47]] (.eQ [aS (kE 47 l).1,aS ((kE 47 l).2.getD []),VB (kE 47 l).2.isSome]):=by
 refine TC.walk ⟨true,false⟩ JZ rfl (Nat.le_of_ble_eq_true rfl) rfl rfl ?_
 have e0:=abS l hl
 simp only[G0,CZ,e0,VX,Nat.reduceEqDiff,Nat.reduceAdd]
 exact aG rfl
def yR (l:List UInt8):VV:=if gD l=true then .eQ [bD (bK l),VB true] else .eQ [bD 0,VB false]
theorem TO (l:List UInt8):gO (yR l)=true:=by
 unfold yR
 split<;>simp[gO,pM,oB,lS]
theorem abK {d:Nat}:fz (d+1) [.row 0 [] 1 true] (.ref 0 0 0 0 0)=some (bD 0):=by
 rw[Ca]
 cases d with
 | zero=>rfl
 | succ d=>rfl
theorem IW {n:Nat} (hn:n≤9) {lo:Nat} {H:aA} {ρ:cR} {Q:VQ} (h58:ρ 58=VI n) (h59:ρ 59=VI 0) (h9:ρ 9=VK .u64 1) (hQ:∀aW,(∀t,t<9→aW t=ρ t)→aW 9=VK .u64 ((10^n:Nat):Int)→Q .normal aW H):VW ⟨true,false⟩ lo (.loop oJ) (xT 4 Q) ρ H:=by
 refine aY (fun(i:Nat) aW H'=>i≤n∧H'=H∧(∀t,t<9→aW t=ρ t)∧aW 58=VI n∧aW 59=VI i∧aW 9=VK .u64 ((10^i:Nat):Int)) (fun i=>n-i) 0 ⟨Nat.zero_le _,rfl,fun _ _=>rfl,h58,h59,h9⟩ ?_
 rintro i aW H' ⟨hi,rfl,hk,g58,g59,g9⟩
 by_cases dA:(i:Int)<(n:Int)
 ·have wi:IntKind.i64.wrap ((i:Int)+1)=((i+1:Nat):Int):=wrapN (i+1) (by omega) (by omega)
  have hp:10^i≤10^8:=Nat.pow_le_pow_right (by decide) (by omega)
  have e8:(10:Nat)^8=100000000:=by decide
  have wp:IntKind.u64.wrap (((10^i:Nat):Int)*10)=((10^(i+1):Nat):Int):=by
   rw[Nat.pow_succ]
   generalize 10^i=p at *
   have:=eH (p*10) (by omega)
   rw[Int.natCast_mul] at this
   rw[Int.natCast_mul]
   exact this
  simp only[oJ,g58,g59,g9,dA,wi,wp,VX,Nat.reduceEqDiff,Nat.reduceAdd]
  refine⟨i+1,by omega,by omega,fun t ht => ?_,rfl,rfl⟩
  try simp only[sQ]
  repeat rw[if_neg (by omega)]
  exact hk t ht
 ·have rS:i=n:=by omega
  subst rS
  simp only[oJ,g58,g59,dA,VX,Nat.reduceEqDiff,Nat.reduceAdd]
  refine hQ _ (fun t ht => ?_) ?_
  ·try simp only[sQ]
   repeat rw[if_neg (by omega)]
   exact hk t ht
  ·simp only[g9,VX,Nat.reduceEqDiff,Nat.reduceAdd]
theorem V8 {l:List UInt8} {i:Nat} (h:i<l.length):(l.take (i+1)).all gL=((l.take i).all gL&&gL (l.getD i 0)):=by
 rw[List.take_add_one,List.all_append]
 have:l[i]? = some (l.getD i 0):=by rw[List.getElem?_eq_getElem h,List.getD_eq_getElem?_getD,List.getElem?_eq_getElem h];rfl
 rw[this]
 simp
theorem IC {l:List UInt8} (hl:l.length≤1000000000000) {lo:Nat} {H:aA} {ρ:cR} {Q:VQ} (h0:ρ 0=aS l) (h29:ρ 29=VI l.length) (h30:ρ 30=VI 0)
  (hR:l.all gL=false→∀aW:cR,aW 2 = .tree [] .nil→aW 3=VB false→Q .ret aW H) (hN:l.all gL=true→∀aW:cR,(∀t,t<5→aW t=ρ t)→Q .normal aW H):VW ⟨true,false⟩ lo (.loop jC) (xT 0 Q) ρ H:=by
 refine aY (fun(i:Nat) aW H'=>i≤l.length∧H'=H∧(l.take i).all gL=true∧(∀t,t<5→aW t=ρ t)∧aW 29=VI l.length∧aW 30=VI i) (fun i=>l.length-i) 0 ⟨Nat.zero_le _,rfl,rfl,fun _ _=>rfl,h29,h30⟩ ?_
 rintro i aW H' ⟨hi,rfl,hd,hk,g29,g30⟩
 have g0:=(hk 0 (by decide)).trans h0
 by_cases dA:(i:Int)<(l.length:Int)
 ·have QH:i<l.length:=by omega
  have e1:=BO l QH
  have wi:IntKind.i64.wrap ((i:Int)+1)=((i+1:Nat):Int):=wrapN (i+1) (by omega) (by omega)
  have ht:=V8 QH
  rw[hd,Bool.true_and] at ht
  have Rp:gL (l.getD i 0)=(decide (48≤(l.getD i 0).toNat)&&decide ((l.getD i 0).toNat≤57)):=rfl
  have kA:gL (l.getD i 0)=false→l.all gL=false:=by
   intro h
   rw[h] at ht
   rw[←List.take_append_drop (i+1) l,List.all_append,ht,Bool.false_and]
  generalize (l.getD i 0).toNat=c at *
  by_cases q1:(c:Int)<48
  ·have:=kA (by rw[Rp,decide_eq_false (by omega)];rfl)
   simp only[jC,g0,g29,g30,dA,e1,q1,VX,Nat.reduceEqDiff,Nat.reduceAdd]
   exact hR this _ (by simp only[VX,Nat.reduceEqDiff,Nat.reduceAdd]) (by simp only[VX,Nat.reduceEqDiff,Nat.reduceAdd])
  ·by_cases q2:(57:Int)<(c:Int)
   ·have:=kA (by rw[Rp,decide_eq_false (show ¬c≤57 by omega),Bool.and_false])
    simp only[jC,g0,g29,g30,dA,e1,q1,q2,VX,Nat.reduceEqDiff,Nat.reduceAdd]
    exact hR this _ (by simp only[VX,Nat.reduceEqDiff,Nat.reduceAdd]) (by simp only[VX,Nat.reduceEqDiff,Nat.reduceAdd])
   ·rw[Rp,decide_eq_true (by omega),decide_eq_true (by omega),Bool.and_self] at ht
    simp only[jC,g0,g29,g30,dA,e1,q1,q2,wi,VX,Nat.reduceEqDiff,Nat.reduceAdd]
    refine⟨i+1,by omega,by omega,ht,fun t ht => ?_,rfl⟩
    try simp only[sQ]
    repeat rw[if_neg (by omega)]
    exact hk t ht
 ·have rS:i=l.length:=by omega
  subst rS
  rw[List.take_length] at hd
  simp only[jC,g29,g30,dA,VX,Nat.reduceEqDiff,Nat.reduceAdd]
  refine hN hd _ fun t ht => ?_
  try simp only[sQ]
  repeat rw[if_neg (by omega)]
  exact hk t ht
set_option maxHeartbeats 2000000 in
theorem Ji {l:List UInt8} (hd:l.all gL=true) (hl:l.length≤200) (eW:l≠[]) {ρ:cR} {Q:VQ} (h0:ρ 0=aS l) (h4:ρ 4 = .ref 0 0 0 0 0)
  (hQ:∀(aW:cR),aW 4=bD (bK l)→Q .normal aW [.row 0 [] 1 false]):VW ⟨true,false⟩ 0 (.loop lH) (xT 2 Q) ρ [.row 0 [] 1 true]:=by
 refine aY (fun(s:List UInt8×List UInt8) aW H'=>l=s.1++s.2∧aW 0=aS s.2∧((H'=[.row 0 [] 1 true]∧aW 4 = .ref 0 0 0 0 0∧s.1=[])∨(H'=[.row 0 [] 1 false]∧aW 4=bD (bK s.1)))) (fun s=>s.2.length) ([],l) ⟨rfl,h0,.inl ⟨rfl,h4,rfl⟩⟩ ?_
 rintro⟨pre,rest⟩ aW H' ⟨Ps,g0,hv⟩
 simp only at Ps g0 hv
 have e1:=GD rest
 by_cases he:rest=[]
 ·subst he
  rw[List.append_nil] at Ps
  subst Ps
  rcases hv with⟨_,_,h⟩ | ⟨rfl,g4⟩
  ·exact absurd h eW
  have RM:cX .neq (.string ⟨#[]⟩) (.string ⟨#[]⟩)=some (.bool false):=by
   have:=GD []
   rw[decide_eq_true rfl] at this
   exact this
  simp only[lH,g0,RM,VX,Nat.reduceEqDiff,Nat.reduceAdd]
  exact hQ _ (by simp only[g4,VX,Nat.reduceEqDiff,Nat.reduceAdd])
 ·rw[Ps,List.all_append,Bool.and_eq_true] at hd
  obtain⟨hd1,hd2⟩:=hd
  rw[Ps,List.length_append] at hl
  have jO:0<rest.length:=List.length_pos_iff.2 he
  have RM:cX .neq (.string ⟨rest.toArray⟩) (.string ⟨#[]⟩)=some (.bool true):=by rw[e1,decide_eq_false he];rfl
  have wm:(rest.length:Int).tmod 9=((rest.length % 9:Nat):Int):=by rw[Int.tmod_eq_emod_of_nonneg (by omega)];simp
  have er:cX .rem (.int .i64 (rest.length:Int)) (.int .i64 9)=some (.int .i64 ((rest.length % 9:Nat):Int)):=by
   rw[←wm]
   rfl
  obtain⟨n,hn⟩:∃n,n=if rest.length % 9=0 then 9 else rest.length % 9:=⟨_,rfl⟩
  have hn1:1≤n∧n≤9∧n≤rest.length:=by
   rw[hn]
   split<;>omega
  obtain⟨n1,n9,nl⟩:=hn1
  have e2:=I0 rest nl
  have e3:=Dc rest nl
  have hch:(rest.take n).length=n:=by rw[List.length_take];omega
  have hcd:(rest.take n).all gL=true:=by
   rw[←List.take_append_drop n rest,List.all_append,Bool.and_eq_true] at hd2
   exact hd2.1
  have hp:=Zn (rest.take n) (bK (rest.take n)) (by omega) (aaQ hcd (fun h=>by rw[h] at hch;simp at hch;omega) (by omega))
  have CU:=Ea hcd
  rw[hch] at CU
  have hp9:10^n≤10^9:=Nat.pow_le_pow_right (by decide) n9
  have e9:(10:Nat)^9=1000000000:=by decide
  have asT:bK (rest.take n)<1000000000:=by omega
  have c1:=kT (10^n) (by omega)
  have c2:=kT (bK (rest.take n)) (by omega)
  have hbp:bl (bK pre)≤665:=by
   refine CT (Nat.lt_of_lt_of_le (Ea hd1) ?_)
   exact Nat.le_trans (Nat.pow_le_pow_right (by decide) (by omega:pre.length≤200)) (by decide +kernel)
  have hb9:bl (10^n)≤64:=CT (by omega)
  have hbm:=lQ (bK pre) (10^n)
  have hbc:bl (bK (rest.take n))≤64:=CT (by omega)
  have tm:=gM (bK pre) (10^n) (eG (by omega)) (eG (by omega))
  have c4:=A2 (bK pre*10^n) (bK (rest.take n)) (eG (by omega)) (eG (by omega))
  have qZ:bK pre*10^n+bK (rest.take n)=bK (pre++rest.take n):=by rw[JG,hch]
  rw[qZ] at c4
  have fin:(rest.drop n).length<rest.length∧pre++rest=(pre++rest.take n)++rest.drop n:=⟨by rw[List.length_drop];omega,by rw[List.append_assoc,List.take_append_drop]⟩
  obtain⟨v4,g4,c3⟩:∃v4,aW 4=v4∧∀lo K,dD 180 [v4,bD (10^n)] lo H' K=K (bD (bK pre*10^n)) [.row 0 [] 1 false]:=by
   rcases hv with⟨rfl,g4,hp0⟩ | ⟨rfl,g4⟩
   ·refine⟨_,g4,fun lo K => ?_⟩
    subst hp0
    have:=tm.ET (H:=[.row 0 [] 1 true]) (args:=[.ref 0 0 0 0 0,bD (10^n)]) (lo:=lo) (k:=K) rfl (by simp[aJ,bH]) (Yq abK (aH (bH _))) rfl
    rw[this,show Gf (bD (bK []*10^n))=false from rfl,if_neg (by decide),List.flatMap_cons,List.flatMap_cons,List.flatMap_nil,Df (bH _),Kx (n:=0) (c:=0) (es:=[]) (e:=1) (w:=true) bT rfl rfl]
    rfl
   ·exact⟨_,g4,fun lo K=>tm lo [.row 0 [] 1 false] K⟩
  clear hv
  obtain⟨P,hP⟩:∃P,P=10^n:=⟨_,rfl⟩
  rw[←hP] at c1 c4 c3
  have hnI:(rest.length % 9:Nat)=0∨¬(rest.length % 9:Nat)=0:=by omega
  rcases hnI with h9 | h9
  ·rw[if_pos h9] at hn
   subst hn
   have q:((rest.length % 9:Nat):Int)=0:=by omega
   have e2':sS (aS rest) none (some (VI 9))=some (aS (rest.take 9)):=e2
   have e3':sS (aS rest) (some (VI 9)) none=some (aS (rest.drop 9)):=e3
   simp only[lH,g0,g4,RM,bC,er,q,e2',hp,VX,Nat.reduceEqDiff,Nat.reduceAdd]
   refine IW (n:=9) (by decide) ?_ ?_ ?_ fun uG k1 q9 => ?_
   ·simp only[VX,Nat.reduceEqDiff,Nat.reduceAdd];rfl
   ·simp only[VX,Nat.reduceEqDiff,Nat.reduceAdd]
   ·simp only[VX,Nat.reduceEqDiff,Nat.reduceAdd]
   rw[←hP] at q9
   have u0:uG 0=aS rest:=by rw[k1 0 (by decide)];simp only[g0,VX,Nat.reduceEqDiff,Nat.reduceAdd]
   have u4:uG 4=v4:=by rw[k1 4 (by decide)];simp only[g4,VX,Nat.reduceEqDiff,Nat.reduceAdd]
   have u6:uG 6=VI 9:=by rw[k1 6 (by decide)];simp only[VX,Nat.reduceEqDiff,Nat.reduceAdd]
   have u7:uG 7=VK .u64 (bK (rest.take 9)):=by rw[k1 7 (by decide)];simp only[VX,Nat.reduceEqDiff,Nat.reduceAdd]
   simp only[u0,u4,u6,u7,q9,c1,c2,c3,c4,e3',VX,Nat.reduceEqDiff,Nat.reduceAdd]
   exact⟨(pre++rest.take 9,rest.drop 9),fin.1,Ps.trans fin.2,rfl,.inr rfl⟩
  ·rw[if_neg h9] at hn
   rw[←hn] at er
   have q:¬(n:Int)=0:=by omega
   simp only[lH,g0,g4,RM,bC,er,q,e2,hp,VX,Nat.reduceEqDiff,Nat.reduceAdd]
   refine IW (n:=n) n9 ?_ ?_ ?_ fun uG k1 q9 => ?_
   ·simp only[VX,Nat.reduceEqDiff,Nat.reduceAdd]
   ·simp only[VX,Nat.reduceEqDiff,Nat.reduceAdd]
   ·simp only[VX,Nat.reduceEqDiff,Nat.reduceAdd]
   rw[←hP] at q9
   have u0:uG 0=aS rest:=by rw[k1 0 (by decide)];simp only[g0,VX,Nat.reduceEqDiff,Nat.reduceAdd]
   have u4:uG 4=v4:=by rw[k1 4 (by decide)];simp only[g4,VX,Nat.reduceEqDiff,Nat.reduceAdd]
   have u6:uG 6=VI n:=by rw[k1 6 (by decide)];simp only[VX,Nat.reduceEqDiff,Nat.reduceAdd]
   have u7:uG 7=VK .u64 (bK (rest.take n)):=by rw[k1 7 (by decide)];simp only[VX,Nat.reduceEqDiff,Nat.reduceAdd]
   simp only[u0,u4,u6,u7,q9,c1,c2,c3,c4,e3,VX,Nat.reduceEqDiff,Nat.reduceAdd]
   exact⟨(pre++rest.take n,rest.drop n),fin.1,Ps.trans fin.2,rfl,.inr rfl⟩
set_option maxHeartbeats 2000000 in
theorem BQ (l:List UInt8) (hl:l.length≤1000000000000):TC 169 [aS l] (yR l):=by
 refine TC.walk ⟨true,false⟩ Jr rfl (Nat.le_of_ble_eq_true rfl) rfl (TO l) ?_
 have e1:=Nd l
 by_cases he:l=[]
 ·have hk:gD l=false:=by rw[he];rfl
  have RM:cX .eql (.string ⟨l.toArray⟩) (.string ⟨#[]⟩)=some (.bool true):=by rw[e1,decide_eq_true he]
  unfold yR
  rw[hk]
  simp only[nD,kD,RM,Bool.false_eq_true,if_false,VX,Nat.reduceEqDiff,Nat.reduceAdd]
  exact bG (d:=6) tR (aH (v:=VB false) rfl)
 have jO:0<l.length:=List.length_pos_iff.2 he
 by_cases YD:(200:Int)<(l.length:Int)
 ·have hk:gD l=false:=by
   cases h:gD l with
   | false=>rfl
   | true=>have:=(iM.1 h).2.2.1;omega
  unfold yR
  rw[hk]
  simp only[nD,kD,e1,he,decide_false,bC,YD,Bool.false_eq_true,if_false,VX,Nat.reduceEqDiff,Nat.reduceAdd]
  exact bG (d:=6) tR (aH (v:=VB false) rfl)
 have e2:=FW l jO
 by_cases hz:(((l.getD 0 0).toNat:Int)=48∧1<(l.length:Int))
 ·obtain⟨Fg,PQ⟩:=hz
  have hk:gD l=false:=by
   cases h:gD l with
   | false=>rfl
   |
    true =>
    rcases(iM.1 h).2.2.2 with h1 | h1
    ·omega
    ·exact absurd (UInt8.toNat_inj.1 (by rw[show (48:UInt8).toNat=48 from rfl];omega)) h1
  unfold yR
  rw[hk]
  simp only[nD,kD,e1,he,decide_false,bC,YD,e2,Fg,PQ,Bool.false_eq_true,if_false,VX,Nat.reduceEqDiff,Nat.reduceAdd]
  exact bG (d:=6) tR (aH (v:=VB false) rfl)
 have afP:l.length=1∨l.getD 0 0≠48:=by
  by_cases h1:l.length=1
  ·exact .inl h1
  ·right
   intro h2
   apply hz
   rw[h2]
   exact⟨rfl,by omega⟩
 have e3:∀lr,rN lr [.int .u32 0] 0 [] []=some (.ref 0 0 0 0 0,[.row 0 [] 1 true]):=fun lr=>oC (H:=[]) (lr:=lr) (z:=[.int .u32 0]) rfl
 have kN:l.all gL=true→gD l=true:=fun h=>iM.2 ⟨h,jO,by omega,afP⟩
 have kF:l.all gL=false→gD l=false:=fun h=>by unfold gD;rw[h];rfl
 have rF:gD l=false→yR l = .eQ [bD 0,VB false]:=fun h=>by unfold yR;rw[h];rfl
 have rT:gD l=true→yR l = .eQ [bD (bK l),VB true]:=fun h=>if_pos h
 by_cases hA:(((l.getD 0 0).toNat:Int)=48)
 ·have hB:¬1<(l.length:Int):=fun h=>hz ⟨hA,h⟩
  simp only[nD,kD,e1,e3,he,decide_false,bC,YD,e2,hA,hB,Bool.false_eq_true,if_false,VX,Nat.reduceEqDiff,Nat.reduceAdd]
  refine IC hl ?_ ?_ ?_ (fun hd uG g2 g3 => ?_) fun hd uG k1 => ?_
  ·simp only[VX,Nat.reduceEqDiff,Nat.reduceAdd]
  ·simp only[VX,Nat.reduceEqDiff,Nat.reduceAdd]
  ·simp only[VX,Nat.reduceEqDiff,Nat.reduceAdd]
  ·rw[rF (kF hd)]
   simp only[g2,g3,VX,Nat.reduceEqDiff,Nat.reduceAdd]
   exact bG (d:=6) tR (aH (v:=VB false) rfl)
  ·rw[rT (kN hd)]
   simp only[VX,Nat.reduceEqDiff,Nat.reduceAdd]
   refine Ji hd (by omega) he ?_ ?_ fun Lc g4 => ?_
   ·rw[k1 0 (by decide)];simp only[VX,Nat.reduceEqDiff,Nat.reduceAdd]
   ·rw[k1 4 (by decide)];simp only[VX,Nat.reduceEqDiff,Nat.reduceAdd]
   ·simp only[g4,VX,Nat.reduceEqDiff,Nat.reduceAdd]
    exact bG (d:=6) (aH (bH _)) (aH (v:=VB true) rfl)
 ·simp only[nD,kD,e1,e3,he,decide_false,bC,YD,e2,hA,Bool.false_eq_true,if_false,VX,Nat.reduceEqDiff,Nat.reduceAdd]
  refine IC hl ?_ ?_ ?_ (fun hd uG g2 g3 => ?_) fun hd uG k1 => ?_
  ·simp only[VX,Nat.reduceEqDiff,Nat.reduceAdd]
  ·simp only[VX,Nat.reduceEqDiff,Nat.reduceAdd]
  ·simp only[VX,Nat.reduceEqDiff,Nat.reduceAdd]
  ·rw[rF (kF hd)]
   simp only[g2,g3,VX,Nat.reduceEqDiff,Nat.reduceAdd]
   exact bG (d:=6) tR (aH (v:=VB false) rfl)
  ·rw[rT (kN hd)]
   simp only[VX,Nat.reduceEqDiff,Nat.reduceAdd]
   refine Ji hd (by omega) he ?_ ?_ fun Lc g4 => ?_
   ·rw[k1 0 (by decide)];simp only[VX,Nat.reduceEqDiff,Nat.reduceAdd]
   ·rw[k1 4 (by decide)];simp only[VX,Nat.reduceEqDiff,Nat.reduceAdd]
   ·simp only[g4,VX,Nat.reduceEqDiff,Nat.reduceAdd]
    exact bG (d:=6) (aH (bH _)) (aH (v:=VB true) rfl)
def Jg:VV := .agg [VB false,bD 0,bD 0]
def BU (l:List UInt8):VV:=match uZ l with
 | some q => .eQ [bX q,VB true]
 | none => .eQ [Jg,VB false]
theorem OH:gO Jg=true:=by simp[Jg,gO,pM,oB,lS]
theorem Rs (l:List UInt8):gO (BU l)=true:=by
 unfold BU
 split<;>simp[gO,pM,sI,OH,lS]
theorem fJ {d:Nat} {H:aA}:fz (d+2) H (.agg [VB false,.tree [] .nil,.tree [] .nil])=some Jg:=oK (aH (v:=VB false) rfl) tR tR
theorem H5 {neg:Bool} {t b:Nat} (hb:b≠0) (hg:Nat.gcd t b=1) (hn:¬(neg=true∧t=0)):bX (mkRat (jB neg t) b) = .agg [VB neg,bD t,bD b]:=by
 obtain⟨e1,e2⟩:=Gk (neg:=neg) hb hg
 refine DR ?_ (by rw[e1,mG]) e2
 rw[e1]
 cases neg with
 | false=>unfold jB;simp
 |
  true =>
  have:t≠0:=fun h=>hn ⟨rfl,h⟩
  unfold jB
  simp
  omega
theorem Qz (l:List UInt8):uZ l=mM (isNeg (kE 47 l).1) (if isNeg (kE 47 l).1 then (kE 47 l).1.drop 1 else (kE 47 l).1) (kE 47 l).2:=by
 cases l with
 | nil=>rfl
 |
  cons c r =>
  unfold uZ
  by_cases h47:c=47
  ·subst h47
   rfl
  ·have e:kE 47 (c::r)=(c::(kE 47 r).1,(kE 47 r).2):=by rw[kE,if_neg h47]
   by_cases h45:c=45
   ·subst h45
    rw[e]
    rfl
   ·rw[e,Dn,Dn,decide_eq_false h45]
    simp only[Bool.false_eq_true,if_false,e]
theorem OV {c:UInt8}:∀ {l:List UInt8},(kE c l).1.length≤l.length∧∀t,(kE c l).2=some t→t.length≤l.length:=by
 intro l
 cases h:(kE c l).2 with
 | none=>rw[(xZ h).2.1];exact⟨Nat.le_refl _,fun t ht=>by cases ht⟩
 |
  some r =>
  have:=congrArg List.length (E3 h).2.1
  rw[List.length_append,List.length_cons] at this
  exact⟨by omega,fun t ht=>by cases ht;omega⟩
theorem Kv {n:Nat}:(((aC 4294967296 n).length:Nat):Int)=0↔n=0:=by
 rw[←jV (b:=4294967296) (n:=n) (by decide),←List.length_eq_zero_iff]
 omega
set_option maxRecDepth 100000 in
set_option maxHeartbeats 4000000 in
theorem IP (l:List UInt8) (hl:l.length≤1000000000000):TC 89 [aS l] (BU l):=by
 refine TC.walk ⟨true,false⟩ Jn rfl (Nat.le_of_ble_eq_true rfl) rfl (Rs l) ?_
 have e1:=afT l hl
 obtain⟨l1,l2⟩:=OV (c:=47) (l:=l)
 have hq:=Qz l
 unfold BU
 rw[hq]
 clear hq
 generalize (kE 47 l).1=f at *
 generalize (kE 47 l).2=s2 at *
 have e2:=Ox f
 have ld:(if isNeg f=true then f.drop 1 else f).length≤f.length:=by split<;>simp
 generalize (if isNeg f=true then f.drop 1 else f)=d at *
 generalize isNeg f=neg at *
 have e3:=BQ d (by omega)
 have c1:TC 101 [.sc (.int .u64 1)] (bD 1):=kT 1 (by decide)
 cases hd:gD d with
 |
  false =>
  have hp:mM neg d s2=none:=if_pos (.inl hd)
  rw[hp]
  unfold yR at e3
  rw[hd,if_neg (by decide)] at e3
  simp only[dM,cN,e1,e2,e3,aF,iA,Nat.reduceLeDiff,Nat.reduceLT,Nat.reduceSub,VX,Nat.reduceEqDiff,Nat.reduceAdd]
  exact bG (d:=6) fJ (aH (v:=VB false) rfl)
 |
  true =>
  unfold yR at e3
  rw[hd,if_pos rfl] at e3
  by_cases hz:neg=true∧bK d=0
  ·have hp:mM neg d s2=none:=if_pos (.inr hz)
   rw[hp]
   obtain⟨rfl,CD⟩:=hz
   rw[CD] at e3
   have xX:(((aC 4294967296 0).length:Nat):Int)=0:=Kv.2 rfl
   simp only[dM,cN,e1,e2,e3,dF,xX,aF,iA,Nat.reduceLeDiff,Nat.reduceLT,Nat.reduceSub,VX,Nat.reduceEqDiff,Nat.reduceAdd]
   exact bG (d:=6) fJ (aH (v:=VB false) rfl)
  ·have hbt:=vB hd
   have xX:neg=true→¬(((aC 4294967296 (bK d)).length:Nat):Int)=0:=fun h h0=>hz ⟨h,Kv.1 h0⟩
   cases s2 with
   |
    none =>
    have hp:mM neg d none=some (mkRat (jB neg (bK d)) 1):=if_neg (by rw[hd];rintro(h | h);exact absurd h (by decide);exact hz h)
    rw[hp]
    simp only[]
    rw[H5 (by decide) (Nat.gcd_one_right _) hz]
    cases neg with
    |
     false =>
     simp only[dM,cN,e1,e2,e3,c1,Option.isSome_none,Option.getD_none,aF,aN,aO,aI,iA,Nat.reduceLeDiff,Nat.reduceLT,Nat.reduceSub,VX,Nat.reduceEqDiff,Nat.reduceAdd]
     exact bG (d:=6) (oK (aH (v:=VB false) rfl) (aH (bH _)) (aH (bH _))) (aH (v:=VB true) rfl)
    |
     true =>
     have xX:=xX rfl
     simp only[dM,cN,e1,e2,e3,c1,dF,xX,Option.isSome_none,Option.getD_none,aF,aN,aO,aI,iA,Nat.reduceLeDiff,Nat.reduceLT,Nat.reduceSub,VX,Nat.reduceEqDiff,Nat.reduceAdd]
     exact bG (d:=6) (oK (aH (v:=VB true) rfl) (aH (bH _)) (aH (bH _))) (aH (v:=VB true) rfl)
   |
    some t =>
    have e4:=BQ t (by have:=l2 t rfl;omega)
    have hp:mM neg d (some t)=if gD t=true∧1<bK t∧Nat.gcd (bK d) (bK t)=1 then some (mkRat (jB neg (bK d)) (bK t)) else none:=if_neg (by rw[hd];rintro(h | h);exact absurd h (by decide);exact hz h)
    rw[hp]
    cases ht:gD t with
    |
     false =>
     rw[if_neg (fun h=>absurd h.1 (by decide))]
     unfold yR at e4
     rw[ht,if_neg (by decide)] at e4
     cases neg with
     |
      false =>
      simp only[dM,cN,e1,e2,e3,e4,c1,Option.isSome_some,Option.getD_some,aF,aN,aO,aI,iA,Nat.reduceLeDiff,Nat.reduceLT,Nat.reduceSub,VX,Nat.reduceEqDiff,Nat.reduceAdd]
      exact bG (d:=6) fJ (aH (v:=VB false) rfl)
     |
      true =>
      have xX:=xX rfl
      simp only[dM,cN,e1,e2,e3,e4,c1,dF,xX,Option.isSome_some,Option.getD_some,aF,aN,aO,aI,iA,Nat.reduceLeDiff,Nat.reduceLT,Nat.reduceSub,VX,Nat.reduceEqDiff,Nat.reduceAdd]
      exact bG (d:=6) fJ (aH (v:=VB false) rfl)
    |
     true =>
     have IY:=vB ht
     unfold yR at e4
     rw[ht,if_pos rfl] at e4
     have c2:=iP (bK t) 1 (eG (by omega)) (eG (Nat.le_trans (CT (n:=1) (k:=1) (by decide)) (by decide)))
     have c3:=BA (bK d) (bK t) (eG (by omega)) (eG (by omega))
     by_cases h1:dY (bK t) 1≤0
     ·have hle:¬1<bK t:=fun h=>by unfold dY at h1;rw[if_neg (by omega),if_neg (by omega)] at h1;exact absurd h1 (by decide)
      rw[if_neg (fun h=>hle h.2.1)]
      cases neg with
      |
       false =>
       simp only[dM,cN,e1,e2,e3,e4,c1,c2,h1,Option.isSome_some,Option.getD_some,aF,aN,aO,aI,iA,Nat.reduceLeDiff,Nat.reduceLT,Nat.reduceSub,VX,Nat.reduceEqDiff,Nat.reduceAdd]
       exact bG (d:=6) fJ (aH (v:=VB false) rfl)
      |
       true =>
       have xX:=xX rfl
       simp only[dM,cN,e1,e2,e3,e4,c1,c2,h1,dF,xX,Option.isSome_some,Option.getD_some,aF,aN,aO,aI,iA,Nat.reduceLeDiff,Nat.reduceLT,Nat.reduceSub,VX,Nat.reduceEqDiff,Nat.reduceAdd]
       exact bG (d:=6) fJ (aH (v:=VB false) rfl)
     ·have aX:1<bK t:=by
       rcases Nat.lt_or_ge 1 (bK t) with h | h
       ·exact h
       ·exfalso
        apply h1
        unfold dY
        split
        ·decide
        ·rw[if_pos (by omega)];decide
      have X1:bl (Nat.gcd (bK d) (bK t))≤665:=Nat.le_trans (jI (Nat.le_of_dvd (by omega) (Nat.gcd_dvd_right _ _))) IY
      have c4:=iP (Nat.gcd (bK d) (bK t)) 1 (eG (by omega)) (eG (Nat.le_trans (CT (n:=1) (k:=1) (by decide)) (by decide)))
      by_cases hg:Nat.gcd (bK d) (bK t)=1
      ·have h4:dY (Nat.gcd (bK d) (bK t)) 1=0:=by rw[hg];rfl
       rw[if_pos ⟨rfl,aX,hg⟩]
       simp only[]
       rw[H5 (by omega) hg hz]
       cases neg with
       |
        false =>
        simp only[dM,cN,e1,e2,e3,e4,c1,c2,c3,c4,h1,h4,Option.isSome_some,Option.getD_some,aF,aN,aO,aI,iA,Nat.reduceLeDiff,Nat.reduceLT,Nat.reduceSub,VX,Nat.reduceEqDiff,Nat.reduceAdd]
        exact bG (d:=6) (oK (aH (v:=VB false) rfl) (aH (bH _)) (aH (bH _))) (aH (v:=VB true) rfl)
       |
        true =>
        have xX:=xX rfl
        simp only[dM,cN,e1,e2,e3,e4,c1,c2,c3,c4,h1,h4,dF,xX,Option.isSome_some,Option.getD_some,aF,aN,aO,aI,iA,Nat.reduceLeDiff,Nat.reduceLT,Nat.reduceSub,VX,Nat.reduceEqDiff,Nat.reduceAdd]
        exact bG (d:=6) (oK (aH (v:=VB true) rfl) (aH (bH _)) (aH (bH _))) (aH (v:=VB true) rfl)
      ·have h4:¬dY (Nat.gcd (bK d) (bK t)) 1=0:=by
        unfold dY
        split<;>(try split)<;>first | decide | omega
       rw[if_neg (fun h=>hg h.2.2)]
       cases neg with
       |
        false =>
        simp only[dM,cN,e1,e2,e3,e4,c1,c2,c3,c4,h1,h4,Option.isSome_some,Option.getD_some,aF,aN,aO,aI,iA,Nat.reduceLeDiff,Nat.reduceLT,Nat.reduceSub,VX,Nat.reduceEqDiff,Nat.reduceAdd]
        exact bG (d:=6) fJ (aH (v:=VB false) rfl)
       |
        true =>
        have xX:=xX rfl
        simp only[dM,cN,e1,e2,e3,e4,c1,c2,c3,c4,h1,h4,dF,xX,Option.isSome_some,Option.getD_some,aF,aN,aO,aI,iA,Nat.reduceLeDiff,Nat.reduceLT,Nat.reduceSub,VX,Nat.reduceEqDiff,Nat.reduceAdd]
        exact bG (d:=6) fJ (aH (v:=VB false) rfl)
end Go.PM
namespace Go.PM
open Go.Lib
theorem Ns {l:List UInt8} {q:Rat} (h:uZ l=some q):BU l = .eQ [bX q,VB true]:=by unfold BU;rw[h]
theorem O6 {l:List UInt8} (h:uZ l=none):BU l = .eQ [Jg,VB false]:=by unfold BU;rw[h]
theorem GN:aB Jg=[VB false,bD 0,bD 0]:=rfl
theorem Jc:isAny Jg=false:=rfl
theorem OY:dW true 3 Jg 0=some Jg:=rfl
theorem Ff (q:Rat):∃s k,EK q = .eQ [aS s,VB k]:=by
 unfold EK
 split<;>exact⟨_,_,rfl⟩
end Go.PM
namespace Go.PM
open Go.Lib
theorem F0 (q:Rat) (n:Nat) (hn:n≤1000) (hq:cE q≤100000):TC 98 [bX q,VI n] (bX (q^n)):=by
 refine TC.walk ⟨true,false⟩ Dv rfl (Nat.le_of_ble_eq_true rfl) (by simp only[aJ,fN];rfl) (sI _) ?_
 have e1:TC 97 [VI 1] (bX 1):=nE 1 (by decide) (by decide)
 simp only[yF,vE,e1,aF,bR,cY,aO,aN,aI,iA,Nat.reduceLeDiff,Nat.reduceLT,Nat.reduceSub,mT,cB,cP,gJ,kJ,nW,bne_iff_ne,ne_eq,not_false_eq_true,not_true_eq_false,VX,Nat.reduceEqDiff,Nat.reduceAdd]
 refine aY (fun(i:Nat) ρ H=>i≤n∧H=[.row 0 [.agg [VB false,.tree [] .nil,.tree [] .nil]] 3 true,.row 0 [bX (q^i)] 3 true]∧ρ 2=(bX q).cO 0∧ρ 4 = .ptr 0 0 0 0∧ρ 5 = .ptr 1 0 0 0∧ρ 7=VI n∧ρ 8=VI i) (fun i=>n-i) 0 ⟨Nat.zero_le _,?_,rfl,rfl,rfl,rfl,rfl⟩ ?_
 ·rw[Rat.pow_zero]
 rintro i ρ H ⟨hi,rfl,g2,g4,g5,g7,g8⟩
 by_cases dA:(i:Int)<(n:Int)
 ·have wi:IntKind.i64.wrap ((i:Int)+1)=((i+1:Nat):Int):=wrapN (i+1) (by omega) (by omega)
  have hb:=Cl q i
  have YS:i*cE q≤1000*100000:=Nat.mul_le_mul (by omega) hq
  have e2:=BY (q^i) q (by omega) (by omega)
  rw[←Rat.pow_succ] at e2
  simp only[nU,g2,g4,g5,g7,g8,dA,e2,wi,aF,bR,cY,aO,aN,aI,iA,Nat.reduceLeDiff,Nat.reduceLT,Nat.reduceSub,mT,cB,cP,gJ,kJ,nW,bne_iff_ne,ne_eq,not_false_eq_true,not_true_eq_false,VX,Nat.reduceEqDiff,Nat.reduceAdd]
  exact⟨i+1,by omega,by omega,rfl,rfl⟩
 ·have rS:i=n:=by omega
  subst rS
  simp only[nU,g2,g4,g5,g7,g8,dA,aF,bR,cY,aO,aN,aI,iA,Nat.reduceLeDiff,Nat.reduceLT,Nat.reduceSub,mT,cB,cP,gJ,kJ,nW,bne_iff_ne,ne_eq,not_false_eq_true,not_true_eq_false,VX,Nat.reduceEqDiff,Nat.reduceAdd]
  exact aG (fN _)
end Go.PM
namespace Go.PM
open Go.Lib
theorem Pe {α:Type} {f:α→VV} {d e b g c:Nat} {xs:List α} {H:aA} {w:Bool} (hp:∀x,aR (f x)=true) (h:aQ H b g=some (xs.map f,e,w)) (hc:xs.length≤c):fz (d+2) H (.ref b g 0 xs.length c)=some (bL f xs):=by
 have:aR (.ref b g 0 xs.length c)=false:=rfl
 unfold PM.fz
 simp only[this,h,Bool.false_eq_true,if_false]
 rw[if_pos ⟨by simp,hc⟩,List.drop_zero,List.take_of_length_le (by simp),mapM_pure (dQ hp)]
 rfl
theorem Zb {d:Nat} {H:aA}:fz (d+1) H (.tree [] .nil)=some (.tree [] .op):=by
 unfold PM.fz
 have:aR (.tree [] .nil)=false:=by simp[aR]
 simp[this]
theorem DF {H:aA}:fz depth H (.eQ [.tree [] .nil,VB false])=some (.eQ [.tree [] .op,VB false]):=bG (d:=6) Zb (aH (v:=VB false) rfl)
theorem Eu {u v:VV} (hu:gO u=true) (hv:gO v=true):gO (.eQ [u,v])=true:=by simp only[gO,pM,hu,hv,Bool.and_self]
theorem UA {u v:VV} (hu:aR u=true) (hv:aR v=true):aR (.eQ [u,v])=true:=by simp only[aR,aJ,hu,hv,Bool.and_self]
theorem adA {u v:VV} (hu:aR u=true) (hv:aR v=true):aJ [u,v]=true:=by simp only[aJ,hu,hv,Bool.and_self]
def pQ (s:ByteArray):Option Rat:=uZ s.data.toList
theorem Xp (s:ByteArray):sV s=aS s.data.toList:=rfl
def AN (xs:List ByteArray):Option (List Rat):=if xs.length≤300 then xs.mapM pQ else none
def Ku (o:Option (List Rat)):VV:=match o with
 | some qs => .eQ [bL bX qs,VB true]
 | none => .eQ [bL bX [],VB false]
theorem Fz (q:Rat):(aB (bX q)).length=3:=rfl
theorem uS (qs:List Rat):aR (bL bX qs)=true:=jA Fz fN
theorem S8 (q:Rat):xR (bX q)=true:=by simp[xR,bX,bD]
theorem K4 (qs:List Rat):gO (bL bX qs)=true:=By Fz sI S8
theorem KX (o:Option (List Rat)):gO (Ku o)=true:=by
 unfold Ku
 split
 ·exact Eu (K4 _) rfl
 ·exact Eu (K4 []) rfl
theorem Lp {α β:Type} {f:α→Option β} {xs:List α} {ys:List β} {x:α} {y:β} (h:xs.mapM f=some ys) (hx:f x=some y):(xs++[x]).mapM f=some (ys++[y]):=by
 rw[List.mapM_append,h]
 simp[hx]
theorem mapM_none {α β:Type} {f:α→Option β} {x:α} (hx:f x=none):∀ {xs:List α},x∈xs→xs.mapM f=none
 | [],h=>by cases h
 |
  y::xs,h=>by
  rw[List.mapM_cons]
  cases hy:f y with
  | none=>rfl
  |
   some z =>
   rcases List.mem_cons.1 h with rfl | h
   ·rw[hx] at hy;cases hy
   ·show ((xs.mapM f).bind fun zs=>some (z::zs))=none
    rw[mapM_none hx h];rfl
theorem mapM_mem {α β:Type} {f:α→Option β} {P:β→Prop} (hP:∀x y,f x=some y→P y):∀ {xs:List α} {ys:List β},xs.mapM f=some ys→∀y∈ys,P y
 | [],ys,h,y,hy=>by simp at h;subst h;cases hy
 |
  x::xs,ys,h,y,hy=>by
  rw[List.mapM_cons] at h
  cases hx:f x with
  | none=>rw[hx] at h;cases h
  |
   some z =>
   rw[hx] at h
   cases hs:xs.mapM f with
   | none=>rw[hs] at h;cases h
   |
    some zs =>
    rw[hs] at h
    cases h
    rcases List.mem_cons.1 hy with rfl | hy
    ·exact hP _ _ hx
    ·exact mapM_mem hP hs _ hy
theorem F8 {α:Type} {xs:List α} {i:Nat} {x:α} (h:xs[i]? = some x):xs.take (i+1)=xs.take i++[x]:=by rw[List.take_add_one,h];rfl
theorem DK {xs:List ByteArray} {qs:List Rat} (h:AN xs=some qs):(∀q∈qs,cE q≤665)∧qs.length≤300∧qs.length=xs.length:=by
 unfold AN at h
 split at h
 ·rename_i hl
  have:=uO h
  exact⟨mapM_mem (fun _ _ h=>Qi h) h,by omega,this⟩
 ·cases h
set_option maxHeartbeats 1000000 in
theorem NI (xs:List ByteArray) (hn:xs.length≤1000000000) (hs:∀s∈xs,s.size≤1000000000):TC 145 [fU xs] (Ku (AN xs)):=by
 refine TC.walk ⟨true,false⟩ O1 rfl (Nat.le_of_ble_eq_true rfl) (by simp[aJ,eI]) (KX _) ?_
 unfold AN
 by_cases Q7:(300:Int)<(xs.length:Int)
 ·rw[if_neg (by omega)]
  simp only[F9,Bq,Q7,VX,Nat.reduceEqDiff,Nat.reduceAdd]
  exact DF
 rw[if_pos (by omega)]
 have e0:=fun H=>oC (H:=H) (lr:=false) (z:=[.bool false,.slice none 0 0,.slice none 0 0]) rfl
 simp only[F9,Bq,Q7,e0,VX,Nat.reduceEqDiff,Nat.reduceAdd]
 refine I6 (fun(s:Nat×List Rat) ρ H=>s.1≤xs.length∧(xs.take s.1).mapM pQ=some s.2∧H=[.row s.1 (s.2.map bX) 3 true]∧ρ 4 = .ref 0 s.1 0 s.1 s.1∧ρ 13=fU xs∧ρ 14=VI xs.length∧ρ 15=VI s.1) (fun s=>xs.length-s.1) (0,[]) ⟨Nat.zero_le _,rfl,rfl,rfl,rfl,rfl,rfl⟩ ?_
 rintro⟨i,out⟩ ρ H ⟨hi,Ih,rfl,g4,g13,g14,g15⟩
 simp only at hi Ih g4 g15
 have iF:out.length=i:=by rw[uO Ih,List.length_take];omega
 by_cases dA:(i:Int)<(xs.length:Int)
 ·obtain⟨x,hx⟩:∃x,xs[i]? = some x:=⟨_,List.getElem?_eq_getElem (by omega)⟩
  have hxm:=List.mem_of_getElem? hx
  have e1:=fun H=>aM (f:=sV) (t := .op) (H:=H) (size:=1) (k := .i64) hx rfl
  have wi:IntKind.i64.wrap ((i:Int)+1)=((i+1:Nat):Int):=wrapN (i+1) (by omega) (by omega)
  have e2:=IP x.data.toList (by have:=hs x hxm;rw[Array.length_toList];show x.size≤_;omega)
  rw[←Xp] at e2
  cases hp:pQ x with
  |
   none =>
   rw[O6 hp] at e2
   rw[mapM_none hp hxm]
   simp only[tQ,g4,g13,g14,g15,dA,e1,e2,GN,Jc,OY,aO,aN,aI,iA,Nat.reduceLeDiff,Nat.reduceLT,Nat.reduceSub,mT,cB,cP,gJ,kJ,nW,bne_iff_ne,ne_eq,not_false_eq_true,not_true_eq_false,VX,Nat.reduceEqDiff,Nat.reduceAdd]
   exact DF
  |
   some q =>
   rw[Ns hp] at e2
   have eL:∀H,rN false [.bool false,.slice none 0 0,.slice none 0 0] 1 [(0,bX q)] H=some (.tree [bX q] (.cl 3),H):=fun H=>sK rfl rfl rfl
   have eS:∀H,eX 3 (.tree [bX q] (.cl 3)) H=some [bX q]:=fun H=>pJ rfl rfl
   have eP:gH 0 3 56 (.ref 0 i 0 i i) [bX q] [.row i (out.map bX) 3 true,.row 0 [bX q] 3 true]=some (.ref 0 (i+1) 0 (i+1) (i+1),[.row (i+1) ((out++[q]).map bX) 3 true,.row 0 [bX q] 3 true]):=by
    rw[pK (f:=bX) (xs:=out) (by rw[bT]) iF.symm (Nat.le_refl _) (by decide) (by decide) (by omega),List.set_cons_zero]
   simp only[tQ,g4,g13,g14,g15,dA,e1,e2,eL,eS,eP,wi,aF,bR,cY,aO,aN,aI,iA,Nat.reduceLeDiff,Nat.reduceLT,Nat.reduceSub,mT,cB,cP,gJ,kJ,nW,bne_iff_ne,ne_eq,not_false_eq_true,not_true_eq_false,VX,Nat.reduceEqDiff,Nat.reduceAdd]
   refine⟨(i+1,out++[q]),by simp only;omega,?_,by simp only;omega,by simp only[F8 hx];exact Lp Ih hp,rfl,?_⟩
   ·rw[uC (kM _ (dQ fN)),FB]
   ·simp only[fD,g13,g14,vP (eI _),yT (Nat.lt_succ_self 0),VX,Nat.reduceEqDiff,Nat.reduceAdd,List.take_zero,fZ,List.all_nil,List.length_nil,fD,Je,vP]
 ·have rS:i=xs.length:=by omega
  subst rS
  rw[List.take_length] at Ih
  rw[Ih]
  simp only[tQ,g4,g13,g14,g15,dA,VX,Nat.reduceEqDiff,Nat.reduceAdd]
  refine bG (d:=6) ?_ (aH (v:=VB true) rfl)
  have:=Pe (d:=5) (w:=true) (f:=bX) (e:=3) (b:=0) (g:=xs.length) (c:=xs.length) (xs:=out) (H:=[.row xs.length (out.map bX) 3 true]) fN (by rw[bT]) (by omega)
  rw[iF] at this
  exact this
end Go.PM
namespace Go.PM
end Go.PM
namespace Go.PM
theorem Av.get {b i:Nat} {H:aA} {xs:List (List ByteArray)} {x:List ByteArray} (h:Av H false xs b) (hx:xs[i]? = some x) :
  ∃b',dU false 1 (.ptr b 0 i 0) H=some (.ref b' 0 0 x.length (x.length+room x.length))∧aQ H b' 0=some ((gI kG x).map sV,1,true):=by
 obtain⟨cells,Jy,h1,h2,h3,h4,h5⟩:=h
 obtain⟨c,k1,k2⟩:=h4 i x hx
 rcases k2 with⟨k,_⟩ | ⟨b',_,rfl,k3⟩
 ·cases k
 ·refine⟨b',?_,k3⟩
  rw[kP,h1]
  simp only[List.getElem?_append_left (List.getElem?_eq_some_iff.1 k1).1,k1]
  rfl
theorem yO.ref {n:Nat} {H:aA} {x:List ByteArray} {c:VV} (h:yO n H false x c):∃b,c = .ref b 0 0 x.length (x.length+room x.length)∧aQ H b 0=some ((gI kG x).map sV,1,true):=by
 rcases h with⟨k,_⟩ | ⟨b',_,rfl,k3⟩
 ·cases k
 ·exact⟨b',rfl,k3⟩
theorem uQ.ref {n:Nat} {H:aA} {x:List (List ByteArray)} {c:VV} (h:uQ n H false x c):∃b,c = .ref b 0 0 x.length (x.length+room x.length)∧Av H false x b:=by
 rcases h with⟨k,_⟩ | ⟨b',_,rfl,k3⟩
 ·cases k
 ·exact⟨b',rfl,k3⟩
end Go.PM
namespace Go.PM
def lG:aE:=(LS [LO 4 (.mv (.const (.string ⟨#[]⟩))),LO 5 (.mv LF)] (LS [LM 9 0,LO 10 (.call 115 [(LT 9)]),LM 8 10,LO 11 (LX 8 0),LO 12 (LX 8 1),LM 6 11,LM 7 12] (.seq (LS [LM 13 7,LO 14 (.un .not (LT 13)),LM 15 14,LZ 15 16 (.mv (LT 6)),LZ 15 17 (.call 116 [(LT 16)]),LZ 15 18 (.un .not (LT 17)),LO 19 (.pick (LT 15) LG (LT 18)),LM 20 19,LZ 20 21 (.mv (LT 1)),LZ 20 22 (.call 119 [(LT 21),(LI 0),(LI 10)]),LZ 20 23 (.un .not (LT 22)),LO 24 (.pick (LT 20) LG (LT 23))] (.cond (LT 24) (LS [LO 4 (.mv (.const (.string ⟨#[]⟩))),LO 5 (.mv LF)] .ret) .skip)) (LS [LM 25 6,LM 26 1,LO 27 (.call 117 [(LT 25),(LT 26)]),LO 28 (.call 93 [(LT 27)]),LO 29 (LX 28 0),LO 30 (LX 28 1),LM 4 29,LM 5 30] .ret))))
def oH:aV:=⟨31,[(.tmp 4),(.tmp 5)],lG⟩
theorem Hs:hJ 46=some oH:=by kernel_rfl
def Bh:aE:=(LS [LO 0 (.new [(.bool false),(.slice none 0 0),(.slice none 0 0)])] (LS [LO 1 (.call 166 [(LI 0)]),LN (.store 3 (LT 0) (LT 1))] .ret))
def EG:aV:=⟨2,[(.cell 0 true 3)],Bh⟩
theorem Ii:hJ 136=some EG:=by kernel_rfl
def sD:aE:=(LS [LO 2 (.box (LT 0)),LO 3 (.box (LT 1)),LO 4 (.new [(.bool false),(.slice none 0 0),(.slice none 0 0)])] (LS [LO 8 (LA 1 2),LO 9 (LL 8),LO 10 (LA 2 3),LO 11 (LL 10),LO 12 (.call 162 [(LT 9),(LT 11)]),LM 5 12] (LS [LO 13 (LA 1 3),LO 14 (LL 13),LO 15 (LA 2 2),LO 16 (LL 15),LO 17 (.call 162 [(LT 14),(LT 16)]),LM 6 17] (LS [LO 18 (LA 2 2),LO 19 (LL 18),LO 20 (LA 2 3),LO 21 (LL 20),LO 22 (.call 162 [(LT 19),(LT 21)]),LM 7 22] (.seq (LS [LO 23 (LA 0 2),LO 24 (LL 23),LO 25 (LA 0 3),LO 26 (LL 25),LO 27 (.eqb false (LT 24) (LT 26))] (.cond (LT 27) (LS [LO 28 (LA 0 2),LO 29 (LL 28),LM 30 5,LM 31 6,LQ 32 (.call 177 [(LT 30),(LT 31)]),LM 33 7,LQ 34 (.call 164 [(LT 29),(LT 32),(LT 33)]),LN (.store 3 (LT 4) (LT 34))] .ret) .skip)) (.seq (LS [LM 35 5,LM 36 6,LO 37 (.call 178 [(LT 35),(LT 36)]),LO 38 (.bin .geq (LT 37) (LI 0))] (.cond (LT 38) (LS [LO 39 (LA 0 2),LO 40 (LL 39),LM 41 5,LM 42 6,LQ 43 (.call 179 [(LT 41),(LT 42)]),LM 44 7,LQ 45 (.call 164 [(LT 40),(LT 43),(LT 44)]),LN (.store 3 (LT 4) (LT 45))] .ret) .skip)) (LS [LO 46 (LA 0 3),LO 47 (LL 46),LM 48 6,LM 49 5,LQ 50 (.call 179 [(LT 48),(LT 49)]),LM 51 7,LQ 52 (.call 164 [(LT 47),(LT 50),(LT 51)]),LN (.store 3 (LT 4) (LT 52))] .ret)))))))
def wX:aV:=⟨53,[(.cell 4 true 3)],sD⟩
theorem J0:hJ 94=some wX:=by kernel_rfl
def Ax:aE:=(LS [LO 2 (.box (LT 0)),LO 3 (.box (LT 1)),LO 4 (.new [(.bool false),(.slice none 0 0),(.slice none 0 0)])] (LS [LO 5 (LA 0 2),LO 6 (LL 5),LO 7 (LA 0 3),LO 8 (LL 7),LO 9 (.eqb true (LT 6) (LT 8)),LO 10 (LA 1 2),LO 11 (LL 10),LO 12 (LA 1 3),LO 13 (LL 12),LQ 14 (.call 162 [(LT 11),(LT 13)]),LO 15 (LA 2 2),LO 16 (LL 15),LO 17 (LA 2 3),LO 18 (LL 17),LQ 19 (.call 162 [(LT 16),(LT 18)]),LQ 20 (.call 164 [(LT 9),(LT 14),(LT 19)]),LN (.store 3 (LT 4) (LT 20))] .ret))
def CF:aV:=⟨21,[(.cell 4 true 3)],Ax⟩
theorem G9:hJ 137=some CF:=by kernel_rfl
def xV:aE:=(LS [LO 2 (.new [(.bool false),(.slice none 0 0),(.slice none 0 0)])] (.seq (LS [LM 3 0,LO 4 (.bin .lss (LT 3) (LI 0))] (.cond (LT 4) (LS [LM 5 0,LO 6 (.un .neg (LT 5)),LO 7 (.call 161 [(LT 6)]),LO 8 (.lit [(.int .i64 0)] 1 [(0,(LI 1))]),LO 9 (.build [(.bool false),(.slice none 0 0),(.slice none 0 0)] [(0,1),(1,1),(2,1)] [(0,LG),(1,(LT 7)),(2,(LT 8))]),LN (.store 3 (LT 2) (LT 9))] .ret) .skip)) (LS [LM 10 0,LO 11 (.call 161 [(LT 10)]),LO 12 (.lit [(.int .i64 0)] 1 [(0,(LI 1))]),LO 13 (.build [(.bool false),(.slice none 0 0),(.slice none 0 0)] [(0,1),(1,1),(2,1)] [(1,(LT 11)),(2,(LT 12))]),LN (.store 3 (LT 2) (LT 13))] .ret)))
def Be:aV:=⟨14,[(.cell 2 true 3)],xV⟩
theorem Ke:hJ 166=some Be:=by kernel_rfl
def oS:aE:=(LS [LO 2 (.box (LT 0)),LO 3 (.box (LT 1)),LO 4 (.mv LF)] (LS [LO 5 (LA 0 2),LO 6 (LL 5),LO 7 (LA 0 3),LO 8 (LL 7),LO 9 (.eqb false (LT 6) (LT 8)),LM 10 9,LY 10 11 (LA 1 2),LY 10 12 (LL 11),LY 10 13 (LA 2 3),LY 10 14 (LL 13),⟨(some 15),(.call 162 [(LT 12),(LT 14)]),(some (10,true)),true,[]⟩,LY 10 16 (LA 1 3),LY 10 17 (LL 16),LY 10 18 (LA 2 2),LY 10 19 (LL 18),⟨(some 20),(.call 162 [(LT 17),(LT 19)]),(some (10,true)),true,[]⟩,⟨(some 21),(.call 178 [(LT 15),(LT 20)]),(some (10,true)),true,[]⟩,LY 10 22 (.bin .eql (LT 21) (LI 0)),LO 23 (.pick (LT 10) (LT 22) LF),LM 4 23] .ret))
def sG:aV:=⟨24,[(.tmp 4)],oS⟩
theorem Hl:hJ 197=some sG:=by kernel_rfl
def oU:aE:=(LS [LO 15 (.bin .lss (LT 14) (LT 13))] (.seq (.cond (LT 15) .skip (.exit 0)) (.seq (.block 1 (LS [LM 16 14,LM 5 16] (LS [LM 18 0,LM 19 5,LO 20 (.iaddr 1 (LT 18) (LT 19)),LO 21 (LL 20),LO 22 (.call 175 [(LT 21)]),LM 17 22,LO 23 (LX 17 0),LO 24 (LX 17 1),LO 6 (.new [(.bool false),(.slice none 0 0),(.slice none 0 0)]),LN (.store 3 (LT 6) (LT 23)),LM 7 24] (.seq (LS [LM 25 7,LO 26 (.un .not (LT 25))] (.cond (LT 26) (LS [LO 2 (.mv (.const (.slice none 0 0))),LO 3 (.mv LF)] .ret) .skip)) (.dX [LM 27 4,LO 28 (LK 6),LO 29 (.lit [(.bool false),(.slice none 0 0),(.slice none 0 0)] 1 [(0,(LT 28))]),LO 30 (.app 3 56 (LT 27) (LT 29)),LM 4 30]))))) (.dX [LO 31 (.bin .add (LT 14) (LI 1)),LM 14 31]))))
def wA:aE:=(LS [LO 2 (.mv (.const (.slice none 0 0))),LO 3 (.mv LF)] (.seq (LS [LM 8 0,LO 9 (.len (LT 8)),LO 10 (.bin .gtr (LT 9) (LI 300))] (.cond (LT 10) (LS [LO 2 (.mv (.const (.slice none 0 0))),LO 3 (.mv LF)] .ret) .skip)) (LS [LO 11 (.lit [(.bool false),(.slice none 0 0),(.slice none 0 0)] 0 []),LM 4 11] (.seq (LS [LM 12 0,LO 13 (.len (LT 12)),LO 14 (.mv (LI 0))] (.block 0 (.loop oU))) (LS [LM 32 4,LM 2 32,LO 3 (.mv LG)] .ret)))))
def zK:aV:=⟨33,[(.tmp 2),(.tmp 3)],wA⟩
theorem HX:hJ 115=some zK:=by kernel_rfl
def pY:aE:=(LS [LO 2 (.mv LF)] (LS [LM 3 0,LO 4 (.call 140 [(LT 3)]),LM 5 4,LY 5 6 (.mv (LT 0)),LY 5 7 (.call 142 [(LT 6)]),LY 5 8 (.call 124 []),LY 5 9 (.call 197 [(LT 7),(LT 8)]),LO 10 (.pick (LT 5) (LT 9) LF),LM 2 10] .ret))
def tA:aV:=⟨11,[(.tmp 2)],pY⟩
theorem DV:hJ 116=some tA:=by kernel_rfl
def uW:aE:=(LS [LO 1 (.box (LT 0)),LO 2 (.mv (.const (.string ⟨#[]⟩))),LO 3 (.mv LF)] (.seq (LS [LO 4 (LK 1),LO 5 (.call 176 [(LT 4)]),LO 6 (.un .not (LT 5))] (.cond (LT 6) (LS [LO 2 (.mv (.const (.string ⟨#[]⟩))),LO 3 (.mv LF)] .ret) .skip)) (LS [LO 7 (LK 1),LO 8 (.call 163 [(LT 7)]),LM 2 8,LO 3 (.mv LG)] .ret)))
def Aq:aV:=⟨9,[(.tmp 2),(.tmp 3)],uW⟩
theorem H6:hJ 93=some Aq:=by kernel_rfl
def qR:aE:=(LS [LO 11 (.bin .lss (LT 10) (LT 9))] (.seq (.cond (LT 11) .skip (.exit 0)) (.seq (.block 1 (LS [LM 12 10,LM 6 12] (.dX [LO 13 (LK 5),LM 14 0,LM 15 6,LO 16 (.iaddr 3 (LT 14) (LT 15)),LO 17 (LK 16),LM 18 6,LQ 19 (.call 166 [(LT 18)]),LM 20 1,LQ 21 (.call 198 [(LT 19),(LT 20)]),LQ 22 (.call 137 [(LT 17),(LT 21)]),LQ 23 (.call 94 [(LT 13),(LT 22)]),LN (.store 3 (LT 5) (LT 23))]))) (.dX [LO 24 (.bin .add (LT 10) (LI 1)),LM 10 24]))))
def yV:aE:=(LS [LO 4 (.new [(.bool false),(.slice none 0 0),(.slice none 0 0)])] (LS [LO 7 (.call 136 []),LO 5 (.new [(.bool false),(.slice none 0 0),(.slice none 0 0)]),LN (.store 3 (LT 5) (LT 7))] (.seq (LS [LM 8 0,LO 9 (.len (LT 8)),LO 10 (.mv (LI 0))] (.block 0 (.loop qR))) (LS [LO 25 (LK 5),LN (.store 3 (LT 4) (LT 25))] .ret))))
def Bd:aV:=⟨26,[(.cell 4 true 3)],yV⟩
theorem FY:hJ 117=some Bd:=by kernel_rfl
def CL:aE:=(LS [LO 0 (.new [(.bool false),(.slice none 0 0),(.slice none 0 0)])] (LS [LO 1 (.call 166 [(LI 1)]),LN (.store 3 (LT 0) (LT 1))] .ret))
def GK:aV:=⟨2,[(.cell 0 true 3)],CL⟩
theorem J2:hJ 124=some GK:=by kernel_rfl
def jT:aE:=(LS [LO 7 (.bin .lss (LT 6) (LT 5))] (.seq (.cond (LT 7) .skip (.exit 0)) (.seq (.block 1 (LS [LM 8 6,LM 3 8] (LS [LM 9 0,LM 10 3,LO 11 (.iaddr 3 (LT 9) (LT 10)),LO 12 (LA 0 11),LO 13 (LL 12)] (.cond (LT 13) (LS [LO 2 (.mv LF)] .ret) .skip)))) (.dX [LO 14 (.bin .add (LT 6) (LI 1)),LM 6 14]))))
def vC:aE:=(LS [LO 2 (.mv LF)] (.seq (LS [LM 4 0,LO 5 (.len (LT 4)),LO 6 (.mv (LI 0))] (.block 0 (.loop jT))) (LS [LO 2 (.mv LG)] .ret)))
def yC:aV:=⟨15,[(.tmp 2)],vC⟩
theorem Dy:hJ 140=some yC:=by kernel_rfl
def rI:aE:=(LS [LO 9 (.bin .lss (LT 8) (LT 7))] (.seq (.cond (LT 9) .skip (.exit 0)) (.seq (.block 1 (LS [LM 10 8,LM 4 10] (.dX [LO 11 (LK 3),LM 12 0,LM 13 4,LO 14 (.iaddr 3 (LT 12) (LT 13)),LO 15 (LK 14),LQ 16 (.call 94 [(LT 11),(LT 15)]),LN (.store 3 (LT 3) (LT 16))]))) (.dX [LO 17 (.bin .add (LT 8) (LI 1)),LM 8 17]))))
def AH:aE:=(LS [LO 2 (.new [(.bool false),(.slice none 0 0),(.slice none 0 0)])] (LS [LO 5 (.call 136 []),LO 3 (.new [(.bool false),(.slice none 0 0),(.slice none 0 0)]),LN (.store 3 (LT 3) (LT 5))] (.seq (LS [LM 6 0,LO 7 (.len (LT 6)),LO 8 (.mv (LI 0))] (.block 0 (.loop rI))) (LS [LO 18 (LK 3),LN (.store 3 (LT 2) (LT 18))] .ret))))
def CN:aV:=⟨19,[(.cell 2 true 3)],AH⟩
theorem Hp:hJ 142=some CN:=by kernel_rfl
def iO:aE:=(LS [LO 6 (.new [(.bool false),(.slice none 0 0),(.slice none 0 0)])] (LS [LM 8 1,LM 9 2,LO 10 (.call 213 [(LT 8),(LT 9)]),LM 7 10] (.seq (LS [LM 11 7,LO 12 (.lit [(.int .i64 0)] 1 [(0,(LI 1))]),LO 13 (.call 178 [(LT 11),(LT 12)]),LO 14 (.bin .neq (LT 13) (LI 0))] (.cond (LT 14) (LS [LM 16 1,LM 17 7,LO 18 (.call 214 [(LT 16),(LT 17)]),LM 15 18,LO 19 (LX 15 0),LO 20 (LX 15 1),LM 1 19] (.dX [LM 22 2,LM 23 7,LO 24 (.call 214 [(LT 22),(LT 23)]),LM 21 24,LO 25 (LX 21 0),LO 26 (LX 21 1),LM 2 25])) .skip)) (LS [LM 27 0,LM 28 27,LY 28 29 (.mv (LT 1)),LY 28 30 (.len (LT 29)),LY 28 31 (.bin .gtr (LT 30) (LI 0)),LO 32 (.pick (LT 28) (LT 31) LF),LM 33 1,LM 34 2,LO 35 (.build [(.bool false),(.slice none 0 0),(.slice none 0 0)] [(0,1),(1,1),(2,1)] [(0,(LT 32)),(1,(LT 33)),(2,(LT 34))]),LN (.store 3 (LT 6) (LT 35))] .ret))))
def kV:aV:=⟨36,[(.cell 6 true 3)],iO⟩
theorem Jq:hJ 164=some kV:=by kernel_rfl
def mK:aE:=(.seq (LS [LM 19 5,LO 20 (.bin .geq (LT 19) (LI 0))] (.cond (LT 20) .skip (.exit 0))) (.seq (.block 1 (LS [LM 23 0,LM 24 5,LO 25 (.iaddr 1 (LT 23) (LT 24)),LO 26 (LL 25),LM 27 1,LM 28 5,LO 29 (.iaddr 1 (LT 27) (LT 28)),LO 30 (LL 29),LO 31 (.bin .neq (LT 26) (LT 30))] (.cond (LT 31) (.seq (LS [LM 32 0,LM 33 5,LO 34 (.iaddr 1 (LT 32) (LT 33)),LO 35 (LL 34),LM 36 1,LM 37 5,LO 38 (.iaddr 1 (LT 36) (LT 37)),LO 39 (LL 38),LO 40 (.bin .lss (LT 35) (LT 39))] (.cond (LT 40) (LS [LO 4 (.mv (LI (-1)))] .ret) .skip)) (LS [LO 4 (.mv (LI 1))] .ret)) .skip))) (.dX [LM 21 5,LO 22 (.bin .sub (LT 21) (LI 1)),LM 5 22])))
def rZ:aE:=(LS [LO 4 (.mv (LI 0))] (.seq (LS [LM 6 0,LO 7 (.len (LT 6)),LM 8 1,LO 9 (.len (LT 8)),LO 10 (.bin .neq (LT 7) (LT 9))] (.cond (LT 10) (.seq (LS [LM 11 0,LO 12 (.len (LT 11)),LM 13 1,LO 14 (.len (LT 13)),LO 15 (.bin .lss (LT 12) (LT 14))] (.cond (LT 15) (LS [LO 4 (.mv (LI (-1)))] .ret) .skip)) (LS [LO 4 (.mv (LI 1))] .ret)) .skip)) (.seq (LS [LM 16 0,LO 17 (.len (LT 16)),LO 18 (.bin .sub (LT 17) (LI 1)),LM 5 18] (.block 0 (.loop mK))) (LS [LO 4 (.mv (LI 0))] .ret))))
def xH:aV:=⟨41,[(.tmp 4)],rZ⟩
theorem JW:hJ 178=some xH:=by kernel_rfl
def qJ:aE:=(LS [LO 24 (.bin .lss (LT 23) (LT 22))] (.seq (.cond (LT 24) .skip (.exit 2)) (.seq (.block 3 (LS [LM 25 23,LM 8 25] (LS [LM 26 5,LM 27 6,LM 28 8,LO 29 (.bin .add (LT 27) (LT 28)),LO 30 (.iaddr 1 (LT 26) (LT 29)),LO 31 (LL 30),LM 32 0,LM 33 6,LO 34 (.iaddr 1 (LT 32) (LT 33)),LO 35 (LL 34),LM 36 1,LM 37 8,LO 38 (.iaddr 1 (LT 36) (LT 37)),LO 39 (LL 38),LO 40 (.bin .mul (LT 35) (LT 39)),LO 41 (.bin .add (LT 31) (LT 40)),LM 42 7,LO 43 (.bin .add (LT 41) (LT 42)),LM 9 43] (LS [LM 44 5,LM 45 6,LM 46 8,LO 47 (.bin .add (LT 45) (LT 46)),LM 48 9,LO 49 (.bin .rem (LT 48) (LI 1000000000)),LO 50 (.iaddr 1 (LT 44) (LT 47)),LN (.store 1 (LT 50) (LT 49))] (.dX [LM 51 9,LO 52 (.bin .quo (LT 51) (LI 1000000000)),LM 7 52]))))) (.dX [LO 53 (.bin .add (LT 23) (LI 1)),LM 23 53]))))
def qK:aE:=(LS [LO 19 (.bin .lss (LT 18) (LT 17))] (.seq (.cond (LT 19) .skip (.exit 0)) (.seq (.block 1 (LS [LM 20 18,LM 6 20] (LS [LO 7 (.mv (LI 0))] (.seq (LS [LM 21 1,LO 22 (.len (LT 21)),LO 23 (.mv (LI 0))] (.block 2 (.loop qJ))) (.dX [LM 54 5,LM 55 6,LM 56 1,LO 57 (.len (LT 56)),LO 58 (.bin .add (LT 55) (LT 57)),LO 59 (.iaddr 1 (LT 54) (LT 58)),LO 60 (LL 59),LM 61 7,LO 62 (.bin .add (LT 60) (LT 61)),LO 63 (.iaddr 1 (LT 54) (LT 58)),LN (.store 1 (LT 63) (LT 62))]))))) (.dX [LO 64 (.bin .add (LT 18) (LI 1)),LM 18 64]))))
def yI:aE:=(LS [LO 4 (.mv (.const (.slice none 0 0)))] (LS [LM 10 0,LO 11 (.len (LT 10)),LM 12 1,LO 13 (.len (LT 12)),LO 14 (.bin .add (LT 11) (LT 13)),LO 15 (.make [(.int .i64 0)] 8 (LT 14) (LT 14)),LM 5 15] (.seq (LS [LM 16 0,LO 17 (.len (LT 16)),LO 18 (.mv (LI 0))] (.block 0 (.loop qK))) (LS [LM 65 5,LO 66 (.call 211 [(LT 65)]),LM 4 66] .ret))))
def Bo:aV:=⟨67,[(.tmp 4)],yI⟩
theorem Ft:hJ 162=some Bo:=by kernel_rfl
def jL:aE:=(.seq (LS [LM 10 7,LM 11 0,LO 12 (.len (LT 11)),LO 13 (.bin .lss (LT 10) (LT 12)),LM 14 13,LZ 14 15 (.mv (LT 7)),LZ 14 16 (.mv (LT 1)),LZ 14 17 (.len (LT 16)),LZ 14 18 (.bin .lss (LT 15) (LT 17)),LO 19 (.pick (LT 14) LG (LT 18)),LM 20 19,LZ 20 21 (.mv (LT 6)),LZ 20 22 (.bin .gtr (LT 21) (LI 0)),LO 23 (.pick (LT 20) LG (LT 22))] (.cond (LT 23) .skip (.exit 0))) (.seq (.block 1 (LS [LM 26 0,LM 27 7,LO 28 (.call 225 [(LT 26),(LT 27)]),LM 29 1,LM 30 7,LO 31 (.call 225 [(LT 29),(LT 30)]),LO 32 (.bin .add (LT 28) (LT 31)),LM 33 6,LO 34 (.bin .add (LT 32) (LT 33)),LM 8 34] (LS [LM 35 5,LM 36 8,LO 37 (.bin .rem (LT 36) (LI 1000000000)),LO 38 (.lit [(.int .i64 0)] 1 [(0,(LT 37))]),LO 39 (.app 1 8 (LT 35) (LT 38)),LM 5 39] (.dX [LM 40 8,LO 41 (.bin .quo (LT 40) (LI 1000000000)),LM 6 41])))) (.dX [LM 24 7,LO 25 (.bin .add (LT 24) (LI 1)),LM 7 25])))
def yN:aE:=(LS [LO 4 (.mv (.const (.slice none 0 0)))] (LS [LO 9 (.lit [(.int .i64 0)] 0 []),LM 5 9] (LS [LO 6 (.mv (LI 0))] (.seq (LS [LO 7 (.mv (LI 0))] (.block 0 (.loop jL))) (LS [LM 42 5,LM 4 42] .ret)))))
def BJ:aV:=⟨43,[(.tmp 4)],yN⟩
theorem Fe:hJ 177=some BJ:=by kernel_rfl
def kR:aE:=(LS [LO 13 (.bin .lss (LT 12) (LT 11))] (.seq (.cond (LT 13) .skip (.exit 0)) (.seq (.block 1 (LS [LM 14 12,LM 7 14] (LS [LM 15 0,LM 16 7,LO 17 (.iaddr 1 (LT 15) (LT 16)),LO 18 (LL 17),LM 19 1,LM 20 7,LQ 21 (.call 225 [(LT 19),(LT 20)]),LO 22 (.bin .sub (LT 18) (LT 21)),LM 23 6,LO 24 (.bin .sub (LT 22) (LT 23)),LM 8 24] (LS [LO 6 (.mv (LI 0))] (.seq (LS [LM 25 8,LO 26 (.bin .lss (LT 25) (LI 0))] (.cond (LT 26) (LS [LM 27 8,LO 28 (.bin .add (LT 27) (LI 1000000000)),LM 8 28] (.dX [LO 6 (.mv (LI 1))])) .skip)) (.dX [LM 29 5,LM 30 8,LO 31 (.lit [(.int .i64 0)] 1 [(0,(LT 30))]),LO 32 (.app 1 8 (LT 29) (LT 31)),LM 5 32])))))) (.dX [LO 33 (.bin .add (LT 12) (LI 1)),LM 12 33]))))
def xG:aE:=(LS [LO 4 (.mv (.const (.slice none 0 0)))] (LS [LO 9 (.lit [(.int .i64 0)] 0 []),LM 5 9] (LS [LO 6 (.mv (LI 0))] (.seq (LS [LM 10 0,LO 11 (.len (LT 10)),LO 12 (.mv (LI 0))] (.block 0 (.loop kR))) (LS [LM 34 5,LO 35 (.call 211 [(LT 34)]),LM 4 35] .ret)))))
def AG:aV:=⟨36,[(.tmp 4)],xG⟩
theorem EJ:hJ 179=some AG:=by kernel_rfl
def vS:aE:=(.seq (LS [LM 5 0,LO 6 (.bin .gtr (LT 5) (LI 0))] (.cond (LT 6) .skip (.exit 0))) (.block 1 (LS [LM 7 3,LM 8 0,LO 9 (.bin .rem (LT 8) (LI 1000000000)),LO 10 (.lit [(.int .i64 0)] 1 [(0,(LT 9))]),LO 11 (.app 1 8 (LT 7) (LT 10)),LM 3 11] (.dX [LM 12 0,LO 13 (.bin .quo (LT 12) (LI 1000000000)),LM 0 13]))))
def C1:aE:=(LS [LO 2 (.mv (.const (.slice none 0 0)))] (LS [LO 4 (.lit [(.int .i64 0)] 0 []),LM 3 4] (.seq (.block 0 (.loop vS)) (LS [LM 14 3,LM 2 14] .ret))))
def GZ:aV:=⟨15,[(.tmp 2)],C1⟩
theorem JK:hJ 161=some GZ:=by kernel_rfl
def aZ:aE:=(LS [LO 2 (.new [(.bool false),(.slice none 0 0),(.slice none 0 0)]),LO 3 (.mv LF)] (LS [LM 8 0,LO 9 (.slen (LT 8)),LO 10 (.bin .gtr (LT 9) (LI 0)),LM 11 10,LY 11 12 (.mv (LT 0)),LY 11 13 (.sidx (LT 12) (LI 0)),LY 11 14 (.bin .eql (LT 13) (.const (.int .u8 45))),LO 15 (.pick (LT 11) (LT 14) LF),LM 4 15] (.seq (LS [LM 16 4] (.cond (LT 16) (.dX [LM 17 0,LO 18 (.ssub (LT 17) (some (LI 1)) none),LM 0 18]) .skip)) (LS [LM 19 0,LO 20 (.call 222 [(LT 19),(.const (.int .u8 47))]),LM 5 20] (.seq (LS [LM 21 5,LO 22 (.len (LT 21)),LO 23 (.bin .gtr (LT 22) (LI 2)),LM 24 23,LZ 24 25 (.mv (LT 5)),LZ 24 26 (.iaddr 1 (LT 25) (LI 0)),LZ 24 27 (LL 26),LZ 24 28 (.call 223 [(LT 27)]),LZ 24 29 (.un .not (LT 28)),LO 30 (.pick (LT 24) LG (LT 29))] (.cond (LT 30) (LS [LO 31 (.build [(.bool false),(.slice none 0 0),(.slice none 0 0)] [(0,1),(1,1),(2,1)] []),LN (.store 3 (LT 2) (LT 31)),LO 3 (.mv LF)] .ret) .skip)) (LS [LM 32 5,LO 33 (.iaddr 1 (LT 32) (LI 0)),LO 34 (LL 33),LO 35 (.call 224 [(LT 34)]),LM 6 35] (.seq (LS [LM 36 4,LM 37 36,LY 37 38 (.mv (LT 6)),LY 37 39 (.len (LT 38)),LY 37 40 (.bin .eql (LT 39) (LI 0)),LO 41 (.pick (LT 37) (LT 40) LF)] (.cond (LT 41) (LS [LO 42 (.build [(.bool false),(.slice none 0 0),(.slice none 0 0)] [(0,1),(1,1),(2,1)] []),LN (.store 3 (LT 2) (LT 42)),LO 3 (.mv LF)] .ret) .skip)) (.seq (LS [LM 43 5,LO 44 (.len (LT 43)),LO 45 (.bin .eql (LT 44) (LI 1))] (.cond (LT 45) (LS [LM 46 4,LM 47 6,LO 48 (.lit [(.int .i64 0)] 1 [(0,(LI 1))]),LO 49 (.build [(.bool false),(.slice none 0 0),(.slice none 0 0)] [(0,1),(1,1),(2,1)] [(0,(LT 46)),(1,(LT 47)),(2,(LT 48))]),LN (.store 3 (LT 2) (LT 49)),LO 3 (.mv LG)] .ret) .skip)) (.seq (LS [LM 50 5,LO 51 (.iaddr 1 (LT 50) (LI 1)),LO 52 (LL 51),LO 53 (.call 223 [(LT 52)]),LO 54 (.un .not (LT 53))] (.cond (LT 54) (LS [LO 55 (.build [(.bool false),(.slice none 0 0),(.slice none 0 0)] [(0,1),(1,1),(2,1)] []),LN (.store 3 (LT 2) (LT 55)),LO 3 (.mv LF)] .ret) .skip)) (LS [LM 56 5,LO 57 (.iaddr 1 (LT 56) (LI 1)),LO 58 (LL 57),LO 59 (.call 224 [(LT 58)]),LM 7 59] (.seq (LS [LM 60 7,LO 61 (.lit [(.int .i64 0)] 1 [(0,(LI 1))]),LO 62 (.call 178 [(LT 60),(LT 61)]),LO 63 (.bin .leq (LT 62) (LI 0)),LM 64 63,LZ 64 65 (.mv (LT 6)),LZ 64 66 (.mv (LT 7)),LZ 64 67 (.call 213 [(LT 65),(LT 66)]),LZ 64 68 (.lit [(.int .i64 0)] 1 [(0,(LI 1))]),LZ 64 69 (.call 178 [(LT 67),(LT 68)]),LZ 64 70 (.bin .neq (LT 69) (LI 0)),LO 71 (.pick (LT 64) LG (LT 70))] (.cond (LT 71) (LS [LO 72 (.build [(.bool false),(.slice none 0 0),(.slice none 0 0)] [(0,1),(1,1),(2,1)] []),LN (.store 3 (LT 2) (LT 72)),LO 3 (.mv LF)] .ret) .skip)) (LS [LM 73 4,LM 74 6,LM 75 7,LO 76 (.build [(.bool false),(.slice none 0 0),(.slice none 0 0)] [(0,1),(1,1),(2,1)] [(0,(LT 73)),(1,(LT 74)),(2,(LT 75))]),LN (.store 3 (LT 2) (LT 76)),LO 3 (.mv LG)] .ret))))))))))))
def bO:aV:=⟨77,[(.cell 2 true 3),(.tmp 3)],aZ⟩
theorem Hf:hJ 175=some bO:=by kernel_rfl
def vG:aE:=(LS [LO 1 (.box (LT 0)),LO 2 (.mv LF)] (LS [LO 3 (LA 1 1),LO 4 (LL 3),LO 5 (.call 212 [(LT 4)]),LO 6 (.slen (LT 5)),LO 7 (.bin .leq (LT 6) (LI 200)),LM 8 7,LY 8 9 (LA 2 1),LY 8 10 (LL 9),LY 8 11 (.call 212 [(LT 10)]),LY 8 12 (.slen (LT 11)),LY 8 13 (.bin .leq (LT 12) (LI 200)),LO 14 (.pick (LT 8) (LT 13) LF),LM 2 14] .ret))
def zQ:aV:=⟨15,[(.tmp 2)],vG⟩
theorem JB:hJ 176=some zQ:=by kernel_rfl
def wF:aE:=(LS [LO 1 (.box (LT 0)),LO 2 (.mv (.const (.string ⟨#[]⟩)))] (LS [LO 4 (LA 1 1),LO 5 (LL 4),LO 6 (.call 212 [(LT 5)]),LM 3 6] (.seq (LS [LO 7 (LA 0 1),LO 8 (LL 7)] (.cond (LT 8) (.dX [LM 9 3,LO 10 (.bin .add (.const (.string ⟨#[45]⟩)) (LT 9)),LM 3 10]) .skip)) (.seq (LS [LO 11 (LA 2 1),LO 12 (LL 11),LO 13 (.lit [(.int .i64 0)] 1 [(0,(LI 1))]),LO 14 (.call 178 [(LT 12),(LT 13)]),LO 15 (.bin .neq (LT 14) (LI 0))] (.cond (LT 15) (.dX [LM 16 3,LO 17 (LA 2 1),LO 18 (LL 17),LO 19 (.call 212 [(LT 18)]),LO 20 (.bin .add (.const (.string ⟨#[47]⟩)) (LT 19)),LO 21 (.bin .add (LT 16) (LT 20)),LM 3 21]) .skip)) (LS [LM 22 3,LM 2 22] .ret)))))
def Af:aV:=⟨23,[(.tmp 2)],wF⟩
theorem Jk:hJ 163=some Af:=by kernel_rfl
def rA:aE:=(.seq (LS [LM 7 1,LO 8 (.bin .gtr (LT 7) (LI 0))] (.cond (LT 8) .skip (.exit 0))) (.seq (.block 1 (.dX [LO 11 (LK 5),LO 12 (LK 2),LO 13 (.call 137 [(LT 11),(LT 12)]),LN (.store 3 (LT 5) (LT 13))])) (.dX [LM 9 1,LO 10 (.bin .sub (LT 9) (LI 1)),LM 1 10])))
def Ay:aE:=(LS [LO 2 (.box (LT 0)),LO 4 (.new [(.bool false),(.slice none 0 0),(.slice none 0 0)])] (LS [LO 6 (.call 124 []),LO 5 (.new [(.bool false),(.slice none 0 0),(.slice none 0 0)]),LN (.store 3 (LT 5) (LT 6))] (.seq (.block 0 (.loop rA)) (LS [LO 14 (LK 5),LN (.store 3 (LT 4) (LT 14))] .ret))))
def C2:aV:=⟨15,[(.cell 4 true 3)],Ay⟩
theorem Hc:hJ 198=some C2:=by kernel_rfl
def uM:aE:=(.seq (LS [LM 7 1,LO 8 (.len (LT 7)),LO 9 (.bin .gtr (LT 8) (LI 0))] (.cond (LT 9) .skip (.exit 0))) (.block 1 (LS [LM 11 0,LM 12 1,LO 13 (.call 214 [(LT 11),(LT 12)]),LM 10 13,LO 14 (LX 10 0),LO 15 (LX 10 1),LM 5 14,LM 6 15] (LS [LM 16 1,LM 0 16] (.dX [LM 17 6,LM 1 17])))))
def CR:aE:=(LS [LO 4 (.mv (.const (.slice none 0 0)))] (.seq (.block 0 (.loop uM)) (LS [LM 18 0,LM 4 18] .ret)))
def GO:aV:=⟨19,[(.tmp 4)],CR⟩
theorem Kb:hJ 213=some GO:=by kernel_rfl
def fI:aE:=(.seq (LS [LM 132 19,LO 133 (.bin .geq (LT 132) (LI 1000000000)),LM 134 133,LZ 134 135 (.mv (LT 19)),LZ 134 136 (.mv (LT 14)),LZ 134 137 (.mv (LT 15)),LZ 134 138 (.bin .sub (LT 137) (LI 2)),LZ 134 139 (.iaddr 1 (LT 136) (LT 138)),LZ 134 140 (LL 139),LZ 134 141 (.bin .mul (LT 135) (LT 140)),LZ 134 142 (.mv (LT 20)),LZ 134 143 (.bin .mul (LT 142) (LI 1000000000)),LZ 134 144 (.mv (LT 13)),LZ 134 145 (.mv (LT 17)),LZ 134 146 (.mv (LT 15)),LZ 134 147 (.bin .add (LT 145) (LT 146)),LZ 134 148 (.bin .sub (LT 147) (LI 2)),LZ 134 149 (.iaddr 1 (LT 144) (LT 148)),LZ 134 150 (LL 149),LZ 134 151 (.bin .add (LT 143) (LT 150)),LZ 134 152 (.bin .gtr (LT 141) (LT 151)),LO 153 (.pick (LT 134) LG (LT 152))] (.cond (LT 153) .skip (.exit 2))) (.block 3 (LS [LM 154 19,LO 155 (.bin .sub (LT 154) (LI 1)),LM 19 155] (LS [LM 156 20,LM 157 14,LM 158 15,LO 159 (.bin .sub (LT 158) (LI 1)),LO 160 (.iaddr 1 (LT 157) (LT 159)),LO 161 (LL 160),LO 162 (.bin .add (LT 156) (LT 161)),LM 20 162] (LS [LM 163 20,LO 164 (.bin .geq (LT 163) (LI 1000000000))] (.cond (LT 164) (.exit 2) .skip))))))
def gP:aE:=(.seq (LS [LM 99 17,LO 100 (.bin .geq (LT 99) (LI 0))] (.cond (LT 100) .skip (.exit 0))) (.seq (.block 1 (LS [LM 103 13,LM 104 17,LM 105 15,LO 106 (.bin .add (LT 104) (LT 105)),LO 107 (.iaddr 1 (LT 103) (LT 106)),LO 108 (LL 107),LO 109 (.bin .mul (LT 108) (LI 1000000000)),LM 110 13,LM 111 17,LM 112 15,LO 113 (.bin .add (LT 111) (LT 112)),LO 114 (.bin .sub (LT 113) (LI 1)),LO 115 (.iaddr 1 (LT 110) (LT 114)),LO 116 (LL 115),LO 117 (.bin .add (LT 109) (LT 116)),LM 18 117] (LS [LM 118 18,LM 119 14,LM 120 15,LO 121 (.bin .sub (LT 120) (LI 1)),LO 122 (.iaddr 1 (LT 119) (LT 121)),LO 123 (LL 122),LO 124 (.bin .quo (LT 118) (LT 123)),LM 125 18,LM 126 14,LM 127 15,LO 128 (.bin .sub (LT 127) (LI 1)),LO 129 (.iaddr 1 (LT 126) (LT 128)),LO 130 (LL 129),LO 131 (.bin .rem (LT 125) (LT 130)),LM 19 124,LM 20 131] (.seq (.block 2 (.loop fI)) (.seq (LS [LM 165 13,LM 166 14,LM 167 17,LM 168 19,LO 169 (.call 239 [(LT 165),(LT 166),(LT 167),(LT 168)])] (.cond (LT 169) (LS [LM 170 19,LO 171 (.bin .sub (LT 170) (LI 1)),LM 19 171] (.dX [LM 172 13,LM 173 14,LM 174 17,LO 175 (.call 240 [(LT 172),(LT 173),(LT 174)])])) .skip)) (.dX [LM 176 16,LM 177 17,LM 178 19,LO 179 (.iaddr 1 (LT 176) (LT 177)),LN (.store 1 (LT 179) (LT 178))])))))) (.dX [LM 101 17,LO 102 (.bin .sub (LT 101) (LI 1)),LM 17 102])))
def cU:aE:=(LS [LO 4 (.mv (.const (.slice none 0 0))),LO 5 (.mv (.const (.slice none 0 0)))] (LS [LM 24 0,LO 25 (.call 236 [(LT 24)]),LM 23 25,LO 26 (LX 23 0),LO 27 (LX 23 1),LM 6 26,LM 7 27] (LS [LM 29 1,LO 30 (.call 236 [(LT 29)]),LM 28 30,LO 31 (LX 28 0),LO 32 (LX 28 1),LM 8 31,LM 9 32] (.seq (LS [LM 33 7,LM 34 33,LY 34 35 (.mv (LT 9)),LO 36 (.pick (LT 34) (LT 35) LF)] (.cond (LT 36) (LS [LM 37 6,LM 38 8,LO 39 (.bin .quo (LT 37) (LT 38)),LQ 40 (.call 161 [(LT 39)]),LM 41 6,LM 42 8,LO 43 (.bin .rem (LT 41) (LT 42)),LQ 44 (.call 161 [(LT 43)]),LM 4 40,LM 5 44] .ret) .skip)) (.seq (LS [LM 45 0,LM 46 1,LO 47 (.call 178 [(LT 45),(LT 46)]),LO 48 (.bin .lss (LT 47) (LI 0))] (.cond (LT 48) (LS [LO 49 (.lit [(.int .i64 0)] 0 []),LO 50 (.lit [(.int .i64 0)] 0 []),LM 51 0,LO 52 (.app 1 8 (LT 50) (LT 51)),LM 4 49,LM 5 52] .ret) .skip)) (.seq (LS [LM 53 1,LO 54 (.len (LT 53)),LO 55 (.bin .eql (LT 54) (LI 1))] (.cond (LT 55) (LS [LM 57 0,LM 58 1,LO 59 (.iaddr 1 (LT 58) (LI 0)),LO 60 (LL 59),LO 61 (.call 237 [(LT 57),(LT 60)]),LM 56 61,LO 62 (LX 56 0),LO 63 (LX 56 1),LM 10 62,LM 11 63] (LS [LM 64 10,LM 65 11,LO 66 (.call 161 [(LT 65)]),LM 4 64,LM 5 66] .ret)) .skip)) (LS [LM 67 1,LM 68 1,LO 69 (.len (LT 68)),LO 70 (.bin .sub (LT 69) (LI 1)),LO 71 (.iaddr 1 (LT 67) (LT 70)),LO 72 (LL 71),LO 73 (.bin .add (LT 72) (LI 1)),LO 74 (.bin .quo (LI 1000000000) (LT 73)),LM 12 74] (LS [LM 75 0,LO 76 (.len (LT 75)),LO 77 (.bin .add (LT 76) (LI 1)),LO 78 (.make [(.int .i64 0)] 8 (LT 77) (LT 77)),LM 13 78] (LS [LM 79 13,LM 80 0,LM 81 12,LO 82 (.call 238 [(LT 80),(LT 81)]),LO 83 (.copy 1 (LT 79) (LT 82))] (LS [LM 84 1,LM 85 12,LO 86 (.call 238 [(LT 84),(LT 85)]),LM 14 86] (LS [LM 87 14,LO 88 (.len (LT 87)),LM 15 88] (LS [LM 89 13,LO 90 (.len (LT 89)),LM 91 15,LO 92 (.bin .sub (LT 90) (LT 91)),LO 93 (.make [(.int .i64 0)] 8 (LT 92) (LT 92)),LM 16 93] (.seq (LS [LM 94 13,LO 95 (.len (LT 94)),LM 96 15,LO 97 (.bin .sub (LT 95) (LT 96)),LO 98 (.bin .sub (LT 97) (LI 1)),LM 17 98] (.block 0 (.loop gP))) (LS [LM 181 13,LO 182 (.call 211 [(LT 181)]),LM 183 12,LO 184 (.call 237 [(LT 182),(LT 183)]),LM 180 184,LO 185 (LX 180 0),LO 186 (LX 180 1),LM 21 185,LM 22 186] (LS [LM 187 16,LO 188 (.call 211 [(LT 187)]),LM 189 21,LM 4 188,LM 5 189] .ret)))))))))))))))
def dZ:aV:=⟨190,[(.tmp 4),(.tmp 5)],cU⟩
theorem FF:hJ 214=some dZ:=by kernel_rfl
def oL:aE:=(.seq (LS [LM 3 0,LO 4 (.len (LT 3)),LO 5 (.bin .gtr (LT 4) (LI 0)),LM 6 5,LY 6 7 (.mv (LT 0)),LY 6 8 (.mv (LT 0)),LY 6 9 (.len (LT 8)),LY 6 10 (.bin .sub (LT 9) (LI 1)),LY 6 11 (.iaddr 1 (LT 7) (LT 10)),LY 6 12 (LL 11),LY 6 13 (.bin .eql (LT 12) (LI 0)),LO 14 (.pick (LT 6) (LT 13) LF)] (.cond (LT 14) .skip (.exit 0))) (.block 1 (.dX [LM 15 0,LM 16 0,LO 17 (.len (LT 16)),LO 18 (.bin .sub (LT 17) (LI 1)),LO 19 (.sub 1 (LT 15) none (some (LT 18)) none),LM 0 19])))
def Bm:aE:=(LS [LO 2 (.mv (.const (.slice none 0 0)))] (.seq (.block 0 (.loop oL)) (LS [LM 20 0,LM 2 20] .ret)))
def EO:aV:=⟨21,[(.tmp 2)],Bm⟩
theorem ID:hJ 211=some EO:=by kernel_rfl
def tE:aE:=(LS [LO 4 (.mv (LI 0))] (.seq (LS [LM 5 1,LM 6 0,LO 7 (.len (LT 6)),LO 8 (.bin .lss (LT 5) (LT 7))] (.cond (LT 8) (LS [LM 9 0,LM 10 1,LO 11 (.iaddr 1 (LT 9) (LT 10)),LO 12 (LL 11),LM 4 12] .ret) .skip)) (LS [LO 4 (.mv (LI 0))] .ret)))
def xL:aV:=⟨13,[(.tmp 4)],tE⟩
theorem Hn:hJ 225=some xL:=by kernel_rfl
def mU:aE:=(.seq (LS [LM 9 7,LM 10 0,LO 11 (.slen (LT 10)),LO 12 (.bin .leq (LT 9) (LT 11))] (.cond (LT 12) .skip (.exit 0))) (.seq (.block 1 (LS [LM 15 7,LM 16 0,LO 17 (.slen (LT 16)),LO 18 (.bin .eql (LT 15) (LT 17)),LM 19 18,LZ 19 20 (.mv (LT 0)),LZ 19 21 (.mv (LT 7)),LZ 19 22 (.sidx (LT 20) (LT 21)),LZ 19 23 (.mv (LT 1)),LZ 19 24 (.bin .eql (LT 22) (LT 23)),LO 25 (.pick (LT 19) LG (LT 24))] (.cond (LT 25) (LS [LM 26 5,LM 27 0,LM 28 6,LM 29 7,LO 30 (.ssub (LT 27) (some (LT 28)) (some (LT 29))),LO 31 (.lit [(.string ⟨#[]⟩)] 1 [(0,(LT 30))]),LO 32 (.app 1 16 (LT 26) (LT 31)),LM 5 32] (.dX [LM 33 7,LO 34 (.bin .add (LT 33) (LI 1)),LM 6 34])) .skip))) (.dX [LM 13 7,LO 14 (.bin .add (LT 13) (LI 1)),LM 7 14])))
def CV:aE:=(LS [LO 4 (.mv (.const (.slice none 0 0)))] (LS [LO 8 (.lit [(.string ⟨#[]⟩)] 0 []),LM 5 8] (LS [LO 6 (.mv (LI 0))] (.seq (LS [LO 7 (.mv (LI 0))] (.block 0 (.loop mU))) (LS [LM 35 5,LM 4 35] .ret)))))
def GG:aV:=⟨36,[(.tmp 4)],CV⟩
theorem JN:hJ 222=some GG:=by kernel_rfl
def cZ:aE:=(.seq (LS [LM 4 3,LM 5 0,LO 6 (.slen (LT 5)),LO 7 (.bin .lss (LT 4) (LT 6))] (.cond (LT 7) .skip (.exit 0))) (.seq (.block 1 (LS [LM 10 0,LM 11 3,LO 12 (.sidx (LT 10) (LT 11)),LO 13 (.bin .lss (LT 12) (.const (.int .u8 48))),LM 14 13,LZ 14 15 (.mv (LT 0)),LZ 14 16 (.mv (LT 3)),LZ 14 17 (.sidx (LT 15) (LT 16)),LZ 14 18 (.bin .gtr (LT 17) (.const (.int .u8 57))),LO 19 (.pick (LT 14) LG (LT 18))] (.cond (LT 19) (LS [LO 2 (.mv LF)] .ret) .skip))) (.dX [LM 8 3,LO 9 (.bin .add (LT 8) (LI 1)),LM 3 9])))
def yP:aE:=(LS [LO 2 (.mv LF)] (.seq (LS [LO 3 (.mv (LI 0))] (.block 0 (.loop cZ))) (LS [LM 20 0,LO 21 (.slen (LT 20)),LO 22 (.bin .geq (LT 21) (LI 1)),LM 23 22,LY 23 24 (.mv (LT 0)),LY 23 25 (.slen (LT 24)),LY 23 26 (.bin .leq (LT 25) (LI 200)),LO 27 (.pick (LT 23) (LT 26) LF),LM 28 27,LY 28 29 (.mv (LT 0)),LY 28 30 (.slen (LT 29)),LY 28 31 (.bin .eql (LT 30) (LI 1)),LY 28 32 (.mv (LT 31)),LZ 32 33 (.mv (LT 0)),LZ 32 34 (.sidx (LT 33) (LI 0)),LZ 32 35 (.bin .neq (LT 34) (.const (.int .u8 48))),LY 28 36 (.pick (LT 32) LG (LT 35)),LO 37 (.pick (LT 28) (LT 36) LF),LM 2 37] .ret)))
def A8:aV:=⟨38,[(.tmp 2)],yP⟩
theorem FR:hJ 223=some A8:=by kernel_rfl
def kS:aE:=(.seq (LS [LM 20 7,LM 21 4,LO 22 (.bin .lss (LT 20) (LT 21))] (.cond (LT 22) .skip (.exit 2))) (.seq (.block 3 (.dX [LM 25 6,LO 26 (.bin .mul (LI 10) (LT 25)),LM 27 0,LM 28 7,LO 29 (.sidx (LT 27) (LT 28)),LO 30 (.bin .sub (LT 29) (.const (.int .u8 48))),LO 31 (.cvt .i64 (LT 30)),LO 32 (.bin .add (LT 26) (LT 31)),LM 6 32])) (.dX [LM 23 7,LO 24 (.bin .add (LT 23) (LI 1)),LM 7 24])))
def lC:aE:=(.seq (LS [LM 11 4,LO 12 (.bin .gtr (LT 11) (LI 0))] (.cond (LT 12) .skip (.exit 0))) (.seq (.block 1 (LS [LO 5 (.mv (LI 0))] (.seq (LS [LM 15 4,LO 16 (.bin .gtr (LT 15) (LI 9))] (.cond (LT 16) (.dX [LM 17 4,LO 18 (.bin .sub (LT 17) (LI 9)),LM 5 18]) .skip)) (LS [LO 6 (.mv (LI 0))] (.seq (LS [LM 19 5,LM 7 19] (.block 2 (.loop kS))) (.dX [LM 33 3,LM 34 6,LO 35 (.lit [(.int .i64 0)] 1 [(0,(LT 34))]),LO 36 (.app 1 8 (LT 33) (LT 35)),LM 3 36])))))) (.dX [LM 13 4,LO 14 (.bin .sub (LT 13) (LI 9)),LM 4 14])))
def xE:aE:=(LS [LO 2 (.mv (.const (.slice none 0 0)))] (LS [LO 8 (.lit [(.int .i64 0)] 0 []),LM 3 8] (.seq (LS [LM 9 0,LO 10 (.slen (LT 9)),LM 4 10] (.block 0 (.loop lC))) (LS [LM 37 3,LO 38 (.call 211 [(LT 37)]),LM 2 38] .ret))))
def AA:aV:=⟨39,[(.tmp 2)],xE⟩
theorem Ee:hJ 224=some AA:=by kernel_rfl
def oW:aE:=(.seq (LS [LM 19 4,LO 20 (.bin .geq (LT 19) (LI 0))] (.cond (LT 20) .skip (.exit 0))) (.seq (.block 1 (LS [LM 23 0,LM 24 4,LO 25 (.iaddr 1 (LT 23) (LT 24)),LO 26 (LL 25),LO 27 (.bin .add (LT 26) (LI 1000000000)),LO 28 (.call 235 [(LT 27)]),LM 5 28] (.dX [LM 29 3,LM 30 5,LO 31 (.ssub (LT 30) (some (LI 1)) none),LO 32 (.bin .add (LT 29) (LT 31)),LM 3 32]))) (.dX [LM 21 4,LO 22 (.bin .sub (LT 21) (LI 1)),LM 4 22])))
def qQ:aE:=(LS [LO 2 (.mv (.const (.string ⟨#[]⟩)))] (.seq (LS [LM 6 0,LO 7 (.len (LT 6)),LO 8 (.bin .eql (LT 7) (LI 0))] (.cond (LT 8) (LS [LO 2 (.mv (.const (.string ⟨#[48]⟩)))] .ret) .skip)) (LS [LM 9 0,LM 10 0,LO 11 (.len (LT 10)),LO 12 (.bin .sub (LT 11) (LI 1)),LO 13 (.iaddr 1 (LT 9) (LT 12)),LO 14 (LL 13),LO 15 (.call 235 [(LT 14)]),LM 3 15] (.seq (LS [LM 16 0,LO 17 (.len (LT 16)),LO 18 (.bin .sub (LT 17) (LI 2)),LM 4 18] (.block 0 (.loop oW))) (LS [LM 33 3,LM 2 33] .ret)))))
def sZ:aV:=⟨34,[(.tmp 2)],qQ⟩
theorem D8:hJ 212=some sZ:=by kernel_rfl
def tD:aE:=(LS [LO 2 (.mv (LI 0)),LO 3 (.mv LF)] (.seq (LS [LM 4 0,LO 5 (.len (LT 4)),LO 6 (.bin .gtr (LT 5) (LI 2))] (.cond (LT 6) (LS [LO 2 (.mv (LI 0)),LO 3 (.mv LF)] .ret) .skip)) (LS [LM 7 0,LO 8 (.call 225 [(LT 7),(LI 0)]),LM 9 0,LO 10 (.call 225 [(LT 9),(LI 1)]),LO 11 (.bin .mul (LI 1000000000) (LT 10)),LO 12 (.bin .add (LT 8) (LT 11)),LM 2 12,LO 3 (.mv LG)] .ret)))
def xN:aV:=⟨13,[(.tmp 2),(.tmp 3)],tD⟩
theorem He:hJ 236=some xN:=by kernel_rfl
def nY:aE:=(.seq (LS [LM 16 8,LO 17 (.bin .geq (LT 16) (LI 0))] (.cond (LT 17) .skip (.exit 0))) (.seq (.block 1 (LS [LM 20 7,LO 21 (.bin .mul (LT 20) (LI 1000000000)),LM 22 0,LM 23 8,LO 24 (.iaddr 1 (LT 22) (LT 23)),LO 25 (LL 24),LO 26 (.bin .add (LT 21) (LT 25)),LM 9 26] (LS [LM 27 6,LM 28 8,LM 29 9,LM 30 1,LO 31 (.bin .quo (LT 29) (LT 30)),LO 32 (.iaddr 1 (LT 27) (LT 28)),LN (.store 1 (LT 32) (LT 31))] (.dX [LM 33 9,LM 34 1,LO 35 (.bin .rem (LT 33) (LT 34)),LM 7 35])))) (.dX [LM 18 8,LO 19 (.bin .sub (LT 18) (LI 1)),LM 8 19])))
def vY:aE:=(LS [LO 4 (.mv (.const (.slice none 0 0))),LO 5 (.mv (LI 0))] (LS [LM 10 0,LO 11 (.len (LT 10)),LO 12 (.make [(.int .i64 0)] 8 (LT 11) (LT 11)),LM 6 12] (LS [LO 7 (.mv (LI 0))] (.seq (LS [LM 13 0,LO 14 (.len (LT 13)),LO 15 (.bin .sub (LT 14) (LI 1)),LM 8 15] (.block 0 (.loop nY))) (LS [LM 36 6,LO 37 (.call 211 [(LT 36)]),LM 38 7,LM 4 37,LM 5 38] .ret)))))
def yW:aV:=⟨39,[(.tmp 4),(.tmp 5)],vY⟩
theorem Ds:hJ 237=some yW:=by kernel_rfl
def jR:aE:=(LS [LO 17 (.bin .lss (LT 16) (LT 15))] (.seq (.cond (LT 17) .skip (.exit 0)) (.seq (.block 1 (LS [LO 18 (.iaddr 1 (LT 14) (LT 16)),LO 19 (LL 18),LM 8 19] (LS [LM 20 8,LM 21 1,LO 22 (.bin .mul (LT 20) (LT 21)),LM 23 6,LO 24 (.bin .add (LT 22) (LT 23)),LM 9 24] (LS [LM 25 5,LM 26 9,LO 27 (.bin .rem (LT 26) (LI 1000000000)),LO 28 (.lit [(.int .i64 0)] 1 [(0,(LT 27))]),LO 29 (.app 1 8 (LT 25) (LT 28)),LM 5 29] (.dX [LM 30 9,LO 31 (.bin .quo (LT 30) (LI 1000000000)),LM 6 31]))))) (.dX [LO 32 (.bin .add (LT 16) (LI 1)),LM 16 32]))))
def vA:aE:=(LS [LO 4 (.mv (.const (.slice none 0 0)))] (LS [LM 10 0,LO 11 (.len (LT 10)),LO 12 (.bin .add (LT 11) (LI 1)),LO 13 (.make [(.int .i64 0)] 8 (LI 0) (LT 12)),LM 5 13] (LS [LO 6 (.mv (LI 0))] (.seq (LS [LM 14 0,LO 15 (.len (LT 14)),LO 16 (.mv (LI 0))] (.block 0 (.loop jR))) (.seq (LS [LM 33 6,LO 34 (.bin .gtr (LT 33) (LI 0))] (.cond (LT 34) (.dX [LM 35 5,LM 36 6,LO 37 (.lit [(.int .i64 0)] 1 [(0,(LT 36))]),LO 38 (.app 1 8 (LT 35) (LT 37)),LM 5 38]) .skip)) (LS [LM 39 5,LM 4 39] .ret))))))
def zB:aV:=⟨40,[(.tmp 4)],vA⟩
theorem DH:hJ 238=some zB:=by kernel_rfl
def iQ:aE:=(LS [LO 16 (.bin .lss (LT 15) (LT 14))] (.seq (.cond (LT 16) .skip (.exit 0)) (.seq (.block 1 (LS [LM 17 15,LO 18 (.iaddr 1 (LT 13) (LT 15)),LO 19 (LL 18),LM 10 17,LM 11 19] (LS [LM 20 0,LM 21 2,LM 22 10,LO 23 (.bin .add (LT 21) (LT 22)),LO 24 (.iaddr 1 (LT 20) (LT 23)),LO 25 (LL 24),LM 26 11,LM 27 3,LO 28 (.bin .mul (LT 26) (LT 27)),LO 29 (.bin .rem (LT 28) (LI 1000000000)),LO 30 (.bin .sub (LT 25) (LT 29)),LM 31 9,LO 32 (.bin .sub (LT 30) (LT 31)),LM 12 32] (LS [LM 33 11,LM 34 3,LO 35 (.bin .mul (LT 33) (LT 34)),LO 36 (.bin .quo (LT 35) (LI 1000000000)),LM 9 36] (.seq (LS [LM 37 12,LO 38 (.bin .lss (LT 37) (LI 0))] (.cond (LT 38) (LS [LM 39 12,LO 40 (.bin .add (LT 39) (LI 1000000000)),LM 12 40] (LS [LM 41 9,LO 42 (.bin .add (LT 41) (LI 1)),LM 9 42] (LS [LM 43 12,LO 44 (.bin .lss (LT 43) (LI 0))] (.cond (LT 44) (LS [LM 45 12,LO 46 (.bin .add (LT 45) (LI 1000000000)),LM 12 46] (.dX [LM 47 9,LO 48 (.bin .add (LT 47) (LI 1)),LM 9 48])) .skip)))) .skip)) (.dX [LM 49 0,LM 50 2,LM 51 10,LO 52 (.bin .add (LT 50) (LT 51)),LM 53 12,LO 54 (.iaddr 1 (LT 49) (LT 52)),LN (.store 1 (LT 54) (LT 53))])))))) (.dX [LO 55 (.bin .add (LT 15) (LI 1)),LM 15 55]))))
def xI:aE:=(LS [LO 8 (.mv LF)] (LS [LO 9 (.mv (LI 0))] (.seq (LS [LM 13 1,LO 14 (.len (LT 13)),LO 15 (.mv (LI 0))] (.block 0 (.loop iQ))) (LS [LM 56 0,LM 57 2,LM 58 1,LO 59 (.len (LT 58)),LO 60 (.bin .add (LT 57) (LT 59)),LO 61 (.iaddr 1 (LT 56) (LT 60)),LO 62 (LL 61),LM 63 9,LO 64 (.bin .sub (LT 62) (LT 63)),LO 65 (.iaddr 1 (LT 56) (LT 60)),LN (.store 1 (LT 65) (LT 64))] (LS [LM 66 0,LM 67 2,LM 68 1,LO 69 (.len (LT 68)),LO 70 (.bin .add (LT 67) (LT 69)),LO 71 (.iaddr 1 (LT 66) (LT 70)),LO 72 (LL 71),LO 73 (.bin .lss (LT 72) (LI 0)),LM 8 73] .ret)))))
def Ar:aV:=⟨74,[(.tmp 8)],xI⟩
theorem D2:hJ 239=some Ar:=by kernel_rfl
def pA:aE:=(LS [LO 13 (.bin .lss (LT 12) (LT 11))] (.seq (.cond (LT 13) .skip (.exit 0)) (.seq (.block 1 (LS [LM 14 12,LO 15 (.iaddr 1 (LT 10) (LT 12)),LO 16 (LL 15),LM 7 14,LM 8 16] (LS [LM 17 0,LM 18 2,LM 19 7,LO 20 (.bin .add (LT 18) (LT 19)),LO 21 (.iaddr 1 (LT 17) (LT 20)),LO 22 (LL 21),LM 23 8,LO 24 (.bin .add (LT 22) (LT 23)),LM 25 6,LO 26 (.bin .add (LT 24) (LT 25)),LM 9 26] (LS [LM 27 9,LO 28 (.bin .quo (LT 27) (LI 1000000000)),LM 6 28] (.dX [LM 29 0,LM 30 2,LM 31 7,LO 32 (.bin .add (LT 30) (LT 31)),LM 33 9,LO 34 (.bin .rem (LT 33) (LI 1000000000)),LO 35 (.iaddr 1 (LT 29) (LT 32)),LN (.store 1 (LT 35) (LT 34))]))))) (.dX [LO 36 (.bin .add (LT 12) (LI 1)),LM 12 36]))))
def wT:aE:=(LS [LO 6 (.mv (LI 0))] (.seq (LS [LM 10 1,LO 11 (.len (LT 10)),LO 12 (.mv (LI 0))] (.block 0 (.loop pA))) (.dX [LM 37 0,LM 38 2,LM 39 1,LO 40 (.len (LT 39)),LO 41 (.bin .add (LT 38) (LT 40)),LO 42 (.iaddr 1 (LT 37) (LT 41)),LO 43 (LL 42),LM 44 6,LO 45 (.bin .add (LT 43) (LT 44)),LO 46 (.iaddr 1 (LT 37) (LT 41)),LN (.store 1 (LT 46) (LT 45))])))
def Az:aV:=⟨47,[],wT⟩
theorem Em:hJ 240=some Az:=by kernel_rfl
def iT:aE:=(.seq (LS [LM 8 3,LO 9 (.len (LT 8)),LO 10 (.bin .eql (LT 9) (LI 0)),LM 11 10,LZ 11 12 (.mv (LT 4)),LZ 11 13 (.bin .neq (LT 12) (LI 0)),LO 14 (.pick (LT 11) LG (LT 13))] (.cond (LT 14) .skip (.exit 0))) (.block 1 (LS [LM 15 4,LO 16 (.bin .rem (LT 15) (LI 10)),LM 5 16] (.seq (LS [LM 17 5,LO 18 (.bin .lss (LT 17) (LI 0))] (.cond (LT 18) (.dX [LM 19 5,LO 20 (.un .neg (LT 19)),LM 5 20]) .skip)) (LS [LM 21 5,LO 22 (.bin .add (LI 48) (LT 21)),LO 23 (.cvt .u8 (LT 22)),LO 24 (.lit [(.int .u8 0)] 1 [(0,(LT 23))]),LM 25 3,LO 26 (.app 1 1 (LT 24) (LT 25)),LM 3 26] (.dX [LM 27 4,LO 28 (.bin .quo (LT 27) (LI 10)),LM 4 28]))))))
def CM:aE:=(LS [LO 2 (.mv (.const (.string ⟨#[]⟩)))] (LS [LO 6 (.lit [(.int .u8 0)] 0 []),LM 3 6] (LS [LM 7 0,LM 4 7] (.seq (.block 0 (.loop iT)) (.seq (LS [LM 29 0,LO 30 (.bin .lss (LT 29) (LI 0))] (.cond (LT 30) (.dX [LO 31 (.lit [(.int .u8 0)] 1 [(0,(.const (.int .u8 45)))]),LM 32 3,LO 33 (.app 1 1 (LT 31) (LT 32)),LM 3 33]) .skip)) (LS [LM 34 3,LO 35 (.b2s (LT 34)),LM 2 35] .ret))))))
def Gz:aV:=⟨36,[(.tmp 2)],CM⟩
theorem JR:hJ 235=some Gz:=by kernel_rfl
end Go.PM
namespace Go.PM
section
variable {b:Nat}
theorem FQ (hb:2≤b) (n i:Nat):(aC b n).getD i 0=n / b^i % b:=by
 induction i generalizing n with
 |
  zero =>
  by_cases h:n=0
  ·subst h;simp[bQ]
  ·rw[iD hb h,List.getD_cons_zero,Nat.pow_zero,Nat.div_one]
 |
  succ i ih =>
  by_cases h:n=0
  ·subst h;simp[bQ]
  ·rw[iD hb h,List.getD_cons_succ,ih,Nat.div_div_eq_div_mul,Nat.pow_succ,Nat.mul_comm b]
theorem Cp (hb:2≤b) {n i:Nat}:i<(aC b n).length↔n / b^i≠0:=by
 induction i generalizing n with
 |
  zero =>
  rw[Nat.pow_zero,Nat.div_one,List.length_pos_iff]
  exact not_congr (jV hb)
 |
  succ i ih =>
  by_cases h:n=0
  ·subst h;simp[bQ]
  ·rw[iD hb h,List.length_cons,Nat.add_lt_add_iff_right,ih,Nat.div_div_eq_div_mul,Nat.pow_succ,Nat.mul_comm b]
theorem I4 (hb:2≤b) {n i:Nat} (h:i<(aC b n).length):(aC b n)[i]? = some (n / b^i % b):=by
 rw[←FQ hb,List.getD_eq_getElem?_getD,List.getElem?_eq_getElem h]
 rfl
theorem Ur (hb:2≤b) (n i:Nat):(aC b n).drop i=aC b (n / b^i):=by
 induction i generalizing n with
 | zero=>simp
 |
  succ i ih =>
  by_cases h:n=0
  ·subst h;simp[bQ]
  ·rw[iD hb h,List.drop_succ_cons,ih,Nat.div_div_eq_div_mul,Nat.pow_succ,Nat.mul_comm b]
theorem qI (n i:Nat):n / b^(i+1)=n / b^i / b:=by rw[Nat.div_div_eq_div_mul,Nat.pow_succ]
theorem CQ (xs:List Nat) (i:Nat):val b (xs.take (i+1))=val b (xs.take i)+b^i*xs.getD i 0:=by
 by_cases h:i<xs.length
 ·rw[aU (List.getElem?_eq_getElem h),List.getD_eq_getElem?_getD,List.getElem?_eq_getElem h]
  rfl
 ·rw[iI (by omega),iI (by omega),List.getD_eq_getElem?_getD,List.getElem?_eq_none (by omega)]
  simp
theorem KC (hb:2≤b) {n d q:Nat} (hn:n≠0) (h:n=d+b*q) (hd:d<b):aC b n=d::aC b q:=by
 rw[iD hb hn,h,Nat.add_mul_mod_self_left,Nat.mod_eq_of_lt hd,Nat.add_mul_div_left _ _ (by omega),Nat.div_eq_of_lt hd,Nat.zero_add]
theorem SZ (hb:2≤b) {x y c:Nat} (h:x+y+c≠0):aC b (x+y+c)=(x % b+y % b+c) % b::aC b (x / b+y / b+(x % b+y % b+c) / b):=by
 refine KC hb h ?_ (Nat.mod_lt _ (by omega))
 have h1:=Nat.mod_add_div x b
 have h2:=Nat.mod_add_div y b
 have h3:=Nat.mod_add_div (x % b+y % b+c) b
 have e:b*(x / b+y / b+(x % b+y % b+c) / b)=b*(x / b)+b*(y / b)+b*((x % b+y % b+c) / b):=by grind
 omega
theorem Uk (hb:2≤b) {x d c:Nat} (h:x*d+c≠0):aC b (x*d+c)=(x % b*d+c) % b::aC b (x / b*d+(x % b*d+c) / b):=by
 refine KC hb h ?_ (Nat.mod_lt _ (by omega))
 have h1:=Nat.mod_add_div x b
 have h3:=Nat.mod_add_div (x % b*d+c) b
 have e:b*(x / b*d+(x % b*d+c) / b)=b*(x / b)*d+b*((x % b*d+c) / b):=by grind
 have e2:x*d=x % b*d+b*(x / b)*d:=by
  conv=>lhs;rw[←h1,Nat.add_mul]
 omega
theorem MQ (hb:2≤b) {m n k:Nat} (hm:(aC b m).length≤k) (hn:(aC b n).length≤k):(aC b (m+n)).length≤k+1:=by
 refine kH hb ?_
 have y1:=fP hb m
 have y2:=fP hb n
 have y3:b^(aC b m).length≤b^k:=Nat.pow_le_pow_right (by omega) hm
 have y4:b^(aC b n).length≤b^k:=Nat.pow_le_pow_right (by omega) hn
 have y5:b^k*2≤b^k*b:=Nat.mul_le_mul_left _ hb
 rw[Nat.pow_succ]
 omega
theorem LU (hb:2≤b) (m n:Nat):(aC b (m*n)).length≤(aC b m).length+(aC b n).length:=by
 refine kH hb ?_
 rw[Nat.pow_add]
 exact Nat.mul_lt_mul'' (fP hb m) (fP hb n)
theorem BL (hb:2≤b) {c:Nat} (h:c≠0) (hc:c<b):aC b c=[c]:=by
 rw[iD hb h,Nat.mod_eq_of_lt hc,Nat.div_eq_of_lt hc,bQ]
end
end Go.PM
namespace Go.PM
abbrev tV (d:Nat):VV:=VI (d:Int)
abbrev gB (ds:List Nat):VV:=bL tV ds
def bN (n:Nat):VV:=gB (aC 1000000000 n)
theorem Dr:∀d:Nat,(aB (tV d)).length=1:=fun _=>rfl
theorem wK (ds:List Nat):aR (gB ds)=true:=jA Dr fun _=>rfl
theorem TB (ds:List Nat):gO (gB ds)=true:=By Dr (fun _=>rfl) fun _=>rfl
theorem bU (n:Nat):aR (bN n)=true:=wK _
theorem lE (n:Nat):gO (bN n)=true:=TB _
theorem FD:bN 0 = .tree [] .op:=by rw[bN,bQ];rfl
theorem Vo:bN 1=gB [1]:=by rw[bN,iD (by decide) (by decide),bQ]
theorem cK (n:Nat) {H:aA}:oG (bN n) H=some (VI (aC 1000000000 n).length):=dP
section
variable {α:Type} {f:α→VV} {xs:List α} {x:α} {H:aA}
theorem HF {g e:Nat} {es:List VV} {w:Bool}:aQ [.row g es e w] 0 g=some (es,e,w):=bT
theorem amF {e bytes:Nat} (he:1≤e) (hb:1≤bytes) (Bc:(xs.length+1)*bytes≤140737488355328):gH 0 e bytes (.ref 0 xs.length 0 xs.length xs.length) [f x] [.row xs.length (xs.map f) e true]=some (.ref 0 (xs.length+1) 0 (xs.length+1) (xs.length+1),[.row (xs.length+1) ((xs++[x]).map f) e true]):=by
 rw[pK (f:=f) (x:=x) bT rfl (Nat.le_refl _) he hb Bc]
 rfl
theorem O4 {n g e:Nat} {w:Bool} (hp:∀x,aR (f x)=true) (hn:n=xs.length):fz depth [.row g (xs.map f) e w] (.ref 0 g 0 n n)=some (bL f xs):=DB bT (by simpa using hn) (Nat.le_refl _) (dQ hp)
end
theorem HW {lr:Bool}:rN lr [.int .i64 0] 0 [] []=some (.ref 0 0 0 0 0,[.row 0 (([]:List Nat).map tV) 1 true]):=oC (H:=[]) rfl
theorem qE {d:Int} {H:aA}:rN false [.int .i64 0] 1 [(0,VI d)] H=some (.tree [VI d] (.cl 1),H):=sK rfl rfl rfl
theorem sH {d:Int} {H:aA} {t:TK}:eX 1 (.tree [VI d] t) H=some [VI d]:=pJ rfl rfl
theorem ZD {ds:List Nat} {d:Nat} (h:ds.length<17592186044416):gH 0 1 8 (.ref 0 ds.length 0 ds.length ds.length) [VI (d:Int)] [.row ds.length (ds.map tV) 1 true]=some (.ref 0 (ds.length+1) 0 (ds.length+1) (ds.length+1),[.row (ds.length+1) ((ds++[d]).map tV) 1 true]):=amF (f:=tV) (by decide) (by decide) (by omega)
theorem Li (n:Nat):cX .rem (.int .i64 (n:Int)) (.int .i64 1000000000)=some (.int .i64 ((n % 1000000000:Nat):Int)):=by
 have h2:(n:Int).tmod 1000000000=((n % 1000000000:Nat):Int):=by rw[Int.tmod_eq_emod_of_nonneg (by omega)];simp
 simp only[cX,if_true,h2]
 rfl
theorem Ll (n:Nat) (h:n≤9223372036854775807):cX .quo (.int .i64 (n:Int)) (.int .i64 1000000000)=some (.int .i64 ((n / 1000000000:Nat):Int)):=by
 have h2:(n:Int).tdiv 1000000000=((n / 1000000000:Nat):Int):=by rw[Int.tdiv_eq_ediv_of_nonneg (by omega)];simp
 simp only[cX,if_true,h2]
 rw[wrap64 (by omega) (by omega)]
 rfl
theorem qH (ds:List Nat) (h:∀d∈ds,d<1000000000) (hlen:ds.length≤70368744177664):TC 211 [gB ds] (bN (val 1000000000 ds)):=by
 refine TC.walk ⟨true,false⟩ ID rfl (Nat.le_of_ble_eq_true rfl) (by simp[aJ,wK]) (lE _) ?_
 simp only[EO,Bm,VX,Nat.reduceEqDiff,Nat.reduceAdd]
 refine aY (fun(xs:List Nat) ρ H'=>(∀d∈xs,d<1000000000)∧val 1000000000 xs=val 1000000000 ds∧xs.length≤ds.length∧H'=[]∧ρ 0=gB xs) (fun s=>s.length) ds ⟨h,rfl,Nat.le_refl _,rfl,rfl⟩ ?_
 rintro xs ρ H' ⟨hx,hv,hl,rfl,h0⟩
 have done:xs.getLast? ≠ some 0→fz depth [] (gB xs)=some (bN (val 1000000000 ds)):=fun eW=>by rw[bN,←hv,JC (by decide) hx eW];exact aG (wK _)
 rcases Nat.eq_zero_or_pos xs.length with hz | hp
 ·have hxn:xs=[]:=List.length_eq_zero_iff.1 hz
  subst hxn
  simp only[oL,h0,Int.reduceLT,Int.natCast_zero,dP,List.length_nil,VX,Nat.reduceEqDiff,Nat.reduceAdd]
  exact done (by simp)
 ·obtain⟨m,hm⟩:∃m,xs.length=m+1:=⟨xs.length-1,by omega⟩
  obtain⟨d,hd⟩:∃d,xs[m]? = some d:=⟨_,List.getElem?_eq_getElem (by omega)⟩
  have A7:(0:Int)<((m+1:Nat):Int):=by omega
  have w1:IntKind.i64.wrap (((m+1:Nat):Int)-1)=(m:Int):=by rw[wrap64 (by omega) (by omega)];omega
  have e1:=aM (f:=tV) (t := .op) (H:=[]) (size:=1) (k := .i64) hd rfl
  by_cases BD:(d:Int)=0
  ·have hd1:d=0:=by omega
   subst hd1
   have e2:=Gw (f:=tV) (size:=1) (t := .op) (H:=[]) (k2 := .i64) (xs:=xs) (h:=m) Dr (by omega) (by omega)
   have Ps:xs=xs.take m++[0]:=by
    have:=List.take_append_drop m xs
    have h3:=(List.getElem?_eq_some_iff.1 hd)
    rw[List.drop_eq_getElem_cons h3.1,h3.2,List.drop_of_length_le (by omega)] at this
    exact this.symm
   simp only[oL,h0,hm,A7,w1,e1,e2,BD,dP,VX,Nat.reduceEqDiff,Nat.reduceAdd]
   refine⟨xs.take m,by simp only[List.length_take];omega,fun d hd=>hx d (List.mem_of_mem_take hd),?_,by simp only[List.length_take];omega,by first | rfl | exact⟨rfl,rfl⟩⟩
   rw[←hv]
   conv=>rhs;rw[Ps]
   rw[qB]
   simp
  ·simp only[oL,h0,hm,A7,w1,e1,BD,dP,VX,Nat.reduceEqDiff,Nat.reduceAdd]
   exact done (MR hm hd (by omega))
theorem Fp {outs:List Nat} {n g m:Nat} {lo:Nat} {w:Bool} {K:VV→aA→Prop} (hd:∀d∈outs,d<1000000000) (hn:n=outs.length) (hlen:outs.length≤70368744177664) (hm:val 1000000000 outs=m) (hk:K (bN m) (cJ [.row g (outs.map tV) 1 w] [0])) :
  dD 211 [.ref 0 g 0 n n] lo [.row g (outs.map tV) 1 w] K:=by
 subst hm
 rw[TC.Y9 (f:=tV) (qH outs hd hlen) bT hn (Nat.le_refl _) Dr (fun _=>rfl) rfl rfl]
 exact hk
theorem NY {H:aA} (n:Nat):fz depth H (bN n)=some (bN n):=aG (bU n)
theorem oA (n:Int) (h1:n≤9223372036854775807):TC 161 [VI n] (bN n.toNat):=by
 refine TC.walk ⟨true,false⟩ JK rfl (Nat.le_of_ble_eq_true rfl) rfl (lE _) ?_
 simp only[GZ,C1,HW,VX,Nat.reduceEqDiff,Nat.reduceAdd]
 refine aY (fun(s:Int×List Nat) ρ H=>s.1≤9223372036854775807∧H=[.row s.2.length (s.2.map tV) 1 true]∧s.2.length≤63∧s.1.toNat*2^s.2.length≤9223372036854775807∧aC 1000000000 n.toNat=s.2++aC 1000000000 s.1.toNat∧ρ 0=VI s.1∧ρ 3 = .ref 0 s.2.length 0 s.2.length s.2.length) (fun s=>s.1.toNat) (n,[]) ⟨h1,rfl,by simp,by simp only[List.length_nil,Nat.pow_zero,Nat.mul_one];omega,rfl,rfl,rfl⟩ ?_
 rintro⟨m,ds⟩ ρ H ⟨hm,rfl,hl,aX,hd,g0,g3⟩
 simp only at hm hl aX hd g0 g3
 by_cases hp:(0:Int)<m
 ·obtain⟨k,rfl⟩:∃k:Nat,m=(k:Int):=⟨m.toNat,by omega⟩
  rw[Int.toNat_natCast] at aX hd
  have hk0:k≠0:=by omega
  have Gy:ds.length<63:=by
   rcases Nat.lt_or_ge ds.length 63 with h | h
   ·exact h
   ·have e:2^ds.length=9223372036854775808:=by rw[show ds.length=63 by omega]
    rw[e] at aX
    omega
  have r1:=Li k
  have q1:=Ll k (by omega)
  have a1:=ZD (ds:=ds) (d:=k % 1000000000) (by omega)
  simp only[vS,g0,g3,hp,r1,q1,qE,sH,a1,VX,Nat.reduceEqDiff,Nat.reduceAdd]
  refine⟨(((k / 1000000000:Nat):Int),ds++[k % 1000000000]),?_,by simp only;omega,by simp,by simp;omega,?_,?_,rfl,by simp⟩
  ·simp only[Int.toNat_natCast];exact Nat.div_lt_self (by omega) (by decide)
  ·simp only[Int.toNat_natCast,List.length_append,List.length_singleton,Nat.pow_succ]
   have h1:k / 1000000000*2≤k:=by omega
   have:=Nat.mul_le_mul_right (2^ds.length) h1
   rw[Nat.mul_assoc,Nat.mul_comm 2] at this
   omega
  ·simp only[Int.toNat_natCast]
   rw[hd,iD (by decide) hk0,List.append_assoc]
   rfl
 ·have hz:m.toNat=0:=by omega
  rw[hz,bQ,List.append_nil] at hd
  simp only[vS,g0,g3,hp,VX,Nat.reduceEqDiff,Nat.reduceAdd]
  rw[bN,hd]
  exact O4 (fun _=>rfl) rfl
theorem sB (a b:Nat) (ha:(aC 1000000000 a).length≤17592186044416) (hb:(aC 1000000000 b).length≤17592186044416):TC 178 [bN a,bN b] (VI (dY a b)):=by
 refine TC.walk ⟨true,false⟩ JW rfl (Nat.le_of_ble_eq_true rfl) (by simp[aJ,bU]) rfl ?_
 have fin:∀ {x:Int},x=dY a b→fz depth [] (VI x)=some (VI (dY a b)):=fun h=>by rw[h];exact aG rfl
 unfold bN gB
 by_cases hl:(((aC 1000000000 a).length:Nat):Int)=(((aC 1000000000 b).length:Nat):Int)
 ·have A5:(aC 1000000000 a).length=(aC 1000000000 b).length:=by omega
  have w1:IntKind.i64.wrap ((((aC 1000000000 b).length:Nat):Int)-1)=(((aC 1000000000 b).length:Nat):Int)-1:=wrap64 (by omega) (by omega)
  simp only[xH,rZ,hl,w1,VX,Nat.reduceEqDiff,Nat.reduceAdd]
  refine aY (fun(j:Nat) ρ H=>j≤(aC 1000000000 b).length∧H=[]∧(aC 1000000000 a).drop j=(aC 1000000000 b).drop j∧ρ 0=bL tV (aC 1000000000 a)∧ρ 1=bL tV (aC 1000000000 b)∧ρ 5=VI ((j:Int)-1)) (fun j=>j) (aC 1000000000 b).length ⟨Nat.le_refl _,rfl,by rw[List.drop_length,←A5,List.drop_length],rfl,rfl,rfl⟩ ?_
  rintro j ρ H ⟨hj,rfl,hd,h0,h1,h5⟩
  by_cases hz:(0:Int)≤(j:Int)-1
  ·obtain⟨i,rfl⟩:∃i,j=i+1:=⟨j-1,by omega⟩
   obtain⟨x,hx⟩:∃x,(aC 1000000000 a)[i]? = some x:=⟨_,List.getElem?_eq_getElem (by omega)⟩
   obtain⟨y,hy⟩:∃y,(aC 1000000000 b)[i]? = some y:=⟨_,List.getElem?_eq_getElem (by omega)⟩
   have Kd:((i+1:Nat):Int)-1=(i:Int):=by omega
   have e1:=aM (f:=tV) (t := .op) (H:=[]) (size:=1) (k := .i64) hx rfl
   have e2:=aM (f:=tV) (t := .op) (H:=[]) (size:=1) (k := .i64) hy rfl
   rw[Kd] at h5 hz
   have w2:IntKind.i64.wrap ((i:Int)-1)=(i:Int)-1:=wrap64 (by omega) (by omega)
   by_cases AI:(x:Int)=(y:Int)
   ·simp only[mK,h0,h1,h5,hz,e1,e2,AI,w2,VX,Nat.reduceEqDiff,Nat.reduceAdd]
    have aaM:x=y:=by omega
    subst aaM
    refine⟨i,by omega,by omega,?_⟩
    obtain⟨g1,g2⟩:=List.getElem?_eq_some_iff.1 hx
    obtain⟨g3,g4⟩:=List.getElem?_eq_some_iff.1 hy
    rw[List.drop_eq_getElem_cons g1,List.drop_eq_getElem_cons g3,g2,g4,hd]
    exact⟨rfl,rfl⟩
   ·by_cases aX:(x:Int)<(y:Int)
    ·simp only[mK,h0,h1,h5,hz,e1,e2,AI,aX,VX,Nat.reduceEqDiff,Nat.reduceAdd]
     refine fin ?_
     have:=Cm (eE (by decide) a) A5 hx hy hd (by omega)
     rw[bW (by decide),bW (by decide)] at this
     simp[dY,this]
    ·simp only[mK,h0,h1,h5,hz,e1,e2,AI,aX,VX,Nat.reduceEqDiff,Nat.reduceAdd]
     refine fin ?_
     have:=Cm (eE (by decide) b) A5.symm hy hx hd.symm (by omega)
     rw[bW (by decide),bW (by decide)] at this
     rw[dY,if_neg (by omega),if_neg (by omega)]
  ·have Qq:j=0:=by omega
   subst Qq
   simp only[mK,h0,h1,h5,hz,VX,Nat.reduceEqDiff,Nat.reduceAdd]
   refine fin ?_
   have:=NJ (b:=1000000000) (by decide) (by simpa using hd)
   subst this
   simp[dY]
 ·by_cases aX:(((aC 1000000000 a).length:Nat):Int)<(((aC 1000000000 b).length:Nat):Int)
  ·simp only[xH,rZ,hl,aX,VX,Nat.reduceEqDiff,Nat.reduceAdd]
   refine fin ?_
   have:=Cd (b:=1000000000) (by decide) (m:=a) (n:=b) (by omega)
   simp[dY,this]
  ·simp only[xH,rZ,hl,aX,VX,Nat.reduceEqDiff,Nat.reduceAdd]
   refine fin ?_
   have:=Cd (b:=1000000000) (by decide) (m:=b) (n:=a) (by omega)
   rw[dY,if_neg (by omega),if_neg (by omega)]
theorem Hk (ds:List Nat) (i:Nat):TC 225 [gB ds,VI (i:Int)] (tV (ds.getD i 0)):=by
 refine TC.walk ⟨true,false⟩ Hn rfl (Nat.le_of_ble_eq_true rfl) (by simp[aJ,wK];rfl) rfl ?_
 by_cases h:(i:Int)<(ds.length:Int)
 ·obtain⟨d,hd⟩:∃d,ds[i]? = some d:=⟨_,List.getElem?_eq_getElem (by omega)⟩
  have e1:=aM (f:=tV) (t := .op) (H:=[]) (size:=1) (k := .i64) hd rfl
  simp only[xL,tE,dP,h,e1,VX,Nat.reduceEqDiff,Nat.reduceAdd]
  rw[List.getD_eq_getElem?_getD,hd]
  exact aG rfl
 ·simp only[xL,tE,dP,h,VX,Nat.reduceEqDiff,Nat.reduceAdd]
  rw[List.getD_eq_getElem?_getD,List.getElem?_eq_none (by omega)]
  exact aG rfl
theorem BG (n i:Nat):TC 225 [bN n,VI (i:Int)] (tV (n / 1000000000^i % 1000000000)):=by
 have:=Hk (aC 1000000000 n) i
 rwa [FQ (by decide)] at this
theorem Fj (a b:Nat) (ha:(aC 1000000000 a).length<17592186044416) (hb:(aC 1000000000 b).length<17592186044416):TC 177 [bN a,bN b] (bN (a+b)):=by
 refine TC.walk ⟨true,false⟩ Fe rfl (Nat.le_of_ble_eq_true rfl) (by simp[aJ,bU]) (lE _) ?_
 simp only[BJ,yN,HW,VX,Nat.reduceEqDiff,Nat.reduceAdd]
 have hL:=MQ (b:=1000000000) (by decide) (m:=a) (n:=b) (k:=17592186044416-1) (by omega) (by omega)
 refine aY (fun(s:Nat×List Nat×Nat) ρ H=>s.1=s.2.1.length∧H=[.row s.2.1.length (s.2.1.map tV) 1 true]∧s.2.2≤1∧aC 1000000000 (a+b)=s.2.1++aC 1000000000 (a / 1000000000^s.1+b / 1000000000^s.1+s.2.2)∧ρ 0=bN a∧ρ 1=bN b∧ρ 5 = .ref 0 s.2.1.length 0 s.2.1.length s.2.1.length∧ρ 6=VI s.2.2∧ρ 7=VI s.1)
  (fun s=>(aC 1000000000 (a+b)).length-s.1) (0,[],0) ⟨rfl,rfl,by simp,by simp,rfl,rfl,rfl,rfl,rfl⟩ ?_
 rintro⟨i,ds,c⟩ ρ H ⟨hi,rfl,hc,hd,g0,g1,g5,g6,g7⟩
 simp only at hi hc hd g5 g6 g7
 have la:=Cp (b:=1000000000) (by decide) (n:=a) (i:=i)
 have lb:=Cp (b:=1000000000) (by decide) (n:=b) (i:=i)
 have c1:=BG a i
 have c2:=BG b i
 have m1:=Nat.mod_lt (a / 1000000000^i) (show 0<1000000000 by decide)
 have m2:=Nat.mod_lt (b / 1000000000^i) (show 0<1000000000 by decide)
 have Wq:a / 1000000000^i+b / 1000000000^i+c≠0→aC 1000000000 (a+b)=ds++(a / 1000000000^i % 1000000000+b / 1000000000^i % 1000000000+c) % 1000000000::aC 1000000000 (a / 1000000000^(i+1)+b / 1000000000^(i+1)+(a / 1000000000^i % 1000000000+b / 1000000000^i % 1000000000+c) / 1000000000):=fun h=>by
  rw[hd,SZ (by decide) h,qI,qI]
 generalize a / 1000000000^i=A at *
 generalize b / 1000000000^i=B at *
 by_cases IM:A+B+c=0
 ·have h1:¬(i:Int)<((aC 1000000000 a).length:Int):=by omega
  have h2:¬(i:Int)<((aC 1000000000 b).length:Int):=by omega
  have h3:¬(0:Int)<(c:Int):=by omega
  simp only[jL,g0,g1,g5,g6,g7,cK,h1,h2,h3,VX,Nat.reduceEqDiff,Nat.reduceAdd]
  rw[IM,bQ,List.append_nil] at hd
  rw[bN,hd]
  exact O4 (fun _=>rfl) rfl
 ·have hdn:=Wq IM
  have aX:i<(aC 1000000000 (a+b)).length:=by
   rw[hdn,List.length_append,List.length_cons]
   omega
  have w1:IntKind.i64.wrap (((A % 1000000000:Nat):Int)+((B % 1000000000:Nat):Int))=((A % 1000000000+B % 1000000000:Nat):Int):=wrapN _ (by omega) (by omega)
  have w2:IntKind.i64.wrap (((A % 1000000000+B % 1000000000:Nat):Int)+(c:Int))=((A % 1000000000+B % 1000000000+c:Nat):Int):=wrapN _ (by omega) (by omega)
  have wi:IntKind.i64.wrap ((i:Int)+1)=((i+1:Nat):Int):=wrapN (i+1) (by omega) (by omega)
  have r1:=Li (A % 1000000000+B % 1000000000+c)
  have q1:=Ll (A % 1000000000+B % 1000000000+c) (by omega)
  have a1:=ZD (ds:=ds) (d:=(A % 1000000000+B % 1000000000+c) % 1000000000) (by omega)
  have aeA:aC 1000000000 (a+b)=(ds++[(A % 1000000000+B % 1000000000+c) % 1000000000])++aC 1000000000 (a / 1000000000^(i+1)+b / 1000000000^(i+1)+(A % 1000000000+B % 1000000000+c) / 1000000000):=by rw[hdn,List.append_assoc];rfl
  by_cases h1:(i:Int)<((aC 1000000000 a).length:Int)
  ·simp only[jL,g0,g1,g5,g6,g7,cK,h1,c1,c2,w1,w2,wi,r1,q1,qE,sH,a1,VX,Nat.reduceEqDiff,Nat.reduceAdd]
   refine⟨(i+1,ds++[(A % 1000000000+B % 1000000000+c) % 1000000000],(A % 1000000000+B % 1000000000+c) / 1000000000),by simp only;omega,by simp;omega,by simp,by simp only;omega,aeA,?_⟩
   simp only[List.length_append,List.length_singleton]
   try (repeat' apply And.intro)<;>first | rfl | trivial
  ·by_cases h2:(i:Int)<((aC 1000000000 b).length:Int)
   ·simp only[jL,g0,g1,g5,g6,g7,cK,h1,h2,c1,c2,w1,w2,wi,r1,q1,qE,sH,a1,VX,Nat.reduceEqDiff,Nat.reduceAdd]
    refine⟨(i+1,ds++[(A % 1000000000+B % 1000000000+c) % 1000000000],(A % 1000000000+B % 1000000000+c) / 1000000000),by simp only;omega,by simp;omega,by simp,by simp only;omega,aeA,?_⟩
    simp only[List.length_append,List.length_singleton]
    try (repeat' apply And.intro)<;>first | rfl | trivial
   ·have h3:(0:Int)<(c:Int):=by omega
    simp only[jL,g0,g1,g5,g6,g7,cK,h1,h2,h3,c1,c2,w1,w2,wi,r1,q1,qE,sH,a1,VX,Nat.reduceEqDiff,Nat.reduceAdd]
    refine⟨(i+1,ds++[(A % 1000000000+B % 1000000000+c) % 1000000000],(A % 1000000000+B % 1000000000+c) / 1000000000),by simp only;omega,by simp;omega,by simp,by simp only;omega,aeA,?_⟩
    simp only[List.length_append,List.length_singleton]
    try (repeat' apply And.intro)<;>first | rfl | trivial
end Go.PM