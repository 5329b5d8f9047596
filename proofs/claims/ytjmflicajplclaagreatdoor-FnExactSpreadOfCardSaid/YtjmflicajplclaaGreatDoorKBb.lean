/- Texts of a claim, in one: part 2. -/
import Derived.LoopN
import Derived.Test.YtjmflicajplclaaGreatDoorKBa
open Array renaming getElem?_eq_none → aLf,getElem?_eq_some_iff → aKK,range → aK4,toList_inj → aKR
open Bool renaming and_eq_true → aK9,false_eq_true → aLd,or_eq_true → aLe
open Function renaming comp_def → aKQ
open List renaming all_eq_true → aKP,eq_nil_of_length_eq_zero → aKH,getD_eq_getElem?_getD → aKy,getElem?_append_left → aKS,getElem?_eq_getElem → aKI,getElem?_eq_some_iff → aKA,getElem?_set_ne → aK0,mem_cons_of_mem → aLa,mem_cons_self → aLb,mem_range → aLc,range → aKx
open Nat renaming add_mul → aK6,le_mul_of_pos_right → aK7,le_of_lt → aLi,le_refl → aKB,le_trans → aKC,lt_of_lt_of_le → aKD,lt_or_ge → aKE,lt_trichotomy → aLh,min → aK8,mod_lt → aK3,mul_le_mul_right → aK2,zero_le → aK5
open Option renaming isSome_none → aLg
set_option linter.unusedSimpArgs false
set_option linter.unusedVariables false
namespace Go.PM
section
variable {P:Program} {m:dO} {L0:Nat} {H:aJ} {w:World}
theorem RL.const {zs:List Value} (h:zs.all nA=true):RL m zs zs :=
 ⟨rfl,fun j hj=>by
  have:=RV.const (m:=m) (aKP.1 h _ (List.getElem_mem hj))
  simpa[aKy,aKI hj] using this⟩
theorem zD (n:Nat) (zs:List Value):(dG n zs).length=n*zs.length:=by simp[dG]
theorem AG (n:Nat) {zs:List Value} (h:zs.all nA=true) (h0:1≤zs.length):RL m (dG n zs) (dG n zs):=by
 refine⟨rfl,fun i hi => ?_⟩
 rw[zD] at hi
 have bI:i % zs.length<zs.length:=aK3 _ h0
 have e:(dG n zs).getD i undef=zs.getD (i % zs.length) undef:=by simp[dG,aKy,hi]
 rw[e]
 exact(RL.const h).2 _ bI
theorem WQ (n:Nat) {zs:List Value} (h:zs.all iQ=true) (h0:1≤zs.length):(dG n zs).all iQ=true:=by
 rw[aKP]
 intro x hx
 obtain⟨i,_,rfl⟩:=List.mem_map.1 hx
 have bI:i % zs.length<zs.length:=aK3 _ h0
 have:=aKP.1 h _ (List.getElem_mem bI)
 simpa[aKy,aKI bI] using this
theorem Mi (z:Array Value) (n:Nat) (h0:1≤z.size):(madeCells z (n*z.size)).toList=dG n z.toList:=by
 apply List.ext_getElem
 ·simp[madeCells,dG]
 ·intro i h1 h2
  have bI:i % z.size<z.size:=aK3 _ h0
  simp[madeCells,dG,bI]
theorem JF (z:Array Value) (n:Nat) (h0:1≤z.size):(Builtin.zeroCells z n).toList=dG n z.toList:=by
 apply List.ext_getElem
 ·simp[Builtin.zeroCells,dG]
 ·intro i h1 h2
  have bI:i % z.size<z.size:=aK3 _ h0
  simp[Builtin.zeroCells,dG,bI]
theorem alO {t:TypeId} {agg:Bool} {size nb lo:Nat} {z:List Value} (ht:oO P t=some (agg,size,z,nb)) (Lm:z.all iQ=true) (NB:z.all nA=true) (hR:Rel m L0 H w) (hf:m H.length=none) :
  cT P (do pure (.value (←Instr.alloc t true (.tuple #[])))) L0 lo m H w (.pointer (some ⟨H.length,0,none⟩)) (H++[.row z z.length false]):=by
 obtain⟨i,d,zz,hi,hd,K5,rfl,rfl,rfl,rfl⟩:=kO ht
 have sN:(Instr.alloc t true (.tuple #[])).run P w = .ok (.pointer (some ⟨w.heap.size,0,none⟩)) (w.alloc (.cells zz.cells t)):=by
  simp[Instr.alloc,zeroValue,typeInfo,hi,K5,newVar,newRow]
 have hA:=AV hR hf (w':=w.alloc (.cells zz.cells t)) (arr:=zz.cells) (e:=t) (fz:=(0,0)) rfl ⟨rfl,rfl,rfl⟩ (cs:=aX zz) (gU:=(aX zz).length) (Uy:=false)
  (by rw[fV];exact aKB _) (fun i hi=>by
   have:=(RL.const (m:=m) NB).2 i hi
   rwa [←Cs,iA]) Lm (fun j _ h=>by simp at h)
 exact cT.value sN (.ptr _ 0 _ (cD m _ _)) hA.1 (hA.2 lo)
theorem aiD {t:TypeId} {v r:Value} {lo:Nat} (hv:RV m v r) (hs:(aX v).all iQ=true) (hR:Rel m L0 H w) (hf:m H.length=none) :
  cT P (do pure (.value (←Instr.box t r))) L0 lo m H w (.pointer (some ⟨H.length,0,none⟩)) (H++[.row (aX v) (aX v).length false]):=by
 have sN:(Instr.box t r).run P w = .ok (.pointer (some ⟨w.heap.size,0,none⟩)) (w.alloc (.cells r.cells t)):=by
  simp[Instr.box,newVar,newRow]
 have hA:=AV hR hf (w':=w.alloc (.cells r.cells t)) (arr:=r.cells) (e:=t) (fz:=(0,0)) rfl ⟨rfl,rfl,rfl⟩ (cs:=aX v) (gU:=(aX v).length) (Uy:=false)
  (by rw[fV,hv.aX.1];exact aKB _) (fun i hi=>by
   have:=hv.aX.2 i hi
   rwa [←Cs,iA]) hs (fun j _ h=>by simp at h)
 exact cT.value sN (.ptr _ 0 _ (cD m _ _)) hA.1 (hA.2 lo)
theorem aeA {t:TypeId} {agg:Bool} {size nb lo:Nat} {z:List Value} {kl kc:IntKind} {l c:Int} (ht:lK P t=some (agg,size,z,nb)) (Lm:z.all iQ=true) (NB:z.all nA=true) (Zg:size=z.length) (CI:1≤size)
  (hl:0≤l) (hlc:l≤c) (hb:c*nb≤281474976710656) (hc:c≤9223372036854775807) (hR:Rel m L0 H w) (hf:m H.length=none) :
  cT P (do pure (.value (←Instr.makeSlice t (.int kl l) (.int kc c)))) L0 lo m H w (.slice (some ⟨H.length,0,none⟩) l.toNat c.toNat) (H++[.row (dG c.toNat z) z.length false]):=by
 obtain⟨e,hu,Mo⟩:=lH ht
 obtain⟨i,d,zz,hi,hd,K5,rfl,rfl,rfl,rfl⟩:=kO Mo
 have sN:=run_make (P:=P) w t e i zz hu hi K5 kl kc l c hl hlc (by rw[Int.mul_comm];exact hb) hc
 have Fa:i.size=zz.cells.size:=by rw[Zg,fV]
 rw[Fa] at sN CI
 have rO:(madeCells zz.cells (c.toNat*zz.cells.size)).toList=dG c.toNat (aX zz):=by rw[Mi _ _ CI,iA]
 have aA2:(madeCells zz.cells (c.toNat*zz.cells.size)).size=c.toNat*(aX zz).length:=by rw[size_madeCells,fV]
 have afE:1≤(aX zz).length:=by rw[←fV];exact CI
 have hA:=AV hR hf (w':=w.alloc (.cells (madeCells zz.cells (c.toNat*zz.cells.size)) e)) (arr:=madeCells zz.cells (c.toNat*zz.cells.size)) (e:=e) (fz:=(0,0)) rfl ⟨rfl,rfl,rfl⟩
  (cs:=dG c.toNat (aX zz)) (gU:=(aX zz).length) (Uy:=false) (by rw[aA2,zD];exact aKB _) (fun j hj=>by
   have:=(AG (m:=m) c.toNat NB afE).2 j hj
   rwa [←Cs,rO]) (WQ _ Lm afE) (fun j _ h=>by simp at h)
 refine cT.value sN ?_ hA.1 (hA.2 lo)
 exact .slice _ 0 _ _ _ _ _ (cD m _ _) (by omega) (aKB _) (fun _=>rfl) (.inr ⟨rfl,by simp only[aA2];omega⟩)
theorem akE {t:TypeId} {agg:Bool} {size nb lo n:Nat} {z cs:List Value} {parts:List (Nat×Operand)} {ρ:Env} {a:Act} (ht:lK P t=some (agg,size,z,nb)) (Lm:z.all iQ=true) (NB:z.all nA=true) (Zg:size=z.length) (CI:1≤size) (hn:n*size≤16777216)
  (atZ:Au ((aKx n).map fun i=>(i*z.length,z.length)) (dG n z) (parts.map fun(i,x)=>(i,ev ρ x))=some cs) (ET:cs.all iQ=true) (hr:∀p∈parts,RV m (ev ρ p.2) (a.eval p.2))
  (hR:Rel m L0 H w) (hf:m H.length=none) :
  cT P (do pure (.value (←Instr.buildSlice t n (parts.toArray.map fun(i,x)=>(i,a.eval x))))) L0 lo m H w (.slice (some ⟨H.length,0,none⟩) n n) (H++[.row cs z.length false]):=by
 obtain⟨e,hu,Mo⟩:=lH ht
 obtain⟨i,d,zz,hi,hd,K5,rfl,rfl,rfl,rfl⟩:=kO Mo
 have Fa:i.size=zz.cells.size:=by rw[Zg,fV]
 have afE:1≤(aX zz).length:=by rw[←fV,←Fa];exact CI
 have Qj:∀j q,((aKx n).map fun i=>(i*(aX zz).length,(aX zz).length))[j]? = some q→(fun i'=>some (i'*i.size,i.size):Nat→Option (Nat×Nat)) j=some q:=by
  intro j q hj
  simp only[List.getElem?_map,Option.map_eq_some_iff] at hj
  obtain⟨k,hk,rfl⟩:=hj
  have hk':=(aKA.1 hk)
  obtain⟨hk1,ZH⟩:=hk'
  simp at ZH
  subst ZH
  rw[←Zg]
 have hz:RL m (dG n (aX zz)) ((aK4 (n*i.size)).map (zz.cells[· % zz.cells.size]!)).toList:=by
  have:=AG (m:=m) n NB afE
  rw[Fa]
  have e1:=Mi zz.cells n (by rw[←Fa];exact CI)
  rw[iA] at e1
  show RL m _ (madeCells zz.cells (n*zz.cells.size)).toList
  rw[e1]
  exact this
 obtain⟨P9,h1,h2⟩:=UT (m:=m) _ _ Qj (parts.map fun(i,x)=>(i,ev ρ x)) (parts.map fun(i,x)=>(i,a.eval x)) _ _ cs
  (by simp[aKQ]) (by simpa[aKQ] using RL.map (l:=parts) (f:=fun p=>ev ρ p.2) (g:=fun p=>a.eval p.2) hr) hz atZ
 have hlen:cs.length=n*(aX zz).length:=by rw[Tt _ _ _ _ atZ,zD]
 have emap:(Array.map (fun x:Nat×Operand=>(x.1,a.eval x.2)) parts.toArray).toList=parts.map fun(i,x)=>(i,a.eval x):=by simp
 have Yb:¬(2^24<n*i.size):=by omega
 have sN:(Instr.buildSlice t n (parts.toArray.map fun(i,x)=>(i,a.eval x))).run P w = .ok (.slice (some ⟨w.heap.size,0,none⟩) n n) (w.alloc (.cells P9 e)):=by
  have h1':Instr.fill (fun i'=>some (i'*i.size,i.size)) ((aK4 (n*i.size)).map (zz.cells[· % zz.cells.size]!)) (Array.map (fun x:Nat×Operand=>(x.1,a.eval x.2)) parts.toArray).toList=some P9:=by rw[emap];exact h1
  by_cases hn0:n*i.size=0
  ·rw[hn0] at h1'
   simp only[show ∀f:Nat→Value,(aK4 0).map f = #[] from fun f=>by simp] at h1'
   unfold Instr.buildSlice
   simp only[Sem.run_bind,run_underlying hu,Result.andThen_ok,run_sizeOf e i hi,hn0,if_true,Sem.run_pure,show ¬(0>2^24) by omega,if_false]
   rw[show ∀f:Nat→Value,(aK4 0).map f = #[] from fun f=>by simp]
   simp only[h1']
   simp[newRow]
  ·unfold Instr.buildSlice
   simp only[Sem.run_bind,run_underlying hu,Result.andThen_ok,run_sizeOf e i hi,hn0,if_false,Sem.run_pure,gt_iff_lt,Yb,zeroValue,typeInfo,run_program,hi,K5]
   simp only[h1']
   simp[newRow]
 have hrs:P9.size=n*(aX zz).length:=by rw[←hlen];simpa using h2.1.symm
 have hA:=AV hR hf (w':=w.alloc (.cells P9 e)) (arr:=P9) (e:=e) (fz:=(0,0)) rfl ⟨rfl,rfl,rfl⟩ (cs:=cs) (gU:=(aX zz).length) (Uy:=false)
  (by rw[hlen,hrs];exact aKB _) (fun j hj=>by rw[←Cs];exact h2.2 j hj) ET (fun j _ h=>by simp at h)
 refine cT.value sN ?_ hA.1 (hA.2 lo)
 exact .slice _ 0 _ _ _ _ _ (cD m _ _) (aKB _) (aKB _) (fun _=>rfl) (.inr ⟨rfl,by simp only[hrs];omega⟩)
theorem X7 (g:Value→ByteArray→Sem (ForInStep ByteArray)) (hg:∀n s,g (.int .u8 n) s=pure (ForInStep.yield (s.push (UInt8.ofNat n.toNat)))):∀(cs rs:List Value) (bs:List UInt8) (acc:ByteArray),RL m cs rs→yS cs=some bs→∀w,
  (forIn rs acc g).run P w = .ok ⟨(acc.data.toList++bs).toArray⟩ w:=by
 intro cs
 induction cs with
 |
  nil =>
  intro rs bs acc hr hb w
  have e0:rs=[]:=aKH hr.1.symm
  subst e0
  cases hb
  simp
 |
  cons c cs ih =>
  intro rs bs acc hr hb w
  cases rs with
  | nil=>exact absurd hr.1 (by simp)
  |
   cons r rs =>
   obtain⟨hc,P4⟩:=hr.lO
   unfold yS at hb
   split at hb
   ·rename_i heq;cases heq
   ·rename_i n rest heq
    cases heq
    cases hc
    cases h2:yS cs with
    | none=>rw[h2] at hb;cases hb
    |
     some bs' =>
     rw[h2] at hb
     cases hb
     simp only[List.forIn_cons,hg,Sem.run_bind,Sem.run_pure,Result.andThen_ok]
     rw[ih rs bs' _ P4 h2 w]
     simp[ByteArray.push]
   ·cases hb
theorem akA {s d e:TypeId} {rp:Value} {lo n b off c:Nat} {cs:List Value} {bs:List UInt8} (hs:P.underlying s=some (.slice e)) (hd:P.underlying d=some .string) (he:P.underlying e=some (.int .u8))
  (HA:H.read b off n=some cs) (hb:yS cs=some bs) (hR:Rel m L0 H w) (hp:RV m (.slice (some ⟨b,off,none⟩) n c) rp) :
  cT P (do pure (.value (←convert s d rp))) L0 lo m H w (.string ⟨bs.toArray⟩) H:=by
 cases hp with
 |
  slice _ _ _ _ l ra rc hm hn hc hx ha =>
  obtain⟨rs,h1,h2,_,h3⟩:=Bw hR hm HA
  have aCc:(loadCells ra n).run P w = .ok rs.toArray w:=by
   rcases ha with ha | ⟨rfl,ha⟩
   ·have h0:n=0:=by omega
    subst h0
    have e0:rs=[]:=aKH h2
    subst e0
    rfl
   ·rw[←h2]
    exact run_loadCells_list w _ rs h3
  refine cT.value (rv := .string ⟨bs.toArray⟩) (w':=w) (m':=m) ?_ (.str _) hR (Trans.refl lo m H w)
  simp only[convert,Sem.run_bind,run_underlying hs,run_underlying hd,Result.andThen_ok,run_underlying he,Conv.bytesToString,aCc,←Array.forIn_toList]
  rw[X7 (P:=P) (m:=m) _ (fun n s=>rfl) cs rs bs ByteArray.empty h1 hb w]
  simp
theorem Ro {t e:TypeId} {i:TypeInfo} (hu:P.underlying t=some (.slice e)) (hi:P.info? e=some i) {a:Option Addr} {n c:Nat} {lo qL mx:Option Value} {l h k:Nat}
  (hb:(Instr.sliceBounds true n c lo qL mx).run P w = .ok (l,h,k) w) :
  (Instr.sliceAt t (.slice a n c) lo qL mx).run P w = .ok (.slice (if k=l then a else a.map (·.add (l*i.size))) (h-l) (k-l)) w:=by
 have h1:(Instr.sliceAt t (.slice a n c) lo qL mx).run P w=(Instr.slice t (.slice a n c) lo qL mx).run P w:=by
  unfold Instr.sliceAt
  rw[Sem.run_bind,run_underlying hu,Result.andThen_ok]
 rw[h1]
 unfold Instr.slice
 rw[Sem.run_bind,run_underlying hu,Result.andThen_ok]
 simp[hb,run_sizeOf e i hi]
theorem alZ {t e:TypeId} {i:TypeInfo} {lo:Nat} {x rx v:Value} {l h mx l' h' mx':Option Value} {H':aJ} (hu:P.underlying t=some (.slice e)) (hi:P.info? e=some i)
  (hs:E9 i.size x l h mx H=some (v,H')) (hx:RV m x rx) (hl:RO m l l') (hh:RO m h h') (hm:RO m mx mx') (hR:Rel m L0 H w) (hf:∀b,H.length≤b→b<H'.length→m b=none) :
  cT P (do pure (.value (←Instr.sliceAt t rx l' h' mx'))) L0 lo m H w v H':=by
 unfold E9 at hs
 split at hs
 ·rename_i n c
  split at hs
  ·rename_i h0
   obtain⟨rfl,rfl⟩:=h0
   cases hx
   split at hs
   ·cases hs
   ·rename_i M hM
    split at hs
    ·cases hs
    ·rename_i hb hhb
     split at hs
     ·cases hs
     ·rename_i lb Hw
      cases hs
      have key:∃k1 k2 k3,(Instr.sliceBounds true 0 0 l' h' mx').run P w = .ok (k1,k2,k3) w∧k1=0∧k2=0∧k3=0:=by
       rcases rW (P:=P) hM hm with⟨rfl,rfl,e1⟩ | ⟨_,r1,rfl,rfl,q1,e1⟩<;>rcases rW (P:=P) hhb hh with⟨_,rfl,e2⟩ | ⟨_,r2,_,rfl,q2,e2⟩<;>rcases rW (P:=P) Hw hl with⟨_,rfl,e3⟩ | ⟨_,r3,_,rfl,q3,e3⟩
       ·cases e1;cases e2;cases e3
        exact⟨0,0,0,rfl,rfl,rfl,rfl⟩
       ·cases e1;cases e2
        exact⟨lb,0,0,by simp[Instr.sliceBounds,e3 0 (aKB _)],by omega,rfl,rfl⟩
       ·cases e1;cases e3
        exact⟨0,hb,0,by simp[Instr.sliceBounds,e2 0 (aKB _)],rfl,by omega,rfl⟩
       ·cases e1
        exact⟨lb,hb,0,by simp[Instr.sliceBounds,e2 0 (aKB _),e3 hb (aKB _)],by omega,by omega,rfl⟩
       ·cases e2
       ·cases e2
       ·cases e3
        exact⟨0,hb,M,by simp[Instr.sliceBounds,e1 0 (aKB _),e2 M (aKB _)],rfl,by omega,by omega⟩
       ·exact⟨lb,hb,M,by simp[Instr.sliceBounds,e1 0 (aKB _),e2 M (aKB _),e3 hb (aKB _)],by omega,by omega,by omega⟩
      obtain⟨k1,k2,k3,hk,rfl,rfl,rfl⟩:=key
      exact cT.value (Ro hu hi hk) (by simpa using RV.Nj) hR (Trans.refl lo m H w)
  ·cases hs
 ·rename_i b o n c
  cases hx with
  |
   slice _ _ _ _ lc ra rc Yv hnc hcr hxp ha =>
   split at hs
   ·rename_i cells es p ZD
    obtain⟨g1,g2,g3,g4⟩:=hR.row b lc cells es p Yv ZD
    split at hs
    ·rename_i QB
     subst QB
     split at hs
     ·cases hs
     ·rename_i M hM
      split at hs
      ·cases hs
      ·rename_i hb hhb
       split at hs
       ·cases hs
       ·rename_i lb Hw
        have key:∃k3,(Instr.sliceBounds true n rc l' h' mx').run P w = .ok (lb,hb,k3) w∧lb≤hb∧hb≤M∧M≤c∧((mx=none∧k3=rc∧M=c)∨(mx.isSome=true∧k3=M)):=by
         rcases rW (P:=P) hM hm with⟨rfl,rfl,e1⟩ | ⟨_,r1,rfl,rfl,q1,e1⟩<;>rcases rW (P:=P) hhb hh with⟨_,rfl,e2⟩ | ⟨_,r2,_,rfl,q2,e2⟩<;>rcases rW (P:=P) Hw hl with⟨_,rfl,e3⟩ | ⟨_,r3,_,rfl,q3,e3⟩
         ·cases e1;cases e2;cases e3
          exact⟨rc,rfl,aK5 _,hnc,aKB _,.inl ⟨rfl,rfl,rfl⟩⟩
         ·cases e1;cases e2
          exact⟨rc,by simp[Instr.sliceBounds,e3 n (aKB _)],q3,hnc,aKB _,.inl ⟨rfl,rfl,rfl⟩⟩
         ·cases e1;cases e3
          exact⟨rc,by simp[Instr.sliceBounds,e2 rc hcr],aK5 _,q2,aKB _,.inl ⟨rfl,rfl,rfl⟩⟩
         ·cases e1
          exact⟨rc,by simp[Instr.sliceBounds,e2 rc hcr,e3 hb (aKB _)],q3,q2,aKB _,.inl ⟨rfl,rfl,rfl⟩⟩
         ·cases e2
         ·cases e2
         ·cases e3
          exact⟨M,by simp[Instr.sliceBounds,e1 rc hcr,e2 M (aKB _)],aK5 _,q2,q1,.inr ⟨rfl,rfl⟩⟩
         ·exact⟨M,by simp[Instr.sliceBounds,e1 rc hcr,e2 M (aKB _),e3 hb (aKB _)],q3,q2,q1,.inr ⟨rfl,rfl⟩⟩
        obtain⟨k3,hk,hlh,hhM,hMc,N5⟩:=key
        have sN:=Ro (a:=some ra) hu hi hk
        have place:k3-lb=0∨((if k3=lb then some ra else (some ra).map (·.add (lb*i.size)))=some (⟨lc.rb,lc.base+(o+lb*i.size),none⟩:Addr)∧lc.base+(o+lb*i.size)+(k3-lb)*lc.gU≤lc.St):=by
         by_cases hz:k3-lb=0
         ·exact .inl hz
         ·right
          have hk3:k3≤rc:=by rcases N5 with⟨_,rfl,_⟩ | ⟨_,rfl⟩<;>omega
          rcases ha with ha | ⟨rfl,ha⟩
          ·omega
          ·rw[if_neg (by omega)]
           refine⟨by simp[Addr.add_lit,Nat.add_assoc],?_⟩
           rw[g1] at ha ⊢
           have e1:(k3-lb)*i.size=k3*i.size-lb*i.size:=Nat.sub_mul _ _ _
           have e2:lb*i.size≤k3*i.size:=aK2 _ (by omega)
           have e3:k3*i.size≤rc*i.size:=aK2 _ hk3
           omega
        obtain⟨ra',aCf⟩:∃ra',(if k3=lb then some ra else (some ra).map (·.add (lb*i.size)))=some ra':=by split<;>exact⟨_,rfl⟩
        rw[aCf] at sN
        have axS:k3-lb=0∨(ra'=⟨lc.rb,lc.base+(o+lb*i.size),none⟩∧lc.base+(o+lb*i.size)+(k3-lb)*lc.gU≤lc.St):=by
         rcases place with hp | ⟨hp1,hp2⟩
         ·exact .inl hp
         ·rw[aCf] at hp1
          exact .inr ⟨by injection hp1,hp2⟩
        split at hs
        ·rename_i aFz
         cases hs
         obtain⟨aCa,hMl⟩:=aFz
         rcases N5 with⟨rfl,_⟩ | ⟨_,rfl⟩
         ·cases aCa
         ·have hA:=adU hR (hf H.length (aKB _) (by simp)) Yv i.size
          refine cT.value (rv := .slice (some ra') 0 0) (by rw[sN];congr 2<;>omega) ?_ hA.1 (hA.2 lo)
          exact .slice _ 0 0 0 _ _ 0 (cD m _ _) (aKB _) (aKB _) (fun _=>rfl) (.inl rfl)
        ·cases hs
         refine cT.value sN ?_ hR (Trans.refl lo m H w)
         refine .slice b _ _ _ lc _ _ Yv (by omega) ?_ ?_ axS
         ·rcases N5 with⟨_,rfl,rfl⟩ | ⟨_,rfl⟩<;>omega
         ·intro ho
          have:=hxp ho
          rcases N5 with⟨_,rfl,rfl⟩ | ⟨_,rfl⟩<;>omega
    ·cases hs
   ·cases hs
 ·cases hs
end
end Go.PM
namespace Go.PM
section
variable {P:Program} {m:dO} {L0:Nat} {H:aJ} {w:World}
theorem XD {t:TypeId} {i:TypeInfo} {lo b o:Nat} {v r rp:Value} {H':aJ} (hi:P.info? t=some i) (hp:RV m (.pointer (some ⟨b,o,none⟩)) rp) (hv:RV m v r) (hs:(aX v).length=i.size)
  (hw:H.write lo b o (aX v)=some H') (hR:Rel m L0 H w) (dS:L0≤lo) :
  cT P (do Instr.storeAt t rp r;pure .skip) L0 lo m H w undef H':=by
 cases hp with
 |
  ptr _ _ l hm =>
  obtain⟨w',s1,s2,s3⟩:=GR P hR dS hm hw hv.aX
  refine⟨undef,w',m,.inr ⟨?_,rfl⟩,RV.undef m,s2,s3⟩
  have Fa:r.cells.size=i.size:=by rw[fV,←hv.aX.1,hs]
  have h1:(Instr.storeAt t (.pointer (some ⟨l.rb,l.base+o,none⟩)) r).run P w = .ok () w':=by
   show (storeVar t ⟨l.rb,l.base+o,none⟩ r).run P w=_
   unfold storeVar
   simp only[Sem.run_bind,run_sizeOf t i hi,Result.andThen_ok,Fa,ne_eq,not_true_eq_false,if_false,iA]
   exact s1
  rw[Sem.run_bind,h1]
  rfl
theorem Lp {pv rv:Value} {k:Nat} (h:wC pv=some k) (hr:RV m pv rv):Builtin.lenOf rv=pure k:=by
 unfold wC at h
 split at h
 ·cases h;cases hr<;>rfl
 ·cases h;cases hr;rfl
 ·cases h
theorem EH (a b:Array Value) (xs:List Value) (h:a.toList=xs) (i:Nat) (hi:i<xs.length):(a++b).getD i undef=xs.getD i undef:=by
 subst h
 have:i<a.size:=by simpa using hi
 simp[Array.getD_eq_getD_getElem?,Array.getElem?_append_left this,aKy]
theorem ahM {t u ty:TypeId} {agg:Bool} {size bytes lo k:Nat} {z:List Value} {d:TypeDesc} {x y rx ry v:Value} {new:List Value} {H':aJ} (ht:lK P t=some (agg,size,z,bytes)) (hu:P.underlying u=some d) (hd:NZ d=true)
  (hk:wC y=some k) (DF:lD H size k y=some new) (xL:fJ lo size bytes x k new H=some (v,H')) (hx:RV m x rx) (hy:RV m y ry) (Zg:size=z.length)
  (hR:Rel m L0 H w) (dS:L0≤lo) (hf:∀b,H.length≤b→b<H'.length→m b=none) :
  cT P (do pure (.value (←Builtin.append_ #[t,u] ty #[rx,ry]))) L0 lo m H w v H':=by
 obtain⟨e,Mo,Tj⟩:=lH ht
 obtain⟨i,de,zz,hi,_,K5,rfl,rfl,rfl,rfl⟩:=kO Tj
 obtain⟨tD,h1,h2,h3⟩:=MF DF hk (aKB _) hR hy
 have hl:=Lp hk hy
 have GZ:1≤i.bytes:=by
  unfold fJ at xL
  split at xL
  ·rename_i h;exact h.1
  ·cases xL
 have hnl:new.length=k*i.size:=by
  unfold fJ at xL
  split at xL
  ·rename_i h;exact h.2.2.2
  ·cases xL
 obtain⟨rv,w',m',g1,g2,g3,g4⟩:=MS (P:=P) (s:=Builtin.append_ #[t,u] ty #[rx,ry]) (e:=e) xL hR dS hx h1 hf
  (fun a n c w' Nc EU wU=>by
   subst Nc
   exact SN Mo hu hd hi hl (h3 w rfl) EU wU)
  (fun Nc hk0=>by
   subst Nc
   subst hk0
   exact WE Mo hu hd hi hl (h3 w rfl))
  (fun base n c E8 Nc hfo iB hg hb=>by
   subst Nc
   refine⟨grownCap w (n+k) c e,_,grownCap_ge w _ _ _,TP Mo hu hd hi K5 hl hfo (h3 w.drew rfl) hg GZ hb,?_,?_⟩
   ·have Hl:=grownCap_ge w (n+k) c e
    have BX:tD.length=k*i.size:=by rw[←h1.1,hnl]
    simp only[Array.size_append,List.size_toArray,size_zeroCells,iB,BX]
    rw[←fV] at Zg
    rw[←Zg,←aK6,←aK6]
    congr 1
    omega
   ·intro j hj
    exact EH _ _ _ (by simp) j hj)
 exact cT.value g1 g2 g3 g4
section
variable {t u ty e:TypeId} {ku:IntKind} {i:TypeInfo} {zz:Value} {k:Nat}
theorem J2 {k:Nat} (h:k≤140737488355328):IntKind.i64.wrap (k:Int)=(k:Int):=by rw[IntKind.wrap_i64];omega
theorem QL (ht:P.underlying t=some (.slice e)) (hu:P.underlying u=some (.int ku)) (hi:P.info? e=some i) (K5:i.zero=some zz) (hk:k≤140737488355328) (IZ:k*i.bytes≤140737488355328)
  {a:Addr} {n c:Nat} {w':World} (EU:n+k≤c) (hz:k*i.size=0→Builtin.zeroCells zz.cells k = #[]) (wU:(storeCells (a.add (n*i.size)) (Builtin.zeroCells zz.cells k).toList).run P w = .ok () w') :
  (Builtin.append_ #[t,u] ty #[.slice (some a) n c,.int .i64 k]).run P w = .ok (.slice (some a) (n+k) c) w':=by
 have h0:¬((k:Int)<0):=by omega
 have hb:¬(281474976710656<(k:Int)*(i.bytes:Int)):=by rw[←Int.natCast_mul];omega
 by_cases CI:k*i.size=0
 ·rw[hz CI] at wU
  simp[Builtin.append_,run_underlying ht,run_underlying hu,run_sizeOf e i hi,asInt,asIntOf,J2 hk,typeInfo,hi,h0,hb,EU,CI,wU]
 ·simp[Builtin.append_,run_underlying ht,run_underlying hu,run_sizeOf e i hi,asInt,asIntOf,J2 hk,typeInfo,hi,h0,hb,EU,CI,zeroValue,K5,wU]
theorem TR (ht:P.underlying t=some (.slice e)) (hu:P.underlying u=some (.int ku)) (hi:P.info? e=some i) :
  (Builtin.append_ #[t,u] ty #[.slice none 0 0,.int .i64 (0:Nat)]).run P w = .ok (.slice none 0 0) w:=by
 have hw:IntKind.i64.wrap 0=0:=rfl
 simp[Builtin.append_,run_underlying ht,run_underlying hu,run_sizeOf e i hi,asInt,asIntOf,hw,typeInfo,hi]
theorem QO (ht:P.underlying t=some (.slice e)) (hu:P.underlying u=some (.int ku)) (hi:P.info? e=some i) (K5:i.zero=some zz) (hk:k≤140737488355328) (IZ:k*i.bytes≤140737488355328)
  {base:Option Addr} {n c:Nat} {E8:List Value} (hfo:(Builtin.firstCells i.size n (.slice base n c)).run P w.drew = .ok E8.toArray w.drew) (hz:k*i.size=0→Builtin.zeroCells zz.cells k = #[])
  (hg:c<n+k) (GZ:1≤i.bytes) (Oe:(n+k)*i.bytes≤140737488355328) :
  (Builtin.append_ #[t,u] ty #[.slice base n c,.int .i64 k]).run P w = .ok (.slice (some ⟨w.heap.size,0,none⟩) (n+k) (grownCap w (n+k) c e))
   (w.drew.alloc (.cells (E8.toArray++Builtin.zeroCells zz.cells k++Builtin.zeroCells zz.cells (grownCap w (n+k) c e-(n+k))) e)):=by
 have xG:=growslice_fits (bytes:=i.bytes) hg Oe
 have h0:¬((k:Int)<0):=by omega
 have hb:¬(281474976710656<(k:Int)*(i.bytes:Int)):=by rw[←Int.natCast_mul];omega
 have h1:¬(n+k≤c):=by omega
 have h2:¬(281474976710656<Builtin.nextslicecap (n+k) c*i.bytes):=by omega
 have h4:n+k≤140737488355328:=aKC (aK7 _ GZ) Oe
 have h3:¬(9223372036854775807<(n:Int)+(k:Int)):=by omega
 by_cases CI:k*i.size=0
 ·have e0:=hz CI
  simp[Builtin.append_,run_underlying ht,run_underlying hu,run_sizeOf e i hi,asInt,asIntOf,J2 hk,typeInfo,hi,h0,hb,h1,h2,h3,e0,zeroValue,K5,Question.forced,hfo,newRow,grownCap]
 ·simp[Builtin.append_,run_underlying ht,run_underlying hu,run_sizeOf e i hi,asInt,asIntOf,J2 hk,typeInfo,hi,h0,hb,h1,h2,h3,CI,zeroValue,K5,Question.forced,hfo,newRow,grownCap]
end
theorem abS {t u ty:TypeId} {agg:Bool} {size bytes lo:Nat} {z:List Value} {ku:IntKind} {n:Int} {x rx v:Value} {H':aJ} (ht:lK P t=some (agg,size,z,bytes)) (hu:P.underlying u=some (.int ku))
  (hn:0≤n∧n*bytes≤140737488355328) (xL:fJ lo z.length bytes x n.toNat (dG n.toNat z) H=some (v,H')) (hx:RV m x rx) (Zg:size=z.length) (Lm:z.all iQ=true) (NB:z.all nA=true) (CI:1≤z.length)
  (hR:Rel m L0 H w) (dS:L0≤lo) (hf:∀b,H.length≤b→b<H'.length→m b=none) :
  cT P (do pure (.value (←Builtin.append_ #[t,u] ty #[rx,.int .i64 n]))) L0 lo m H w v H':=by
 obtain⟨e,Mo,Tj⟩:=lH ht
 obtain⟨i,de,zz,hi,_,K5,rfl,rfl,rfl,rfl⟩:=kO Tj
 obtain⟨k,rfl⟩:=Int.eq_ofNat_of_zero_le hn.1
 simp only[Int.toNat_natCast] at xL
 have GZ:1≤i.bytes:=by
  unfold fJ at xL
  split at xL
  ·rename_i h;exact h.1
  ·cases xL
 have IZ:k*i.bytes≤140737488355328:=by have:=hn.2;omega
 have hk:k≤140737488355328:=aKC (aK7 _ GZ) IZ
 have Fa:i.size=zz.cells.size:=by rw[Zg,fV]
 have afE:1≤zz.cells.size:=by rw[fV];exact CI
 have pO:(Builtin.zeroCells zz.cells k).toList=dG k (aX zz):=by rw[JF _ _ afE,iA]
 have aAM:k*i.size=0→Builtin.zeroCells zz.cells k = #[]:=by
  intro h0
  apply Array.ext'
  rw[pO]
  exact aKH (by rw[zD,←Zg];exact h0)
 obtain⟨rv,w',m',g1,g2,g3,g4⟩:=MS (P:=P) (s:=Builtin.append_ #[t,u] ty #[rx,.int .i64 k]) (e:=e) (tD:=dG k (aX zz)) xL hR dS hx (AG k NB CI) hf
  (fun a n c w' Nc EU wU=>by
   subst Nc
   exact QL Mo hu hi K5 hk IZ EU aAM (by rw[pO,Zg];exact wU))
  (fun Nc hk0=>by
   subst Nc
   subst hk0
   exact TR Mo hu hi)
  (fun base n c E8 Nc hfo iB hg hb=>by
   subst Nc
   refine⟨grownCap w (n+k) c e,_,grownCap_ge w _ _ _,QO Mo hu hi K5 hk IZ (by rw[Zg];exact hfo) aAM hg GZ hb,?_,?_⟩
   ·have Hl:=grownCap_ge w (n+k) c e
    simp only[Array.size_append,List.size_toArray,size_zeroCells,iB,fV]
    rw[←aK6,←aK6]
    congr 1
    omega
   ·intro j hj
    exact EH _ _ _ (by simp[pO]) j hj)
 exact cT.value g1 g2 g3 g4
theorem afM {t ty:TypeId} {ts:List TypeId} {agg:Bool} {size bytes lo b o d c k:Nat} {z new:List Value} {y rx ry:Value} {H':aJ} (ht:lK P t=some (agg,size,z,bytes))
  (hk:wC y=some k) (DF:lD H size (aK8 k d) y=some new) (hw:H.write lo b o new=some H') (hx:RV m (.slice (some ⟨b,o,none⟩) d c) rx) (hy:RV m y ry)
  (hR:Rel m L0 H w) (dS:L0≤lo) :
  cT P (do pure (.value (←Builtin.copy_ (t::ts).toArray ty #[rx,ry]))) L0 lo m H w (.int .i64 (aK8 k d)) H':=by
 obtain⟨e,Mo,Tj⟩:=lH ht
 obtain⟨i,de,zz,hi,_,K5,rfl,rfl,rfl,rfl⟩:=kO Tj
 obtain⟨tD,h1,h2,h3⟩:=MF (P:=P) DF hk (Nat.min_le_left _ _) hR hy
 have hl:=Lp hk hy
 cases hx with
 |
  slice _ _ _ _ l ra rc hm hn hc hxp ha =>
  rcases ha with ha | ⟨rfl,ha⟩
  ·have Ft:d=0:=by omega
   subst Ft
   have apM:aK8 k 0=0:=Nat.min_zero k
   rw[apM] at DF h3 ⊢
   have pO:new=[]:=by
    have:tD.length=new.length:=h1.1.symm
    unfold lD at DF
    split at DF
    ·obtain⟨_,_,_,_,_,_,hlen⟩:=Rc DF
     exact aKH (by simpa using hlen)
    ·split at DF
     ·cases DF;rfl
     ·cases DF
    ·split at DF
     ·cases DF;simp
     ·cases DF
    ·cases DF
   subst pO
   have hrn:tD=[]:=aKH h1.1.symm
   subst hrn
   have hHH:H'=H:=by
    obtain⟨cs,e',p',q1,q2,q3,q4,rfl⟩:=Ec hw
    apply List.ext_getElem?
    intro j
    by_cases hj:b=j
    ·subst hj
     rw[List.getElem?_set_self (aKA.1 q1).1,q1]
     simp[kM]
    ·rw[aK0 hj]
   rw[hHH]
   refine cT.value (rv := .int .i64 0) (w':=w) ?_ (.int _ _) hR (Trans.refl lo m _ w)
   have hf0:=h3 w rfl
   simp[Builtin.copy_,run_underlying Mo,hl,run_sizeOf e i hi,goInt,hf0,storeCells]
  ·obtain⟨w',s1,s2,s3⟩:=GR P hR dS hm hw h1
   refine cT.value (rv := .int .i64 (aK8 k d)) ?_ (.int _ _) s2 s3
   have hf0:=h3 w rfl
   unfold Builtin.copy_
   simp only[List.getElem?_toArray,List.getElem?_cons_zero,List.getElem?_cons_succ,Sem.run_bind,run_underlying Mo,Result.andThen_ok,hl,Sem.run_pure,run_sizeOf e i hi]
   rw[hf0]
   simp only[Result.andThen_ok,s1,goInt]
theorem X3 {t ty e:TypeId} {ts:List TypeId} {i:TypeInfo} {zz:Value} {lo b o n c:Nat} {rx:Value} {H':aJ} (Mo:P.underlying t=some (.slice e)) (hi:P.info? e=some i) (K5:i.zero=some zz)
  (hn0:n≠0) (hw:H.write lo b o (dG n (aX zz))=some H') (hx:RV m (.slice (some ⟨b,o,none⟩) n c) rx) (NB:(aX zz).all nA=true) (CI:1≤(aX zz).length) (hR:Rel m L0 H w) (dS:L0≤lo) :
  cT P (do pure (.value (←Builtin.clear_ (t::ts).toArray ty #[rx]))) L0 lo m H w undef H':=by
 cases hx with
 |
  slice _ _ _ _ l ra rc hm hn hc hxp ha =>
  rcases ha with ha | ⟨rfl,ha⟩
  ·omega
  ·obtain⟨w',s1,s2,s3⟩:=GR P hR dS hm hw (AG n NB CI)
   have pO:(Builtin.zeroCells zz.cells n).toList=dG n (aX zz):=by rw[JF _ _ (by rw[fV];exact CI),iA]
   refine cT.value (rv:=undef) ?_ (RV.undef m) s2 s3
   rw[←pO] at s1
   obtain⟨n',rfl⟩:∃n',n=n'+1:=⟨n-1,by omega⟩
   simp[Builtin.clear_,run_underlying Mo,zeroValue,typeInfo,hi,K5,s1,undef]
theorem MO {t ty e:TypeId} {ts:List TypeId} {lo c:Nat} {a:Option Addr} {rx:Value} (Mo:P.underlying t=some (.slice e)) (hx:RV m (.slice a 0 c) rx) (hR:Rel m L0 H w) :
  cT P (do pure (.value (←Builtin.clear_ (t::ts).toArray ty #[rx]))) L0 lo m H w undef H:=by
 refine cT.value (rv:=undef) (w':=w) ?_ (RV.undef m) hR (Trans.refl lo m _ w)
 cases hx<;>simp[Builtin.clear_,run_underlying Mo,undef]
end
end Go.PM
namespace Go.PM
section
variable {P:Program} {m:dO} {L0:Nat} {H:aJ} {w:World}
theorem Ge {po:qH} {ρ:Env} {v:Value} {H':aJ} (h:(kE po ρ).map (Out.val · H)=some (.val v H')):kE po ρ=some v∧H'=H:=by
 cases hp:kE po ρ with
 | none=>rw[hp] at h;cases h
 | some u=>rw[hp] at h;cases h;exact⟨rfl,rfl⟩
def yG:qH→Bool
 | .load .. | .sub .. | .b2s _ | .new _ | .box _ | .make .. | .lit .. | .call .. | .store .. | .app .. | .appz .. | .copy .. | .clear .. | .callv .. => false
 | _=>true
theorem BB {lo:Nat} {po:qH} {ρ:Env} (h:yG po=true):pop lo po ρ H=(kE po ρ).map (.val · H):=by
 cases po<;>first | rfl | cases h
theorem UY {pv rv:Value} {k:Nat} (size:Nat) (h:wC pv=some k) (hr:RV m pv rv):(Builtin.firstCells size 0 rv).run P w = .ok #[] w:=by
 unfold wC at h
 split at h
 ·cases hr
  ·rfl
  ·simp only[Builtin.firstCells,Nat.zero_mul]
   rfl
 ·cases hr
  simp[Builtin.firstCells]
 ·cases h
theorem Zf {o:Oper} {po:qH} {ρ:Env} {a:Act} {lo:Nat} {v:Value} {H':aJ} (hp:tJ P o.op=some po) (hv:pop lo po ρ H=some (.val v H')) (hr:∀x∈o.op.operands,RV m (ev ρ x) (a.eval x))
  (hR:Rel m L0 H w) (dS:L0≤lo) (hf:∀b,H.length≤b→b<H'.length→m b=none):cT P (execOp a.eval o) L0 lo m H w v H':=by
 by_cases kT:yG po=true
 ·rw[BB kT] at hv
  obtain⟨h1,rfl⟩:=Ge hv
  obtain⟨rv,h2,h3⟩:=ajY hp h1 hr
  exact⟨rv,w,m,.inl (h3 w),h2,hR,Trans.refl lo m _ w⟩
 obtain⟨dst,op,type,pos,after,guard⟩:=o
 unfold tJ at hp
 simp only at hp hr ⊢
 split at hp
 case isFalse=>cases hp
 cases op with
 | move x=>cases hp;exact absurd rfl kT
 | assign x=>cases hp;exact absurd rfl kT
 | pick c x y=>cases hp;exact absurd rfl kT
 |
  binOp op t x y yt =>
  unfold D2 at hp
  simp only at hp
  split at hp
  ·cases hp;exact absurd rfl kT
  ·cases hp;exact absurd rfl kT
  ·split at hp<;>first | (cases hp;done) | (cases hp;exact absurd rfl kT)
  ·split at hp<;>first | (cases hp;done) | (split at hp<;>first | (cases hp;done) | (cases hp;exact absurd rfl kT))
  ·split at hp<;>first | (cases hp;done) | (cases hp;exact absurd rfl kT)
  ·cases hp
 | unOp op t x=>cases hp;exact absurd rfl kT
 | extract x i=>cases hp;exact absurd rfl kT
 |
  convert s d x =>
  have hx:=hr x (by simp[Op.operands])
  simp only at hp
  split at hp
  ·cases hp;exact absurd rfl kT
  ·cases hp;exact absurd rfl kT
  ·rename_i e hs hd
   split at hp
   ·rename_i he
    cases hp
    simp only[pop] at hv
    split at hv
    ·rename_i n c RY
     cases hv
     rw[RY] at hx
     show cT P (do pure (.value (←convert s d (a.eval x)))) L0 lo m H w _ H
     generalize a.eval x=rx at hx ⊢
     cases hx
     refine cT.value (rv := .string ByteArray.empty) ?_ (.str _) hR (Trans.refl lo m _ w)
     simp[convert,run_underlying hs,run_underlying hd,run_underlying he,Conv.bytesToString]
    ·rename_i b o n c RY
     split at hv
     ·rename_i cs P4
      cases hb:yS cs with
      | none=>rw[hb] at hv;cases hv
      |
       some bs =>
       rw[hb] at hv
       cases hv
       rw[RY] at hx
       exact akA hs hd he P4 hb hR hx
     ·cases hv
    ·cases hv
   ·cases hp
  ·cases hp
 |
  field t x i =>
  simp only at hp
  split at hp
  ·split at hp
   ·rename_i f hf'
    cases ht:oO P f.type with
    | none=>rw[ht] at hp;cases hp
    | some q=>rw[ht] at hp;cases hp;exact absurd rfl kT
   ·cases hp
  ·cases hp
 |
  build t parts =>
  simp only at hp
  split at hp
  ·split at hp
   ·split at hp
    ·cases hp;exact absurd rfl kT
    ·cases hp
   ·cases hp
  ·cases hp
 | nilCheck x=>cases hp;exact absurd rfl kT
 |
  fieldAddr t x i =>
  simp only at hp
  split at hp
  ·split at hp
   ·split at hp
    ·split at hp
     ·cases hp
     ·cases hp;exact absurd rfl kT
    ·cases hp
   ·cases hp
  ·cases hp
 |
  indexAddr t x i =>
  simp only at hp
  cases ht:lK P t with
  | none=>rw[ht] at hp;cases hp
  | some q=>rw[ht] at hp;cases hp;exact absurd rfl kT
 |
  index t x i =>
  simp only at hp
  split at hp
  ·cases hp;exact absurd rfl kT
  ·cases hp
 |
  slice t x gF hi mx =>
  have hx:=hr x (by simp[Op.operands])
  simp only at hp
  split at hp
  ·split at hp
   ·cases hp;exact absurd rfl kT
   ·cases hp
  ·rename_i e hu
   cases ht:oO P e with
   | none=>rw[ht] at hp;cases hp
   |
    some q =>
    obtain⟨agg,size,z,nb⟩:=q
    rw[ht] at hp
    cases hp
    obtain⟨i,d,zz,qL,_,_,rfl,rfl,rfl,rfl⟩:=kO ht
    simp only[pop] at hv
    cases hs:E9 i.size (ev ρ x) (gF.map (ev ρ)) (hi.map (ev ρ)) (mx.map (ev ρ)) H with
    | none=>rw[hs] at hv;cases hv
    |
     some q =>
     obtain⟨u,H1⟩:=q
     rw[hs] at hv
     cases hv
     exact alZ hu qL hs hx (RO.map fun y hy=>hr y (by simp[Op.operands,hy])) (RO.map fun y hy=>hr y (by simp[Op.operands,hy])) (RO.map fun y hy=>hr y (by simp[Op.operands,hy])) hR hf
  ·cases hp
 |
  makeFunc fn first gG =>
  cases fn with
  |
   func f =>
   simp only at hp
   split at hp
   ·cases hp;exact absurd rfl kT
   ·cases hp
  | _=>cases hp
 | makeInterface t x=>cases hp;exact absurd rfl kT
 | panic x=>cases hp;exact absurd rfl kT
 |
  load t p =>
  have hx:=hr p (by simp[Op.operands])
  simp only at hp
  cases ht:oO P t with
  | none=>rw[ht] at hp;cases hp
  |
   some q =>
   obtain⟨agg,size,z,nb⟩:=q
   rw[ht] at hp
   cases hp
   simp only[pop] at hv
   cases hl:qQ agg size (ev ρ p) H with
   | none=>rw[hl] at hv;cases hv
   |
    some u =>
    rw[hl] at hv
    cases hv
    obtain⟨rv,h1,h2⟩:=RD ht hl hR hx
    exact cT.value h2 h1 hR (Trans.refl lo m _ w)
 |
  store t p x =>
  have hpp:=hr p (by simp[Op.operands])
  have hx:=hr x (by simp[Op.operands])
  simp only at hp
  cases ht:P.info? t with
  | none=>rw[ht] at hp;cases hp
  |
   some i =>
   rw[ht] at hp
   cases hp
   simp only[pop] at hv
   split at hv
   ·rename_i b o hpo
    split at hv
    ·rename_i hs
     cases hw:H.write lo b o (aX (ev ρ x)) with
     | none=>rw[hw] at hv;cases hv
     |
      some H1 =>
      rw[hw] at hv
      cases hv
      rw[hpo] at hpp
      exact XD ht hpp hx hs hw hR dS
    ·cases hv
   ·cases hv
 |
  alloc t =>
  simp only at hp
  split at hp
  ·rename_i agg size z nb ht
   split at hp
   ·rename_i hz
    cases hp
    simp only[aK9] at hz
    cases hv
    exact alO ht hz.1 hz.2 hR (hf _ (aKB _) (by simp))
   ·cases hp
  ·cases hp
 |
  box t x =>
  have hx:=hr x (by simp[Op.operands])
  cases hp
  simp only[pop] at hv
  split at hv
  ·rename_i hs
   cases hv
   exact aiD hx hs hR (hf _ (aKB _) (by simp))
  ·cases hv
 |
  makeSlice t l c =>
  have hl:=hr l (by simp[Op.operands])
  have hc:=hr c (by simp[Op.operands])
  simp only at hp
  split at hp
  ·rename_i agg size z nb ht
   split at hp
   ·rename_i hz
    cases hp
    simp only[aK9,beq_iff_eq,decide_eq_true_eq] at hz
    obtain⟨⟨⟨z1,z2⟩,z3⟩,z4⟩:=hz
    simp only[pop] at hv
    split at hv
    ·rename_i l' c' Fo hc'
     split at hv
     ·rename_i hb
      cases hv
      rw[Fo] at hl
      rw[hc'] at hc
      show cT P (do pure (.value (←Instr.makeSlice t (a.eval l) (a.eval c)))) L0 lo m H w _ _
      generalize a.eval l=rl at hl ⊢
      generalize a.eval c=rc at hc ⊢
      cases hl
      cases hc
      exact aeA ht z1 z2 z3 z4 hb.1 hb.2.1 hb.2.2.1 hb.2.2.2 hR (hf _ (aKB _) (by simp))
     ·cases hv
    ·cases hv
   ·cases hp
  ·cases hp
 |
  buildSlice t n parts =>
  simp only at hp
  split at hp
  ·rename_i agg size z nb ht
   split at hp
   ·rename_i hz
    cases hp
    simp only[aK9,beq_iff_eq,decide_eq_true_eq] at hz
    obtain⟨⟨⟨⟨z1,z2⟩,z3⟩,z4⟩,z5⟩:=hz
    simp only[pop] at hv
    split at hv
    ·rename_i cs P4
     split at hv
     ·rename_i ET
      cases hv
      have:=akE (P:=P) (w:=w) (lo:=lo) (a:=a) ht z1 z2 z3 z4 z5 P4 ET (fun p hpm=>hr p.2 (by simp only[Op.operands];simp;exact⟨p.1,by simpa using hpm⟩)) hR (hf _ (aKB _) (by simp))
      rw[Array.toArray_toList] at this
      exact this
     ·cases hv
    ·cases hv
   ·cases hp
  ·cases hp
 |
  call c =>
  obtain⟨callee,args,ts⟩:=c
  cases callee with
  |
   builtin b =>
   have Xc:∀x∈args,RV m (ev ρ x) (a.eval x):=fun x hx=>hr x (by simpa[Op.operands,Call.operands] using hx)
   simp only at hp
   unfold rV at hp
   split at hp
   ·split at hp<;>first | (cases hp;done) | (cases hp;exact absurd rfl kT)
   ·split at hp<;>first | (cases hp;done) | (cases hp;exact absurd rfl kT)
   ·cases hp;exact absurd rfl kT
   ·cases hp;exact absurd rfl kT
   ·rename_i x y t u F7 Br hts _
    have ea:args = #[x,y]:=aKR.1 (by simpa using Br)
    subst ea
    have hx:=Xc x (by simp)
    have hy:=Xc y (by simp)
    have aFs:∃tr,ts=(t::u::tr).toArray:=⟨F7,aKR.1 (by simpa using hts)⟩
    obtain⟨tr,rfl⟩:=aFs
    show cT P (do pure (.value (←Builtin.append_ (t::u::tr).toArray type ((#[x,y]:Array Operand).map a.eval)))) L0 lo m H w v H'
    rw[NT]
    have aDT:∀r1 r2,Builtin.append_ (t::u::tr).toArray type #[r1,r2]=Builtin.append_ #[t,u] type #[r1,r2]:=fun r1 r2=>by simp[Builtin.append_]
    rw[aDT]
    split at hp
    ·rename_i agg size zero bytes ku ht hu
     split at hp
     ·rename_i hz
      cases hp
      simp only[aK9,beq_iff_eq,decide_eq_true_eq] at hz
      obtain⟨⟨⟨z1,z2⟩,z3⟩,z4⟩:=hz
      simp only[pop] at hv
      split at hv
      ·rename_i n hn
       split at hv
       ·rename_i hb
        cases xL:fJ lo zero.length bytes (ev ρ x) n.toNat (dG n.toNat zero) H with
        | none=>rw[xL] at hv;cases hv
        |
         some q =>
         obtain⟨u',H1⟩:=q
         rw[xL] at hv
         cases hv
         rw[hn] at hy
         generalize a.eval y=ry at hy ⊢
         cases hy
         exact abS ht hu hb xL hx z4 z1 z2 z3 hR dS hf
       ·cases hv
      ·cases hv
     ·cases hp
    ·rename_i agg size zero bytes d _ ht hu
     split at hp
     ·rename_i hd
      split at hp
      ·rename_i Zg
       cases hp
       simp only[pop] at hv
       split at hv
       ·rename_i k hk
        split at hv
        ·rename_i new pO
         cases xL:fJ lo size bytes (ev ρ x) k new H with
         | none=>rw[xL] at hv;cases hv
         |
          some q =>
          obtain⟨u',H1⟩:=q
          rw[xL] at hv
          cases hv
          exact ahM ht hu hd hk pO xL hx hy (by simpa using Zg) hR dS hf
        ·cases hv
       ·cases hv
      ·cases hp
     ·cases hp
    ·cases hp
   ·rename_i x y t F7 Br hts _
    have ea:args = #[x,y]:=aKR.1 (by simpa using Br)
    have et:ts=(t::F7).toArray:=aKR.1 (by simpa using hts)
    subst ea;subst et
    have hx:=Xc x (by simp)
    have hy:=Xc y (by simp)
    show cT P (do pure (.value (←Builtin.copy_ (t::F7).toArray type ((#[x,y]:Array Operand).map a.eval)))) L0 lo m H w v H'
    rw[NT]
    split at hp
    ·rename_i agg size zero bytes ht
     cases hp
     simp only[pop] at hv
     split at hv
     ·rename_i n c k RY hk
      cases hv
      rw[RY] at hx
      generalize a.eval x=rx at hx ⊢
      cases hx
      obtain⟨e,Mo,Tj⟩:=lH ht
      obtain⟨i,de,zz,hi,_,K5,_,_,_,_⟩:=kO Tj
      refine cT.value (rv := .int .i64 0) (w':=w) ?_ (.int _ _) hR (Trans.refl lo m _ w)
      have hl:=Lp hk hy
      have hf0:=UY (P:=P) (w:=w) i.size hk hy
      simp[Builtin.copy_,run_underlying Mo,hl,run_sizeOf e i hi,goInt,hf0]
     ·rename_i b o d c k RY hk
      split at hv
      ·rename_i new pO
       cases hw:H.write lo b o new with
       | none=>rw[hw] at hv;cases hv
       |
        some H1 =>
        rw[hw] at hv
        cases hv
        rw[RY] at hx
        exact afM ht hk pO hw hx hy hR dS
      ·cases hv
     ·cases hv
    ·cases hp
   ·rename_i x t F7 Br hts _
    have ea:args = #[x]:=aKR.1 (by simpa using Br)
    have et:ts=(t::F7).toArray:=aKR.1 (by simpa using hts)
    subst ea;subst et
    have hx:=Xc x (by simp)
    show cT P (do pure (.value (←Builtin.clear_ (t::F7).toArray type ((#[x]:Array Operand).map a.eval)))) L0 lo m H w v H'
    rw[Tc]
    split at hp
    ·rename_i agg size zero bytes ht
     split at hp
     ·rename_i hz
      cases hp
      simp only[aK9,beq_iff_eq,decide_eq_true_eq] at hz
      obtain⟨⟨⟨z1,z2⟩,z3⟩,z4⟩:=hz
      obtain⟨e,Mo,Tj⟩:=lH ht
      obtain⟨i,de,zz,hi,_,K5,rfl,rfl,rfl,rfl⟩:=kO Tj
      simp only[pop] at hv
      split at hv
      ·rename_i n c RY
       cases hv
       rw[RY] at hx
       generalize a.eval x=rx at hx ⊢
       cases hx
       exact MO Mo .Nj hR
      ·rename_i b o n c RY
       rw[RY] at hx
       split at hv
       ·rename_i hn0
        cases hv
        subst hn0
        exact MO Mo hx hR
       ·rename_i hn0
        cases hw:H.write lo b o (dG n (aX zz)) with
        | none=>rw[hw] at hv;cases hv
        |
         some H1 =>
         rw[hw] at hv
         cases hv
         exact X3 Mo hi K5 hn0 hw hx z2 z4 hR dS
      ·cases hv
     ·cases hp
    ·cases hp
   ·cases hp
  |
   value f =>
   cases f with
   | func g=>cases hp;cases hv
   |
    tmp t =>
    cases hp
    simp only[pop] at hv
    split at hv<;>cases hv
   | const c=>cases hp
   | global g=>cases hp
  | invoke r s=>cases hp
 | _=>cases hp
def Qd (P:Program) (f:Nat):Prop:=∃fn,P.funcs[f]? = some fn∧(fn.name == "runtime.NumGoroutine")=false∧fn.body.isNone=false
theorem JH {f:Nat} {args:Array Value} (h:Qd P f):(callFunc f args).run P w = .ok (.enter f args) w:=by
 obtain⟨fn,h1,h2,h3⟩:=h
 unfold callFunc
 rw[Sem.run_bind,run_program,Result.andThen_ok,h1]
 simp[h2,h3]
theorem map_none {α β:Type} {o:Option α} {f:α→β} {x:β} (h:o.map f=some x) (hf:∀y,f y≠x):False:=by
 cases o with
 | none=>cases h
 | some y=>injection h with h;exact hf y h
theorem aeD {op:Op} {g:Nat} {as:List Operand} (h:tJ P op=some (.call g as)):∃args ts,op = .call ⟨.value (.func g),args,ts⟩∧as=args.toList:=by
 unfold tJ at h
 split at h
 case isFalse=>cases h
 cases op with
 |
  call c =>
  obtain⟨callee,args,ts⟩:=c
  cases callee with
  |
   builtin b =>
   exfalso
   simp only[rV] at h
   repeat' (split at h)
   all_goals cases h
  |
   value f =>
   cases f with
   | func g'=>cases h;exact⟨args,ts,rfl,rfl⟩
   | _=>cases h
  | invoke r s=>cases h
 |
  _ =>
  exfalso
  dsimp only at h
  try unfold D2 at h
  repeat' (split at h)
  all_goals first
   | contradiction
   | (cases h;done)
   | exact map_none h (by intro y h;cases h)
theorem XJ {op:Op} {fv:Operand} {as:List Operand} (h:tJ P op=some (.callv fv as)):∃args ts,op = .call ⟨.value fv,args,ts⟩∧as=args.toList:=by
 unfold tJ at h
 split at h
 case isFalse=>cases h
 cases op with
 |
  call c =>
  obtain⟨callee,args,ts⟩:=c
  cases callee with
  |
   builtin b =>
   exfalso
   simp only[rV] at h
   repeat' (split at h)
   all_goals cases h
  |
   value f =>
   cases f with
   | tmp g'=>cases h;exact⟨args,ts,rfl,rfl⟩
   | _=>cases h
  | invoke r s=>cases h
 |
  _ =>
  exfalso
  dsimp only at h
  try unfold D2 at h
  repeat' (split at h)
  all_goals first
   | contradiction
   | (cases h;done)
   | exact map_none h (by intro y h;cases h)
theorem wY {po:qH} {ρ:Env} {lo f:Nat} {args:List Value} (hv:pop lo po ρ H=some (.call f args)):(∃g as,po = .call g as)∨(∃g as,po = .callv g as):=by
 by_cases kT:yG po=true
 ·rw[BB kT] at hv
  cases hpp:kE po ρ with
  | none=>rw[hpp] at hv;cases hv
  | some u=>rw[hpp] at hv;cases hv
 cases po<;>first | exact absurd rfl kT | exact .inl ⟨_,_,rfl⟩ | exact .inr ⟨_,_,rfl⟩ | skip
 all_goals
  exfalso
  simp only[pop] at hv
  repeat' (split at hv)
  all_goals first
   | (cases hv;done)
   | (revert hv;generalize aJ.write _ _ _ _ _=q;cases q<;>intro hv<;>cases hv)
   | (revert hv;generalize qQ _ _ _ _=q;cases q<;>intro hv<;>cases hv)
   | (revert hv;generalize E9 _ _ _ _ _ _=q;cases q<;>intro hv<;>cases hv)
   | (revert hv;generalize fJ _ _ _ _ _ _ _=q;cases q<;>intro hv<;>cases hv)
   | (revert hv;generalize yS _=q;cases q<;>intro hv<;>cases hv)
theorem abU {o:Oper} {po:qH} {ρ:Env} {a:Act} {lo f:Nat} {args:List Value} (hp:tJ P o.op=some po) (hv:pop lo po ρ H=some (.call f args)) (hr:∀x∈o.op.operands,RV m (ev ρ x) (a.eval x)) :
  ∃iX,RL m args iX∧(Qd P f→∀w,(execOp a.eval o).run P w = .ok (.enter f iX.toArray) w):=by
 have key:=wY hv
 obtain⟨dst,op,type,pos,after,guard⟩:=o
 simp only at hp hr ⊢
 rcases key with⟨g,as,rfl⟩ | ⟨g,as,rfl⟩
 ·obtain⟨EG,ts,rfl,rfl⟩:=aeD hp
  cases hv
  refine⟨EG.toList.map a.eval,RL.map fun x hx=>hr x (by simp[Op.operands,Call.operands];right;simpa using hx),fun hc w => ?_⟩
  have e1:(EG.toList.map a.eval).toArray=EG.map a.eval:=aKR.1 (by rw[Array.toList_map])
  rw[e1]
  have e2:execOp a.eval ⟨dst,.call ⟨.value (.func f),EG,ts⟩,type,pos,after,guard⟩=callFunc f ((#[]++EG.map a.eval) ++ #[]):=rfl
  rw[e2,JH hc]
  simp
 ·obtain⟨EG,ts,rfl,rfl⟩:=XJ hp
  have hg:=hr g (by simp[Op.operands,Call.operands])
  simp only[pop] at hv
  split at hv
  ·rename_i f' first gG hfv
   cases hv
   rw[hfv] at hg
   generalize hrg:a.eval g=rg at hg
   cases hg with
   |
    func fn f1 g1 c1 d1 h1 h2 h3 h4 =>
    refine⟨g1.toList++EG.toList.map a.eval++d1.toList,((RL.arr h1 h2).append (RL.map fun x hx=>hr x (by simp[Op.operands,Call.operands];right;simpa using hx))).append (RL.arr h3 h4),fun hc w => ?_⟩
    have e1:(g1.toList++EG.toList.map a.eval++d1.toList).toArray=(g1++EG.map a.eval)++d1:=by
     apply Array.ext'
     simp
    rw[e1]
    have e2:(execOp a.eval ⟨dst,.call ⟨.value g,EG,ts⟩,type,pos,after,guard⟩)=(do let d ←Deferred.ofValue (a.eval g) (EG.map a.eval);invoke d.target d.args):=rfl
    rw[e2,hrg]
    show (callFunc f ((g1++EG.map a.eval)++d1)).run P w=_
    exact JH hc
  ·cases hv
end
end Go.PM
namespace Go.PM
section
variable {H:aJ}
theorem afU {lo:Nat} {H':aJ} (h:Ext H.length H H'):Ext lo H H' :=
 ⟨h.len,fun b _ hl=>h.low b hl hl,h.liv⟩
theorem Mk {lo size bytes add:Nat} {x v:Value} {new:List Value} {H':aJ} (h:fJ lo size bytes x add new H=some (v,H')):Ext lo H H':=by
 unfold fJ at h
 split at h
 case isFalse=>cases h
 split at h
 ·split at h
  ·split at h
   ·cases h;exact Ext.refl _ _
   ·split at h
    ·cases h;exact sZ _ _ _
    ·cases h
  ·cases h
 ·split at h
  ·split at h
   ·split at h
    ·split at h
     ·cases h;exact Ext.refl _ _
     ·cases hw:aJ.write H lo _ _ new with
      | none=>rw[hw] at h;cases h
      | some H1=>rw[hw] at h;cases h;exact GI hw
    ·split at h
     ·split at h
      ·split at h
       ·rename_i Hw
        cases h
        exact aeX Hw
       ·cases h
      ·cases h;exact sZ _ _ _
     ·cases h
   ·cases h
  ·cases h
 ·cases h
theorem anD {lo size:Nat} {x v:Value} {l h' mx:Option Value} {H':aJ} (h:E9 size x l h' mx H=some (v,H')):Ext lo H H':=by
 unfold E9 at h
 repeat' (split at h)
 all_goals first
  | (cases h;done)
  | (cases h;exact Ext.refl _ _)
  | (cases h;exact sZ _ _ _)
theorem ZW {lo:Nat} {po:qH} {ρ:Env} {v:Value} {H':aJ} (h:pop lo po ρ H=some (.val v H')):Ext lo H H':=by
 by_cases kT:yG po=true
 ·rw[BB kT] at h
  obtain⟨_,rfl⟩:=Ge h
  exact Ext.refl _ _
 cases po<;>first | exact absurd rfl kT | skip
 case load agg size p =>
  simp only[pop] at h
  cases hl:qQ agg size (ev ρ p) H with
  | none=>rw[hl] at h;cases h
  | some u=>rw[hl] at h;cases h;exact Ext.refl _ _
 case sub size x l hh mx =>
  simp only[pop] at h
  cases hs:E9 size (ev ρ x) (l.map (ev ρ)) (hh.map (ev ρ)) (mx.map (ev ρ)) H with
  | none=>rw[hs] at h;cases h
  |
   some q =>
   obtain⟨u,H1⟩:=q
   rw[hs] at h;cases h;exact anD hs
 case b2s x =>
  simp only[pop] at h
  split at h
  ·cases h;exact Ext.refl _ _
  ·split at h
   ·rename_i cs _
    cases hb:yS cs with
    | none=>rw[hb] at h;cases h
    | some bs=>rw[hb] at h;cases h;exact Ext.refl _ _
   ·cases h
  ·cases h
 case new z=>cases h;exact sZ _ _ _
 case box x =>
  simp only[pop] at h
  split at h
  ·cases h;exact sZ _ _ _
  ·cases h
 case make z b l c =>
  simp only[pop] at h
  split at h
  ·split at h
   ·cases h;exact sZ _ _ _
   ·cases h
  ·cases h
 case lit z n parts =>
  simp only[pop] at h
  split at h
  ·split at h
   ·cases h;exact sZ _ _ _
   ·cases h
  ·cases h
 case call f args=>cases h
 case callv f args =>
  simp only[pop] at h
  split at h<;>cases h
 case store size p x =>
  simp only[pop] at h
  split at h
  ·rename_i b o _
   split at h
   ·cases hw:H.write lo b o (aX (ev ρ x)) with
    | none=>rw[hw] at h;cases h
    | some H1=>rw[hw] at h;cases h;exact GI hw
   ·cases h
  ·cases h
 case app size bytes x y =>
  simp only[pop] at h
  split at h
  ·rename_i n _
   split at h
   ·rename_i new _
    cases ha:fJ lo size bytes (ev ρ x) n new H with
    | none=>rw[ha] at h;cases h
    |
     some q =>
     obtain⟨u,H1⟩:=q
     rw[ha] at h;cases h;exact Mk ha
   ·cases h
  ·cases h
 case appz z bytes x n =>
  simp only[pop] at h
  split at h
  ·rename_i k _
   split at h
   ·cases ha:fJ lo z.length bytes (ev ρ x) k.toNat (dG k.toNat z) H with
    | none=>rw[ha] at h;cases h
    |
     some q =>
     obtain⟨u,H1⟩:=q
     rw[ha] at h;cases h;exact Mk ha
   ·cases h
  ·cases h
 case copy size x y =>
  simp only[pop] at h
  split at h
  ·cases h;exact Ext.refl _ _
  ·rename_i b o d _ s _ _
   split at h
   ·rename_i new _
    cases hw:H.write lo b o new with
    | none=>rw[hw] at h;cases h
    | some H1=>rw[hw] at h;cases h;exact GI hw
   ·cases h
  ·cases h
 case clear z x =>
  simp only[pop] at h
  split at h
  ·cases h;exact Ext.refl _ _
  ·rename_i b o n _ _
   split at h
   ·cases h;exact Ext.refl _ _
   ·cases hw:H.write lo b o (dG n z) with
    | none=>rw[hw] at h;cases h
    | some H1=>rw[hw] at h;cases h;exact GI hw
  ·cases h
def vC (call:iL):Prop:=∀f args lo H v H',call f args lo H=some (v,H')→Ext lo H H'
theorem OC {call:iL} (hc:vC call) {lo:Nat} {i:PI} {ρ:Env} {v:Value} {H':aJ} (h:B1 call lo i ρ H=some (v,H')):Ext lo H H':=by
 unfold B1 at h
 split at h
 ·cases h
 ·cases h;exact Ext.refl _ _
 ·split at h
  ·split at h
   ·rename_i hp
    cases h
    exact ZW hp
   ·rename_i f args _
    have:=hc _ _ _ _ _ _ h
    split at this
    ·exact afU this
    ·exact this
   ·cases h
  ·cases h
theorem Be {call:iL} {lo:Nat} {i:PI} {ρ aQ:Env} {H':aJ} (h:BD call lo i ρ H=some (aQ,H')):∃v,B1 call lo i ρ H=some (v,H')∧aQ=put ρ i.dst v:=by
 unfold BD at h
 split at h
 ·rename_i v H1 hv
  cases h
  exact⟨v,hv,rfl⟩
 ·cases h
theorem KR {call:iL} (hc:vC call) {lo:Nat} {i:PI} {ρ aQ:Env} {H':aJ} (h:BD call lo i ρ H=some (aQ,H')):Ext lo H H':=by
 obtain⟨v,h1,_⟩:=Be h
 exact OC hc h1
theorem PQ {call:iL} (hc:vC call) {lo:Nat}:∀(is:List PI) {ρ aQ:Env} {H H':aJ},jF call lo is ρ H=some (aQ,H')→Ext lo H H'
 | [],ρ,aQ,H,H',h=>by cases h;exact Ext.refl _ _
 |
  i::is,ρ,aQ,H,H',h=>by
  rw[jF] at h
  split at h
  ·rename_i h1
   exact(KR hc h1).trans (PQ hc is h)
  ·cases h
theorem Ld {lo:Nat} {body:Env→aJ→Option (Ex×Env×aJ)} (hb:∀ρ H x aQ H',body ρ H=some (x,aQ,H')→Ext lo H H'):∀(n:Nat) {ρ aQ:Env} {H H':aJ} {x:Ex},BW body n ρ H=some (x,aQ,H')→Ext lo H H'
 | 0,_,_,_,_,_,h=>by cases h
 |
  n+1,ρ,aQ,H,H',x,h=>by
  rw[BW] at h
  split at h
  ·rename_i h1
   exact(hb _ _ _ _ _ h1).trans (Ld hb n h)
  ·exact hb _ _ _ _ _ h
theorem lJ {call:iL} (hc:vC call) {lo n:Nat}:∀(c:aE) {ρ aQ:Env} {H H':aJ} {x:Ex},dV call lo n c ρ H=some (x,aQ,H')→Ext lo H H'
 | .skip,_,_,_,_,_,h=>by cases h;exact Ext.refl _ _
 |
  .cU ops,ρ,aQ,H,H',x,h=>by
  rw[dV] at h
  cases hp:jF call lo ops ρ H with
  | none=>rw[hp] at h;cases h
  |
   some q =>
   obtain⟨AS,H1⟩:=q
   rw[hp] at h;cases h
   exact PQ hc ops hp
 |
  .seq a b,ρ,aQ,H,H',x,h=>by
  rw[dV] at h
  split at h
  ·rename_i h1
   exact(lJ hc a h1).trans (lJ hc b h)
  ·exact lJ hc a h
 |
  .cond c a b,ρ,aQ,H,H',x,h=>by
  rw[dV] at h
  split at h
  ·split at h
   ·exact lJ hc a h
   ·exact lJ hc b h
  ·cases h
 |
  .block id a,ρ,aQ,H,H',x,h=>by
  rw[dV] at h
  split at h
  ·rename_i h1
   split at h<;>(cases h;exact lJ hc a h1)
  ·exact lJ hc a h
 |
  .loop a,ρ,aQ,H,H',x,h=>by
  rw[dV] at h
  exact Ld (fun ρ H x aQ H' h=>lJ hc a h) n h
 | .exit id,_,_,_,_,_,h=>by cases h;exact Ext.refl _ _
 | .ret,_,_,_,_,_,h=>by cases h;exact Ext.refl _ _
theorem G2 (E:Db) (T:Tab):∀n,vC (oN E T n)
 | 0=>fun _ _ _ _ _ _ h=>by cases h
 |
  n+1=>fun f args lo H v H' h=>by
  rw[oN] at h
  split at h
  ·rename_i p _
   cases hp:p args H with
   | none=>rw[hp] at h;cases h
   | some u=>rw[hp] at h;cases h;exact Ext.refl _ _
  ·split at h
   ·cases h
   ·rename_i pf _
    split at h
    ·split at h
     ·rename_i AS H1 h1
      cases hr:tZ pf.res AS H1 with
      | none=>rw[hr] at h;cases h
      | some u=>rw[hr] at h;cases h;exact lJ (G2 E T n) _ h1
     ·rename_i AS H1 h1
      cases hr:tZ pf.res AS H1 with
      | none=>rw[hr] at h;cases h
      | some u=>rw[hr] at h;cases h;exact lJ (G2 E T n) _ h1
     ·cases h
    ·cases h
end
end Go.PM
namespace Go.PM
theorem Gx {α β:Type} {f:α→Option β}:∀ {l:List α} {ys:List β},l.mapM f=some ys→ys.length=l.length∧∀i (h:i<l.length),f l[i]=ys[i]?
 |
  [],ys,h=>by
  simp at h
  subst h
  exact⟨rfl,fun i h=>absurd h (by simp)⟩
 |
  x::l,ys,h=>by
  simp only[List.mapM_cons,Option.pure_def,Option.bind_eq_bind] at h
  cases h1:f x with
  | none=>rw[h1] at h;cases h
  |
   some y =>
   rw[h1] at h
   cases h2:l.mapM f with
   | none=>rw[h2] at h;cases h
   |
    some zs =>
    rw[h2] at h
    cases h
    obtain⟨k1,k2⟩:=Gx h2
    refine⟨by simp[k1],fun i hi => ?_⟩
    cases i with
    | zero=>simpa using h1
    | succ i=>simpa using k2 i (by simpa using hi)
theorem T9 {α β:Type} {f:α→Option β} {l:List α} {ys:List β} (h:l.mapM f=some ys) {i:Nat} {x:α} (hx:l[i]? = some x):∃y,ys[i]? = some y∧f x=some y:=by
 obtain⟨h1,h2⟩:=Gx h
 obtain⟨bI,rfl⟩:=aKA.1 hx
 have OW:i<ys.length:=by omega
 refine⟨ys[i],aKI OW,?_⟩
 rw[h2 i bI,aKI OW]
def Hp (E:Db) (ops:List Oper) (M:List Nat) (i j:Nat) (pi pj:qH) (l:List (Operand×Operand)):Prop :=
 match gZ E pi,gZ E pj with
 | .look,.write | .write,.look=>ahead M i j=true∨∃a b,HQ pi=some a∧HQ pj=some b∧Gv ops i j a=true∧(a,b)∈l
 | .write,.write | .quiet,.write | .write,.quiet=>ahead M i j=true
 | _,_=>True
theorem Hp.mono {E:Db} {ops:List Oper} {M:List Nat} {i j:Nat} {pi pj:qH} {l l':List (Operand×Operand)} (h:Hp E ops M i j pi pj l) (hl:∀x∈l,x∈l'):Hp E ops M i j pi pj l':=by
 unfold Hp at h ⊢
 split at h
 all_goals first
  | exact h
  | exact h.imp id fun⟨a,b,h1,h2,h3,h4⟩=>⟨a,b,h1,h2,h3,hl _ h4⟩
theorem Qa {E:Db} {ops:List Oper} {ps:List qH} {M:List Nat} {j:Nat} {pj:qH} {l:List (Operand×Operand)} (h:conflicts E ops ps M j pj=some l) :
  ∀i,i<j→∀pi,ps[i]? = some pi→Hp E ops M i j pi pj l:=by
 have key:∀(is:List Nat) (l:List (Operand×Operand)),(is.foldr (fun i acc=>match acc,ps[i]? with
  |
   some l,some pi =>
   match gZ E pi,gZ E pj with
   |
    .look,.write | .write,.look =>
    if ahead M i j then some l
    else match HQ pi,HQ pj with
     | some a,some b=>if Gv ops i j a then some ((a,b)::l) else none
     | _,_=>none
   | .write,.write | .quiet,.write | .write,.quiet=>if ahead M i j then some l else none
   | _,_=>some l
  | _,_=>none) (some []))=some l→∀i∈is,∀pi,ps[i]? = some pi→Hp E ops M i j pi pj l:=by
  intro is
  induction is with
  | nil=>intro l _ i hi;cases hi
  |
   cons i0 is ih =>
   intro l h i hi pi hpi
   rw[List.foldr_cons] at h
   revert h
   generalize aEk:is.foldr _ (some [])=acc
   intro h
   cases acc with
   | none=>cases h
   |
    some l0 =>
    have ih':=ih l0 aEk
    cases Zl:ps[i0]? with
    | none=>rw[Zl] at h;cases h
    |
     some p0 =>
     rw[Zl] at h
     simp only at h
     have step:(∀x∈l0,x∈l)∧Hp E ops M i0 j p0 pj l:=by
      unfold Hp
      split at h
      ·rename_i c1 c2
       try rw[c1,c2]
       split at h
       ·rename_i ha;cases h;exact⟨fun x hx=>hx,.inl ha⟩
       ·split at h
        ·rename_i a b ta tb
         split at h
         ·rename_i hu;cases h;exact⟨fun x hx=>aLa _ hx,.inr ⟨a,b,ta,tb,hu,aLb⟩⟩
         ·cases h
        ·cases h
      ·rename_i c1 c2
       try rw[c1,c2]
       split at h
       ·rename_i ha;cases h;exact⟨fun x hx=>hx,.inl ha⟩
       ·split at h
        ·rename_i a b ta tb
         split at h
         ·rename_i hu;cases h;exact⟨fun x hx=>aLa _ hx,.inr ⟨a,b,ta,tb,hu,aLb⟩⟩
         ·cases h
        ·cases h
      ·rename_i c1 c2
       try rw[c1,c2]
       split at h
       ·rename_i ha;cases h;exact⟨fun x hx=>hx,ha⟩
       ·cases h
      ·rename_i c1 c2
       try rw[c1,c2]
       split at h
       ·rename_i ha;cases h;exact⟨fun x hx=>hx,ha⟩
       ·cases h
      ·rename_i c1 c2
       try rw[c1,c2]
       split at h
       ·rename_i ha;cases h;exact⟨fun x hx=>hx,ha⟩
       ·cases h
      ·cases h
       refine⟨fun x hx=>hx,?_⟩
       first | trivial | (split<;>first | trivial | (simp_all;done)) | (simp_all;done)
     rcases List.mem_cons.1 hi with rfl | hi
     ·rw[Zl] at hpi
      cases hpi
      exact step.2
     ·exact(ih' i hi pi hpi).mono step.1
 exact fun i hi pi hpi=>key _ l h i (aLc.2 hi) pi hpi
structure alN (P:Program) (E:Db) (n:Nat) (ops:List Oper) (i:Nat) (o:Oper) (p:qH) (pi:PI):Prop where
 afK:tJ P o.op=some p
 dst:pi.dst=o.dst
 op:pi.op=p
 guard:guardOf ops i o=some pi.g
 bound:∀d,o.dst=some d→d<n
structure SL (E:Db) (ops:List Oper) (ps:List qH) (M:List Nat) (i:Nat) (o:Oper) (p:qH) (pi:PI):Prop where
 back:∀e∈o.after.toList,Region.binds .any e=true→e.on<i
 guard:∀j w,o.guard=some (j,w)→(M.getD i 0).testBit j=true
 Sd:∀t∈o.dst.toList++AF ops o,∀k ok,ops[k]? = some ok→ok.dst=some t→k=i∨ahead M i k=true
 mask:M.getD i 0=AO o M
 quiet:pi.quiet=(match gZ E p with | .quiet=>true | _=>false)
 aA9:∀k,k<i→∀pk,ps[k]? = some pk→Hp E ops M k i pk p pi.cf
theorem VE {P:Program} {E:Db} {n:Nat} {ops:List Oper} {ps:List qH} {M:List Nat} {draw:Bool} {i:Nat} {pi:PI} (h:Ys E ops ps M n draw i=some pi) {o:Oper} {p:qH} (ho:ops[i]? = some o) (hp:ps[i]? = some p)
  (Y6:tJ P o.op=some p):alN P E n ops i o p pi∧(draw=true→SL E ops ps M i o p pi)∧(draw=false→pi.quiet=false∧pi.cf=[]):=by
 unfold Ys at h
 rw[ho,hp] at h
 simp only at h
 split at h
 case isFalse=>cases h
 rename_i hb
 have hbound:∀d,o.dst=some d→d<n:=by
  intro d hd
  rw[hd] at hb
  simpa[avF] using hb
 split at h
 ·cases h
 ·rename_i g hg
  cases draw with
  |
   false =>
   simp only[aLd,if_false] at h
   cases h
   exact⟨⟨Y6,rfl,rfl,hg,hbound⟩,(fun h=>by cases h),fun _=>⟨rfl,rfl⟩⟩
  |
   true =>
   simp only[if_true] at h
   split at h
   case isFalse=>cases h
   rename_i hc
   simp only[aK9,beq_iff_eq] at hc
   obtain⟨⟨⟨c1,c2⟩,c3⟩,c4⟩:=hc
   cases T5:conflicts E ops ps M i p with
   | none=>rw[T5] at h;cases h
   |
    some cf =>
    rw[T5] at h
    cases h
    refine⟨⟨Y6,rfl,rfl,hg,hbound⟩,fun _=>⟨fun e he hbd => ?_,fun j w hj => ?_,fun t ht k ok hk hkd => ?_,c4,rfl,Qa T5⟩,(fun h=>by cases h)⟩
    ·have:=aKP.1 c1 e he
     simpa[hbd] using this
    ·rw[hj] at c2
     exact c2
    ·have h1:=aKP.1 c3 t ht
     have hk':k<ops.length:=(aKA.1 hk).1
     have h2:=aKP.1 h1 k (aLc.2 hk')
     rw[hk] at h2
     simp only[aLe,bne_iff_ne,ne_eq,beq_iff_eq] at h2
     rcases h2 with(h2 | h2) | h2
     ·exact absurd hkd h2
     ·exact .inl h2
     ·exact .inr h2
structure auU (P:Program) (E:Db) (n:Nat) (ops:List Oper) (draw:Bool) (xE:List PI) (ps:List qH) (M:List Nat):Prop where
 Hm:ps.length=ops.length
 aDs:xE.length=ops.length
 each:∀i o,ops[i]? = some o→∃p pi,ps[i]? = some p∧xE[i]? = some pi∧alN P E n ops i o p pi∧(draw=true→SL E ops ps M i o p pi)∧(draw=false→pi.quiet=false∧pi.cf=[])
theorem MV {P:Program} {E:Db} {n:Nat} {ops:Array Oper} {draw:Bool} {xE:List PI} (h:Bj P E n ops draw=some xE):∃ps M,auU P E n ops.toList draw xE ps M:=by
 unfold Bj at h
 split at h
 ·rename_i ps hps
  simp only at h
  generalize (if draw=true then SU ops.toList [] else [])=M at h
  obtain⟨h1,h2⟩:=Gx hps
  obtain⟨h3,h4⟩:=Gx h
  refine⟨ps,M,h1,by simpa using h3,fun i o ho => ?_⟩
  have bI:=(aKA.1 ho).1
  obtain⟨p,hp,Y6⟩:=T9 hps ho
  have hr:(aKx ops.size)[i]? = some i:=by rw[List.getElem?_range];simpa using bI
  obtain⟨pi,hpi,hpp⟩:=T9 h hr
  exact⟨p,pi,hp,hpi,VE hpp ho hp Y6⟩
 ·cases h
theorem Qm {o:Oper} {M:List Nat} {i:Nat} (h:(AO o M).testBit i=true):∃e∈o.after.toList,Region.binds .any e=true∧(e.on=i∨(M.getD e.on 0).testBit i=true):=by
 unfold AO at h
 revert h
 generalize o.after.toList=es
 induction es with
 | nil=>intro h;simp at h
 |
  cons e es ih =>
  intro h
  rw[List.foldr_cons] at h
  split at h
  ·rename_i hb
   rw[Nat.testBit_or,Nat.testBit_or,aLe,aLe] at h
   rcases h with(h | h) | h
   ·obtain⟨e',h1,h2⟩:=ih h
    exact⟨e',aLa _ h1,h2⟩
   ·refine⟨e,aLb,hb,.inl ?_⟩
    rw[Nat.testBit_two_pow] at h
    simpa using h
   ·exact⟨e,aLb,hb,.inr h⟩
  ·obtain⟨e',h1,h2⟩:=ih h
   exact⟨e',aLa _ h1,h2⟩
theorem YV {ops:List Oper} {M:List Nat} {S:Nat→Prop} (hb:∀i o,ops[i]? = some o→∀e∈o.after.toList,Region.binds .any e=true→e.on<i) (hm:∀i o,ops[i]? = some o→M.getD i 0=AO o M)
  (hS:∀i o,ops[i]? = some o→S i→∀e∈o.after.toList,Region.binds .any e=true→S e.on):∀j o,ops[j]? = some o→(∀e∈o.after.toList,Region.binds .any e=true→S e.on)→∀i,(M.getD j 0).testBit i=true→S i:=by
 intro j
 induction j using Nat.strongRecOn with
 |
  _ j ih =>
  intro o ho hj i hi
  rw[hm j o ho] at hi
  obtain⟨e,he,hbd,h1⟩:=Qm hi
  rcases h1 with rfl | h1
  ·exact hj e he hbd
  ·have bI:=hb j o ho e he hbd
   have hjl:=(aKA.1 ho).1
   have hel:e.on<ops.length:=by omega
   exact ih e.on bI ops[e.on] (aKI hel) (hS e.on _ (aKI hel) (hj e he hbd)) i h1
end Go.PM
namespace Go.PM
def AU (P:Program) (L0:Nat) (call:iL):Prop :=
 ∀f args lo H v H',call f args lo H=some (v,H')→∀m w iX,Rel m L0 H w→L0≤lo→L0≤H.length→RL m args iX→(∀b,H.length≤b→b<H'.length→m b=none) →
  Qd P f∧Calls P f iX.toArray w fun e w'=>∃m' rv,e = .returned rv∧RV m' v rv∧Rel m' L0 H' w'∧Trans lo m H w m' H' w'
section
variable {P:Program} {m:dO} {L0:Nat} {H:aJ} {w:World}
theorem xT {call:iL} {lo:Nat} {i:PI} {ρ:Env} {v:Value} {H':aJ} (h:B1 call lo i ρ H=some (v,H')) :
  (B8 i.g ρ=some false∧v=undef∧H'=H) ∨
  (B8 i.g ρ=some true∧i.cf.all (C7 ρ)=true∧(pop lo i.op ρ H=some (.val v H') ∨
   ∃f args,pop lo i.op ρ H=some (.call f args)∧call f args (if i.quiet then H.length else lo) H=some (v,H'))):=by
 unfold B1 at h
 split at h
 ·cases h
 ·rename_i hw;cases h;exact .inl ⟨hw,rfl,rfl⟩
 ·rename_i hw
  split at h
  ·rename_i T5
   refine .inr ⟨hw,T5,?_⟩
   split at h
   ·rename_i hp;cases h;exact .inl hp
   ·rename_i f args hp;exact .inr ⟨f,args,hp,h⟩
   ·cases h
  ·cases h
theorem abN {t:Array Value} {d:Nat} {b:Bool} (h:t.getD d undef = .bool b):t[d]? = some (.bool b):=by
 rcases aKE d t.size with hd | hd
 ·simp[hd] at h ⊢
  exact h
 ·simp[aLf hd,undef] at h
theorem IY {ops:Array Oper} {i:Nat} {o:Oper} {g:Option (Nat×Bool)} {ρ:Env} {a:Act} {t:Bool} (hg:guardOf ops.toList i o=some g) (hw:B8 g ρ=some t)
  (hr:∀d∈AF ops.toList o,RV m (ρ d) (a.tmps.getD d undef)):Region.wanted o (yielded ops a.tmps)=t:=by
 unfold guardOf at hg
 unfold Region.wanted
 cases hgd:o.guard with
 |
  none =>
  rw[hgd] at hg
  cases hg
  cases hw
  rfl
 |
  some jw =>
  obtain⟨j,want⟩:=jw
  rw[hgd] at hg
  simp only at hg
  split at hg
  ·split at hg
   ·rename_i d hd
    cases hg
    have Pe:d∈AF ops.toList o:=by
     unfold AF
     rw[hgd]
     simp only[List.mem_append]
     right
     rw[hd]
     simp
    have HA:=hr d Pe
    simp only[B8] at hw
    split at hw
    ·rename_i b hb
     cases hw
     rw[hb] at HA
     generalize hx:a.tmps.getD d undef=x at HA
     cases HA
     have hy:yielded ops a.tmps j=some b:=by
      unfold yielded
      have hd':(ops[j]?).bind (·.dst)=some d:=by simpa using hd
      rw[hd',Option.bind_some,abN hx]
     simp only[hy]
     cases b<;>cases want<;>rfl
    ·rename_i vs hb
     cases hw
     rw[hb] at HA
     generalize hx:a.tmps.getD d undef=x at HA
     obtain⟨ws,rfl⟩:∃ws,x = .tuple ws:=by cases HA;exact⟨_,rfl⟩
     have hd':(ops[j]?).bind (·.dst)=some d:=by simpa using hd
     have hy:yielded ops a.tmps j=none:=by
      unfold yielded
      rw[hd',Option.bind_some]
      rcases aKE d a.tmps.size with bI | bI
      ·have:a.tmps[d]? = some (.tuple ws):=by rw[←hx];simp[bI]
       rw[this]
      ·rw[aLf bI]
     simp only[hy]
     rfl
    ·cases hw
   ·cases hg
  ·cases hg
theorem akX {E:Db} {p:qH} {lo gF:Nat} {ρ:Env} (h:gZ E p = .quiet):pop lo p ρ H=pop gF p ρ H:=by
 cases p<;>first | rfl | (simp[gZ] at h;done)
theorem HI {ops:List Oper} {o:Oper} {t:Nat} (h:Operand.tmp t∈o.op.operands):t∈AF ops o:=by
 unfold AF tmpsOf
 rw[List.mem_append]
 left
 rw[List.mem_filterMap]
 exact⟨.tmp t,by simpa using h,rfl⟩
theorem Oi {op:Op} {p:qH} (h:tJ P op=some p):∀x∈op.operands,SZ x=true:=by
 intro x hx
 unfold tJ at h
 split at h
 ·rename_i jP
  obtain⟨i,hi,rfl⟩:=Array.getElem_of_mem hx
  exact Array.all_eq_true.1 jP i hi
 ·cases h
theorem S4 {E:Db} {n lo k:Nat} {ops:Array Oper} {o:Oper} {p:qH} {pi:PI} {call:iL} {ρ:Env} {v:Value} {H':aJ} {a:Act} {K:Act→World→Prop} {Q:Exit→Act→World→Prop} (ho:ops[k]? = some o) (GX:alN P E n ops.toList k o p pi)
  (hq:pi.quiet=true→gZ E p = .quiet) (hv:B1 call lo pi ρ H=some (v,H')) (hr:∀t∈AF ops.toList o,RV m (ρ t) (a.tmps.getD t undef)) (hR:Rel m L0 H w) (dS:L0≤lo) (hlen:L0≤H.length)
  (hf:∀b,H.length≤b→b<H'.length→m b=none) (qV:AU P L0 call)
  (hK:∀m' rv w',RV m' v rv→Rel m' L0 H' w'→Trans (if pi.quiet then H.length else lo) m H w m' H' w'→K (a.put o.dst rv) w'):wpOp P ops Q k K a w:=by
 have hro:∀x∈o.op.operands,RV m (ev ρ x) (a.eval x):=fun x hx=>XA (Oi GX.afK x hx) fun t ht=>hr t (HI (ht▸hx))
 unfold wpOp
 rw[ho]
 simp only
 rcases xT hv with⟨hw,rfl,rfl⟩ | ⟨hw,_,hp | ⟨f,args,hp,hc⟩⟩
 ·rw[IY GX.guard hw hr]
  simp only[aLd,if_false]
  exact hK m undef w (RV.undef m) hR (Trans.refl _ m _ w)
 ·rw[IY GX.guard hw hr]
  simp only[if_true]
  left
  rw[GX.op] at hp
  have hs:cT P (execOp a.eval o) L0 (if pi.quiet then H.length else lo) m H w v H':=by
   split
   ·rename_i hqq
    rw[akX (gF:=H.length) (hq hqq)] at hp
    exact Zf GX.afK hp hro hR hlen hf
   ·exact Zf GX.afK hp hro hR dS hf
  obtain⟨rv,w',m',sN,h1,h2,h3⟩:=hs
  unfold Oper.wp
  rcases sN with sN | ⟨sN,rfl⟩
  ·rw[sN]
   exact hK m' rv w' h1 h2 h3
  ·rw[sN]
   exact hK m' undef w' h1 h2 h3
 ·rw[IY GX.guard hw hr]
  simp only[if_true]
  left
  rw[GX.op] at hp
  have aBN:L0≤(if pi.quiet then H.length else lo):=by split<;>assumption
  obtain⟨iX,Xc,aCi⟩:=abU GX.afK hp hro
  have sN:=aCi (qV f args _ H v H' hc m w iX hR aBN hlen Xc hf).1
  unfold Oper.wp
  rw[sN w]
  show Calls P f iX.toArray w _
  refine(qV f args _ H v H' hc m w iX hR aBN hlen Xc hf).2.mono ?_
  rintro e w' ⟨m',rv,rfl,h1,h2,h3⟩
  exact hK m' rv w' h1 h2 h3
end
end Go.PM
namespace Go.PM
theorem JQ {call:iL} {lo:Nat}:∀ {xE:List PI} {ρ aQ:Env} {H H':aJ},jF call lo xE ρ H=some (aQ,H') →
  ∃st:Nat→Env×aJ,st 0=(ρ,H)∧st xE.length=(aQ,H')∧∀i pi,xE[i]? = some pi→BD call lo pi (st i).1 (st i).2=some (st (i+1))
 |
  [],ρ,aQ,H,H',h=>by
  cases h
  exact⟨fun _=>(ρ,H),rfl,rfl,fun i pi hi=>by simp at hi⟩
 |
  x::xE,ρ,aQ,H,H',h=>by
  rw[jF] at h
  split at h
  ·rename_i AS H1 h1
   obtain⟨st,h2,h3,h4⟩:=JQ h
   refine⟨fun i=>match i with | 0=>(ρ,H) | i+1=>st i,rfl,h3,fun i pi hi => ?_⟩
   cases i with
   |
    zero =>
    simp at hi
    subst hi
    show BD call lo x ρ H=some (st 0)
    rw[h1,h2]
   | succ i=>exact h4 i pi (by simpa using hi)
  ·cases h
theorem kP {H1 H2:aJ} {b:Nat} (h:H2[b]? = H1[b]?):Live H2 b↔Live H1 b:=by
 unfold Live
 rw[h]
theorem Rel.restrict {m:dO} {L0:Nat} {H1 H2:aJ} {w:World} (h:Rel m L0 H2 w) (hs:∀b,b<H1.length→H2[b]? = H1[b]?):Rel m L0 H1 w:=by
 refine⟨h.valid,fun b l cs e p hm hb=>h.row b l cs e p hm ?_,fun b1 b2 l1 l2 hb h1 h2 CU JN=>h.inj b1 b2 l1 l2 hb h1 h2 ((kP (hs b1 CU.lt)).2 CU) ((kP (hs b2 JN.lt)).2 JN),fun x hx=>⟨(h.FX x hx).1,fun b l hb hm hl=>(h.FX x hx).2 b l hb hm ((kP (hs b hl.lt)).2 hl)⟩⟩
 rw[hs b (aKA.1 hb).1]
 exact hb
theorem Rel.grow {m:dO} {L0:Nat} {H1 H2:aJ} {w:World} (h:Rel m L0 H1 w) (hs:∀b,b<H1.length→H2[b]? = H1[b]?) (hd:∀b,H1.length≤b→b<H2.length→m b=none):Rel m L0 H2 w:=by
 have lt:∀b l,m b=some l→b<H2.length→b<H1.length:=fun b l hm hb=>by
  rcases aKE b H1.length with h | h
  ·exact h
  ·rw[hd b h hb] at hm;cases hm
 refine⟨h.valid,fun b l cs e p hm hb=>h.row b l cs e p hm ?_,fun b1 b2 l1 l2 hb h1 h2 CU JN=>h.inj b1 b2 l1 l2 hb h1 h2 ((kP (hs b1 (lt b1 l1 h1 CU.lt))).1 CU) ((kP (hs b2 (lt b2 l2 h2 JN.lt))).1 JN),fun x hx=>⟨(h.FX x hx).1,fun b l hb hm hl=>(h.FX x hx).2 b l hb hm ((kP (hs b (lt b l hm hl.lt))).1 hl)⟩⟩
 rw[←hs b (lt b l hm (aKA.1 hb).1)]
 exact hb
structure Text (P:Program) (E:Db) (n:Nat) (ops:Array Oper) (xE:List PI) (ps:List qH) (M:List Nat) (call:iL) (lo:Nat) (st:Nat→Env×aJ):Prop where
 ok:auU P E n ops.toList true xE ps M
 ext:vC call
 step:∀i pi,xE[i]? = some pi→BD call lo pi (st i).1 (st i).2=some (st (i+1))
section
variable {P:Program} {E:Db} {n:Nat} {ops:Array Oper} {xE:List PI} {ps:List qH} {M:List Nat} {call:iL} {lo:Nat} {st:Nat→Env×aJ}
theorem Text.at (T:Text P E n ops xE ps M call lo st) {i:Nat} (hi:i<ops.size):∃o p pi,ops[i]? = some o∧ps[i]? = some p∧xE[i]? = some pi∧alN P E n ops.toList i o p pi∧SL E ops.toList ps M i o p pi ∧
  ∃v,B1 call lo pi (st i).1 (st i).2=some (v,(st (i+1)).2)∧(st (i+1)).1=put (st i).1 o.dst v:=by
 have ho:ops.toList[i]? = some ops[i]:=by simp[hi]
 obtain⟨p,pi,h1,h2,h3,h4,_⟩:=T.ok.each i _ ho
 obtain⟨v,h5,h6⟩:=Be (T.step i pi h2)
 exact⟨ops[i],p,pi,by simp[hi],h1,h2,h3,h4 rfl,v,h5,by rw[h6,h3.dst]⟩
theorem Text.aBi (T:Text P E n ops xE ps M call lo st) {i:Nat} (hi:i<ops.size):(st i).2.length≤(st (i+1)).2.length:=by
 obtain⟨o,p,pi,_,_,_,_,_,v,hv,_⟩:=T.at hi
 exact(OC T.ext hv).len
theorem Text.len (T:Text P E n ops xE ps M call lo st) {i:Nat}:∀ {j:Nat},i≤j→j≤ops.size→(st i).2.length≤(st j).2.length:=by
 intro j Qn
 induction j with
 | zero =>
    intro _;have:i=0:=by omega
    subst this;exact aKB _
 |
  succ j ih =>
  intro hj
  rcases aKE i (j+1) with h | h
  ·exact aKC (ih (by omega) (by omega)) (T.aBi (by omega))
  ·have:i=j+1:=by omega
   subst this;exact aKB _
theorem Text.aBq (T:Text P E n ops xE ps M call lo st) {i:Nat} {p:qH} (hi:i<ops.size) (hp:ps[i]? = some p) (hw:gZ E p ≠ .write):∀b,b<(st i).2.length→(st (i+1)).2[b]? = (st i).2[b]? := by
 intro b hb
 obtain⟨o,p',pi,_,BY,_,GX,hdr,v,hv,_⟩:=T.at hi
 rw[hp] at BY
 cases BY
 rcases xT hv with⟨_,_,h⟩ | ⟨_,_,h | ⟨f,args,h1,h2⟩⟩
 ·rw[h]
 ·rw[GX.op] at h
  by_cases hq:gZ E p = .quiet
  ·rw[akX (gF:=(st i).2.length) hq] at h
   exact(ZW h).low b hb hb
  ·
   have:(st (i+1)).2=(st i).2:=by
    cases p<;>first
     | (exact absurd rfl hw)
     | (exact absurd rfl hq)
     | (rw[BB rfl] at h;exact(Ge h).2)
     | skip
    case load agg size q =>
     simp only[pop] at h
     cases hl:qQ agg size (ev (st i).1 q) (st i).2 with
     | none=>rw[hl] at h;cases h
     | some u=>rw[hl] at h;injection h with h;injection h with _ h;exact h.symm
    case b2s x =>
     simp only[pop] at h
     split at h
     ·injection h with h;injection h with _ h;exact h.symm
     ·split at h
      ·rename_i cs _
       cases hb:yS cs with
       | none=>rw[hb] at h;cases h
       | some bs=>rw[hb] at h;injection h with h;injection h with _ h;exact h.symm
      ·cases h
     ·cases h
    case sub size x l hh mx =>
     simp only[pop] at h
     cases mx with
     | some mx=>exact absurd rfl hq
     |
      none =>
      cases hs:E9 size (ev (st i).1 x) (l.map (ev (st i).1)) (hh.map (ev (st i).1)) ((none:Option Operand).map (ev (st i).1)) (st i).2 with
      | none=>rw[hs] at h;cases h
      |
       some q =>
       obtain⟨u,H1⟩:=q
       rw[hs] at h
       injection h with h;injection h with _ h
       subst h
       unfold E9 at hs
       simp only[Option.map_none,aLg,aLd,false_and,if_false] at hs
       repeat' (split at hs)
       all_goals first
        | (cases hs;done)
        | (injection hs with hs;injection hs with _ hs;exact hs.symm)
    case call f args=>cases h
   rw[this]
 ·rw[GX.op] at h1
  have hq:pi.quiet=true:=by
   rw[hdr.quiet]
   rcases wY h1 with⟨g,as,rfl⟩ | ⟨g,as,rfl⟩
   ·simp only[gZ] at hw ⊢
    split at hw
    ·exact absurd rfl hw
    ·rename_i h;rw[if_neg h]
   ·rfl
  rw[hq] at h2
  exact(T.ext _ _ _ _ _ _ h2).low b hb hb
end
end Go.PM
namespace Go.PM
theorem GH {H H':aJ} {lo b o:Nat} {new:List Value} (h:H.write lo b o new=some H') {b':Nat} (hb:b'≠b):H'[b']? = H[b']? := by
 obtain⟨cs,e,p,h1,h2,h3,h4,rfl⟩:=Ec h
 exact aK0 (Ne.symm hb)
theorem Mv {H H':aJ} {lo size bytes add:Nat} {x v:Value} {new:List Value} (h:fJ lo size bytes x add new H=some (v,H')) {b':Nat} (hb:kV x≠some b') (bI:b'<H.length):H'[b']? = H[b']? := by
 unfold fJ at h
 split at h
 case isFalse=>cases h
 split at h
 ·split at h
  ·split at h
   ·cases h;rfl
   ·split at h
    ·cases h;exact aKS bI
    ·cases h
  ·cases h
 ·rename_i b o n c
  have fW:b'≠b:=fun e=>hb (by rw[e];rfl)
  split at h
  ·split at h
   ·split at h
    ·split at h
     ·cases h;rfl
     ·cases hw:aJ.write H lo b (o+n*size) new with
      | none=>rw[hw] at h;cases h
      | some H1=>rw[hw] at h;cases h;exact GH hw fW
    ·split at h
     ·split at h
      ·split at h
       ·cases h
        rw[aKS (by simpa using bI)]
        exact aK0 (Ne.symm fW)
       ·cases h
      ·cases h;exact aKS bI
     ·cases h
   ·cases h
  ·cases h
 ·cases h
theorem asO {E:Db} {lo:Nat} {p:qH} {ρ:Env} {H H':aJ} {v:Value} {x:Operand} (h:pop lo p ρ H=some (.val v H')) (hw:gZ E p = .write) (ht:HQ p=some x) {b':Nat} (hb:kV (ev ρ x)≠some b') (bI:b'<H.length):H'[b']? = H[b']? := by
 cases p<;>first | (cases ht;done) | (cases hw;done) | skip
 case sub size y l hh mx=>cases mx<;>cases hw
 case store size q y =>
  cases ht
  simp only[pop] at h
  split at h
  ·rename_i b o he
   rw[he] at hb
   have fW:b'≠b:=fun e=>hb (by rw[e];rfl)
   split at h
   ·cases hw:H.write lo b o (aX (ev ρ y)) with
    | none=>rw[hw] at h;cases h
    | some H1=>rw[hw] at h;cases h;exact GH hw fW
   ·cases h
  ·cases h
 case app size bytes y z =>
  cases ht
  simp only[pop] at h
  split at h
  ·rename_i n _
   split at h
   ·rename_i new _
    cases ha:fJ lo size bytes (ev ρ x) n new H with
    | none=>rw[ha] at h;cases h
    |
     some q =>
     obtain⟨u,H1⟩:=q
     rw[ha] at h;cases h;exact Mv ha hb bI
   ·cases h
  ·cases h
 case appz z bytes y n =>
  cases ht
  simp only[pop] at h
  split at h
  ·rename_i k _
   split at h
   ·cases ha:fJ lo z.length bytes (ev ρ x) k.toNat (dG k.toNat z) H with
    | none=>rw[ha] at h;cases h
    |
     some q =>
     obtain⟨u,H1⟩:=q
     rw[ha] at h;cases h;exact Mv ha hb bI
   ·cases h
  ·cases h
 case copy size y z =>
  cases ht
  simp only[pop] at h
  split at h
  ·cases h;rfl
  ·rename_i b o d _ s he _
   rw[he] at hb
   have fW:b'≠b:=fun e=>hb (by rw[e];rfl)
   split at h
   ·rename_i new _
    cases hw:H.write lo b o new with
    | none=>rw[hw] at h;cases h
    | some H1=>rw[hw] at h;cases h;exact GH hw fW
   ·cases h
  ·cases h
 case clear z y =>
  cases ht
  simp only[pop] at h
  split at h
  ·cases h;rfl
  ·rename_i b o n _ he
   rw[he] at hb
   have fW:b'≠b:=fun e=>hb (by rw[e];rfl)
   split at h
   ·cases h;rfl
   ·cases hw:H.write lo b o (dG n z) with
    | none=>rw[hw] at h;cases h
    | some H1=>rw[hw] at h;cases h;exact GH hw fW
  ·cases h
theorem TU {H:aJ} {b o n:Nat} {cs:List Value} (h:H.read b o n=some cs):b<H.length:=by
 unfold aJ.read at h
 split at h
 ·rename_i hb;exact(aKA.1 hb).1
 ·cases h
theorem Ip {H H2:aJ} {b o n:Nat} (h:H2[b]? = H[b]?):H2.read b o n=H.read b o n:=by
 unfold aJ.read
 rw[h]
theorem Xt {agg:Bool} {size:Nat} {x v:Value} {H H2:aJ} (h:qQ agg size x H=some v) (hb:∀b,kV x=some b→b<H.length→H2[b]? = H[b]?):qQ agg size x H2=some v:=by
 unfold qQ at h ⊢
 split at h
 ·rename_i b o
  have bI:b<H.length:=by
   split at h
   ·cases hr:H.read b o size with
    | none=>rw[hr] at h;cases h
    | some cs=>exact TU hr
   ·cases hr:H.read b o 1 with
    | none=>rw[hr] at h;cases h
    | some cs=>exact TU hr
  have e:=hb b rfl bI
  simp only[Ip e]
  exact h
 ·cases h
theorem T8 {E:Db} {lo:Nat} {p:qH} {ρ:Env} {H H' H2:aJ} {v:Value} (h:pop lo p ρ H=some (.val v H')) (hc:gZ E p = .look) (hb:∀x,HQ p=some x→∀b,kV (ev ρ x)=some b→b<H.length→H2[b]? = H[b]?) :
  H'=H∧pop lo p ρ H2=some (.val v H2):=by
 cases p<;>first | (cases hc;done) | skip
 case call f args=>simp only[gZ] at hc;split at hc<;>cases hc
 case load agg size q =>
  simp only[pop] at h ⊢
  cases hl:qQ agg size (ev ρ q) H with
  | none=>rw[hl] at h;cases h
  |
   some u =>
   rw[hl] at h
   cases h
   refine⟨rfl,?_⟩
   rw[Xt hl (hb q rfl)]
   rfl
 case b2s x =>
  simp only[pop] at h ⊢
  split at h
  ·cases h;exact⟨rfl,rfl⟩
  ·rename_i b o n _ he
   split at h
   ·rename_i cs hr
    cases hbs:yS cs with
    | none=>rw[hbs] at h;cases h
    |
     some bs =>
     rw[hbs] at h
     cases h
     refine⟨rfl,?_⟩
     have e:=hb x rfl b (by rw[he];rfl) (TU hr)
     rw[Ip e,hr]
     simp only[hbs]
     rfl
   ·cases h
  ·cases h
 case sub size x l hh mx =>
  cases mx with
  | some mx=>cases hc
  |
   none =>
   simp only[pop] at h ⊢
   cases hs:E9 size (ev ρ x) (l.map (ev ρ)) (hh.map (ev ρ)) ((none:Option Operand).map (ev ρ)) H with
   | none=>rw[hs] at h;cases h
   |
    some q =>
    obtain⟨u,H1⟩:=q
    rw[hs] at h
    cases h
    have xJ:=hb x rfl
    generalize ev ρ x=xv at hs xJ
    have key:H1=H∧E9 size xv (l.map (ev ρ)) (hh.map (ev ρ)) ((none:Option Operand).map (ev ρ)) H2=some (u,H2):=by
     unfold E9 at hs ⊢
     simp only[Option.map_none,aLg,aLd,false_and,if_false] at hs ⊢
     split at hs
     ·repeat' (split at hs)
      all_goals first | (cases hs;done) | skip
      cases hs
      simp_all
     ·rename_i b o n c
      split at hs
      ·rename_i cs e p lT
       have e1:=xJ b rfl (aKA.1 lT).1
       rw[e1,lT]
       simp only
       repeat' (split at hs)
       all_goals first | (cases hs;done) | skip
       cases hs
       simp_all
      ·cases hs
     ·cases hs
    rw[key.2]
    exact⟨key.1,rfl⟩
section
variable {P:Program} {E:Db} {n:Nat} {ops:Array Oper} {xE:List PI} {ps:List qH} {M:List Nat} {call:iL} {lo:Nat} {st:Nat→Env×aJ}
theorem Text.akD (T:Text P E n ops xE ps M call lo st) {i:Nat}:∀ {j:Nat},i≤j→j≤ops.size→Ext lo (st i).2 (st j).2:=by
 intro j Qn
 induction j with
 | zero =>
    intro _;have:i=0:=by omega
    subst this;exact Ext.refl _ _
 |
  succ j ih =>
  intro hj
  rcases aKE i (j+1) with h | h
  ·obtain⟨o,p,pi,_,_,_,_,_,v,hv,_⟩:=T.at (i:=j) (by omega)
   exact(ih (by omega) (by omega)).trans (OC T.ext hv)
  ·have:i=j+1:=by omega
   subst this;exact Ext.refl _ _
theorem Text.akN (T:Text P E n ops xE ps M call lo st) {i:Nat}:∀ {j:Nat},i≤j→j≤ops.size→∀b,b<(st i).2.length →
  (∀k,i≤k→k<j→∀p pi,ps[k]? = some p→xE[k]? = some pi→gZ E p = .write→B8 pi.g (st k).1=some true→∃x,HQ p=some x∧kV (ev (st k).1 x)≠some b) →
  (st j).2[b]? = (st i).2[b]? := by
 intro j Qn
 induction j with
 | zero =>
      intro _ b _ _;have:i=0:=by omega
      subst this;rfl
 |
  succ j ih =>
  intro hj b hb hk
  rcases aKE i (j+1) with h | h
  ·have bI:b<(st j).2.length:=aKD hb (T.len (by omega) (by omega))
   have h1:(st (j+1)).2[b]? = (st j).2[b]? := by
    obtain⟨o,p,pi,_,hp,hpi,GX,_,v,hv,_⟩:=T.at (i:=j) (by omega)
    by_cases hw:gZ E p = .write
    ·rcases xT hv with⟨_,_,h⟩ | ⟨hwt,_,h | ⟨f,args,h1,h2⟩⟩
     ·rw[h]
     ·rw[GX.op] at h
      obtain⟨x,hx,fW⟩:=hk j (by omega) (by omega) p pi hp hpi hw hwt
      exact asO h hw hx fW bI
     ·rw[GX.op] at h1
      obtain⟨x,hx,fW⟩:=hk j (by omega) (by omega) p pi hp hpi hw hwt
      rcases wY h1 with⟨g,as,rfl⟩ | ⟨g,as,rfl⟩<;>cases hx
    ·exact T.aBq (by omega) hp hw b bI
   rw[h1]
   exact ih (by omega) (by omega) b hb fun k hk1 ZH=>hk k hk1 (by omega)
  ·have:i=j+1:=by omega
   subst this;rfl
theorem Text.same (T:Text P E n ops xE ps M call lo st) {i j:Nat} (Qn:i≤j) (hj:j≤ops.size) (hk:∀k,i≤k→k<j→∀p,ps[k]? = some p→gZ E p ≠ .write):∀b,b<(st i).2.length→(st j).2[b]? = (st i).2[b]? :=
 fun b hb=>T.akN Qn hj b hb fun k h1 h2 p _ hp _ hw _=>absurd hw (hk k h1 h2 p hp)
theorem Text.Th (T:Text P E n ops xE ps M call lo st) {i t:Nat}:∀ {j:Nat},i≤j→j≤ops.size→(∀k o,i≤k→k<j→ops[k]? = some o→o.dst≠some t)→(st j).1 t=(st i).1 t:=by
 intro j Qn
 induction j with
 | zero =>
      intro _ _;have:i=0:=by omega
      subst this;rfl
 |
  succ j ih =>
  intro hj hk
  rcases aKE i (j+1) with h | h
  ·obtain⟨o,p,pi,ho,hp,hpi,GX,_,v,hv,he⟩:=T.at (i:=j) (by omega)
   rw[he]
   have fW:=hk j o (by omega) (by omega) ho
   have h1:put (st j).1 o.dst v t=(st j).1 t:=by
    cases hd:o.dst with
    | none=>rfl
    |
     some d =>
     rw[hd] at fW
     show (if t=d then v else _)=_
     rw[if_neg (fun e=>fW (by rw[e]))]
   rw[h1]
   exact ih (by omega) (by omega) fun k o hk1 ZH=>hk k o hk1 (by omega)
  ·have:i=j+1:=by omega
   subst this;rfl
end
end Go.PM
namespace Go.PM
theorem BL {M:List Nat} {i j:Nat} (h:i<j):ahead M i j=(M.getD j 0).testBit i:=by
 unfold ahead
 have e1:Nat.max i j=j:=Nat.max_eq_right (by omega)
 have e2:aK8 i j=i:=Nat.min_eq_left (by omega)
 rw[e1,e2]
theorem ahO {M:List Nat} {i j:Nat} (h:j<i):ahead M i j=(M.getD i 0).testBit j:=by
 unfold ahead
 have e1:Nat.max i j=i:=Nat.max_eq_left (by omega)
 have e2:aK8 i j=j:=Nat.min_eq_right (by omega)
 rw[e1,e2]
theorem Wj {a:Act} {d t:Nat} {v:Value} (hd:d<a.tmps.size):(a.put (some d) v).tmps.getD t undef=if t=d then v else a.tmps.getD t undef:=by
 show (a.tmps.setIfInBounds d v).getD t undef=_
 rcases aKE t a.tmps.size with h | h
 ·by_cases e:t=d
  ·subst e;simp[h]
  ·simp[h,e,Ne.symm e]
 ·have:t≠d:=by omega
  simp[h,this]
theorem Km (a:Act) (d:Option Nat) (v:Value):(a.put d v).tmps.size=a.tmps.size:=by
 cases d<;>simp[Act.put]
theorem I9 (a:Act) (d:Option Nat) (v:Value):(a.put d v).defers=a.defers:=by
 cases d<;>rfl
section
variable {P:Program} {E:Db} {n:Nat} {ops:Array Oper} {xE:List PI} {ps:List qH} {M:List Nat} {call:iL} {lo L0:Nat} {st:Nat→Env×aJ}
structure vM (E:Db) (n:Nat) (ops:Array Oper) (ps:List qH) (lo L0:Nat) (st:Nat→Env×aJ) (m0:dO) (w0:World) (ds:List Deferred) (S:Nat→Prop) (m:dO) (c:Nat) (a:Act) (w:World):Prop where
 J0:a.tmps.size=n
 defs:a.defers=ds
 back:∀i o,ops.toList[i]? = some o→S i→∀e∈o.after.toList,Region.binds .any e=true→S e.on
 tm:∀t j,j≤ops.size→(∀i o,ops.toList[i]? = some o→o.dst=some t→(S i↔i<j))→RV m ((st j).1 t) (a.tmps.getD t undef)
 RX:c≤ops.size
 before:∀i p,i<c→ps[i]? = some p→gZ E p = .write→S i
 atc:c<ops.size→¬S c∧∃p,ps[c]? = some p∧gZ E p = .write
 rel:Rel m L0 (st c).2 w
 tr:Trans lo m0 (st 0).2 w0 m (st c).2 w
 dom:∀b l,m b=some l→m0 b≠none∨∃i,S i∧i<ops.size∧(st i).2.length≤b∧b<(st (i+1)).2.length
theorem Text.anc (T:Text P E n ops xE ps M call lo st) {S:Nat→Prop} (hS:∀i o,ops.toList[i]? = some o→S i→∀e∈o.after.toList,Region.binds .any e=true→S e.on) {k:Nat} {o:Oper} (ho:ops.toList[k]? = some o)
  (hk:∀e∈o.after.toList,Region.binds .any e=true→S e.on) {i:Nat} (hi:(M.getD k 0).testBit i=true):S i :=
 YV (fun i o hio=>by
   obtain⟨p,pi,_,_,_,hd,_⟩:=T.ok.each i o hio
   exact(hd rfl).back) (fun i o hio=>by
   obtain⟨p,pi,_,_,_,hd,_⟩:=T.ok.each i o hio
   exact(hd rfl).mask) hS k o ho hk i hi
theorem Text.Zd (T:Text P E n ops xE ps M call lo st) {i:Nat} {p:qH} (hi:i<ops.size) (hp:ps[i]? = some p) (h:gZ E p = .pure∨gZ E p = .look):(st (i+1)).2=(st i).2:=by
 obtain⟨o,p',pi,_,BY,_,GX,hdr,v,hv,_⟩:=T.at hi
 rw[hp] at BY
 cases BY
 rcases xT hv with⟨_,_,h'⟩ | ⟨_,_,h' | ⟨f,args,h1,h2⟩⟩
 ·exact h'
 ·rw[GX.op] at h'
  rcases h with h | h
  ·have:yG p=true:=by
    cases p<;>first | rfl | (cases h;done) | skip
    case sub s x l hh mx=>cases mx<;>cases h
    case call f as=>simp only[gZ] at h;split at h<;>cases h
   rw[BB this] at h'
   exact(Ge h').2
  ·exact(T8 h' h (fun _ _ _ _ _=>rfl)).1
 ·exfalso
  rw[GX.op] at h1
  rcases wY h1 with⟨g,as,rfl⟩ | ⟨g,as,rfl⟩
  ·simp only[gZ] at h
   split at h<;>rcases h with h | h<;>cases h
  ·rcases h with h | h<;>cases h
theorem acR {op:Op} {p:qH} {x:Operand} (h:tJ P op=some p) (ht:HQ p=some x):x∈op.operands:=by
 unfold tJ at h
 split at h
 case isFalse=>cases h
 cases op with
 |
  load t q =>
  dsimp only at h
  cases hi:oO P t with
  | none=>rw[hi] at h;cases h
  | some u=>rw[hi] at h;cases h;cases ht;simp[Op.operands]
 |
  store t q v =>
  dsimp only at h
  cases hi:P.info? t with
  | none=>rw[hi] at h;cases h
  | some u=>rw[hi] at h;cases h;cases ht;simp[Op.operands]
 |
  slice t y l hh mx =>
  dsimp only at h
  split at h
  ·split at h
   ·cases h;cases ht
   ·cases h
  ·rename_i e _
   cases hi:oO P e with
   | none=>rw[hi] at h;cases h
   | some u=>rw[hi] at h;cases h;cases ht;simp[Op.operands]
  ·cases h
 |
  convert s d y =>
  dsimp only at h
  repeat' (split at h)
  all_goals first
   | (cases h;done)
   | (cases h;cases ht;done)
   | (cases h;cases ht;simp[Op.operands])
 |
  call c =>
  obtain⟨callee,args,ts⟩:=c
  cases callee with
  |
   builtin b =>
   simp only[rV] at h
   repeat' (split at h)
   all_goals first
    | (cases h;done)
    | (cases h;cases ht;done)
    | skip
   all_goals
    cases h
    cases ht
    have hm:x∈args.toList:=by simp_all
    simpa[Op.operands,Call.operands] using hm
  |
   value f =>
   cases f with
   | tmp g'=>cases h;cases ht
   | func g'=>cases h;cases ht
   | _=>cases h
  | invoke r s=>cases h
 |
  _ =>
  exfalso
  dsimp only at h
  try unfold D2 at h
  repeat' (split at h)
  all_goals first
   | contradiction
   | (cases h;done)
   | (cases h;cases ht;done)
   | exact map_none h (by intro y h;cases h;cases ht)
end
end Go.PM
namespace Go.PM
theorem Im (p:Nat→Prop):∀(d c N:Nat),N-c=d→c≤N→∃c',c≤c'∧c'≤N∧(∀i,c≤i→i<c'→¬p i)∧(c'<N→p c')
 | 0,c,N,hd,hc=>⟨c,aKB _,hc,fun i h1 h2=>by omega,fun h=>by omega⟩
 |
  d+1,c,N,hd,hc=>by
  by_cases hp:p c
  ·exact⟨c,aKB _,hc,fun i h1 h2=>by omega,fun _=>hp⟩
  ·obtain⟨c',h1,h2,h3,h4⟩:=Im p d (c+1) N (by omega) (by omega)
   refine⟨c',by omega,h2,fun i hi1 uW => ?_,h4⟩
   rcases aKE c i with h | h
   ·exact h3 i h uW
   ·have:i=c:=by omega
    subst this;exact hp
theorem alL {m:dO} {v r:Value} {b:Nat} (h:RV m v r) (hb:kV v=some b):∃l,m b=some l:=by
 cases h<;>first | (cases hb;done) | (cases hb;exact⟨_,by assumption⟩)
section
variable {P:Program} {E:Db} {n:Nat} {ops:Array Oper} {xE:List PI} {ps:List qH} {M:List Nat} {call:iL} {lo L0:Nat} {st:Nat→Env×aJ}
 {m0:dO} {w0:World} {ds:List Deferred} {S:Nat→Prop} {m:dO} {c:Nat} {a:Act} {w:World} {k:Nat} {o:Oper} {p:qH} {pi:PI}
structure At (P:Program) (E:Db) (n:Nat) (ops:Array Oper) (xE:List PI) (ps:List qH) (M:List Nat) (S:Nat→Prop) (k:Nat) (o:Oper) (p:qH) (pi:PI):Prop where
 lt:k<ops.size
 eo:ops[k]? = some o
 ep:ps[k]? = some p
 epi:xE[k]? = some pi
 ok:alN P E n ops.toList k o p pi
 dr:SL E ops.toList ps M k o p pi
 aDn:¬S k
 anc:∀i,(M.getD k 0).testBit i=true→S i
 desc:∀i,i<ops.size→S i→(M.getD i 0).testBit k=true→False
theorem At.ah (A:At P E n ops xE ps M S k o p pi) {i:Nat} (hi:i<ops.size) (h:i=k∨ahead M k i=true):S i↔i<k:=by
 rcases aLh i k with h1 | h1 | h1
 ·refine⟨fun _=>h1,fun _ => ?_⟩
  rcases h with h | h
  ·omega
  ·rw[ahO h1] at h;exact A.anc i h
 ·subst h1
  exact⟨fun h=>absurd h A.aDn,fun h=>by omega⟩
 ·refine⟨fun hs => ?_,fun h=>by omega⟩
  rcases h with h | h
  ·omega
  ·rw[BL h1] at h;exact absurd h (fun h=>A.desc i hi hs h)
theorem Ix {i:Nat} {oi:Oper} (h:ops.toList[i]? = some oi):i<ops.size:=by
 have:=(aKA.1 h).1
 simpa using this
theorem At.reads (A:At P E n ops xE ps M S k o p pi) (I:vM E n ops ps lo L0 st m0 w0 ds S m c a w):∀t∈AF ops.toList o,RV m ((st k).1 t) (a.tmps.getD t undef):=by
 intro t ht
 refine I.tm t k (aLi A.lt) fun i oi hi hd => ?_
 exact A.ah (Ix hi) (A.dr.Sd t (List.mem_append_right _ ht) i oi hi hd)
theorem At.operand (A:At P E n ops xE ps M S k o p pi) (I:vM E n ops ps lo L0 st m0 w0 ds S m c a w) {x:Operand} (hx:x∈o.op.operands):RV m (ev (st k).1 x) (a.eval x) :=
 XA (Oi A.ok.afK x hx) fun t ht=>A.reads I t (HI (ht▸hx))
theorem At.pair (T:Text P E n ops xE ps M call lo st) {i j:Nat} {p q:qH} (Qn:i<j) (hj:j<ops.size) (hp:ps[i]? = some p) (hq:ps[j]? = some q):∃qi,xE[j]? = some qi∧Hp E ops.toList M i j p q qi.cf:=by
 obtain⟨o,q',qi,_,OM,hqi,_,hd,_⟩:=T.at hj
 rw[hq] at OM
 cases OM
 exact⟨qi,hqi,hd.aA9 i Qn p hp⟩
theorem vM.late (T:Text P E n ops xE ps M call lo st) (I:vM E n ops ps lo L0 st m0 w0 ds S m c a w) {i:Nat} {q:qH} (hi:c<i) (hn:i<ops.size) (hS:S i) (hq:ps[i]? = some q):gZ E q = .pure∨gZ E q = .look:=by
 obtain⟨hcS,pc,hpc,T7⟩:=I.atc (by omega)
 obtain⟨qi,_,lG⟩:=At.pair T hi hn hpc hq
 unfold Hp at lG
 rw[T7] at lG
 obtain⟨oi,_,_,hoi,_⟩:=T.at hn
 have VD:ops.toList[i]? = some oi:=by simpa using hoi
 have fin:ahead M c i=true→False:=fun h=>by
  rw[BL hi] at h
  exact hcS (T.anc I.back VD (I.back i oi VD hS) h)
 cases mQ:gZ E q with
 | pure=>exact .inl rfl
 | look=>exact .inr rfl
 | quiet=>rw[mQ] at lG;exact absurd lG fin
 | write=>rw[mQ] at lG;exact absurd lG fin
theorem vM.Sd (T:Text P E n ops xE ps M call lo st) (I:vM E n ops ps lo L0 st m0 w0 ds S m c a w) (A:At P E n ops xE ps M S k o p pi) {m':dO} {v rv:Value} (hm:∀b l,m b=some l→m' b=some l) (hv:RV m' v rv)
  (he:(st (k+1)).1=put (st k).1 o.dst v):∀t j,j≤ops.size→(∀i o,ops.toList[i]? = some o→o.dst=some t→((i=k∨S i)↔i<j))→RV m' ((st j).1 t) ((a.put o.dst rv).tmps.getD t undef):=by
 intro t j hj hw
 have GX:ops.toList[k]? = some o:=by simpa using A.eo
 cases hd:o.dst with
 |
  none =>
  show RV m' _ (a.tmps.getD t undef)
  refine(I.tm t j hj fun i oi hi hdi => ?_).mono hm
  have fW:i≠k:=fun e=>by subst e;rw[GX] at hi;cases hi;rw[hd] at hdi;cases hdi
  rw[←hw i oi hi hdi]
  simp[fW]
 |
  some d =>
  rw[Wj (by rw[I.J0];exact A.ok.bound d hd)]
  by_cases htd:t=d
  ·subst htd
   rw[if_pos rfl]
   have hkj:k<j:=(hw k o GX hd).1 (.inl rfl)
   have e1:(st j).1 t=(st (k+1)).1 t:=by
    refine T.Th hkj hj fun i oi hi1 uW hoi hdi => ?_
    have VD:ops.toList[i]? = some oi:=by simpa using hoi
    have hS:=(hw i oi VD hdi).2 uW
    have Wn:i≠k:=by omega
    have:=(A.ah (Ix VD) (A.dr.Sd t (List.mem_append_left _ (by rw[hd];simp)) i oi VD hdi)).1 (hS.resolve_left Wn)
    omega
   rw[e1,he,hd]
   show RV m' (if t=t then v else _) rv
   rw[if_pos rfl]
   exact hv
  ·rw[if_neg htd]
   refine(I.tm t j hj fun i oi hi hdi => ?_).mono hm
   have fW:i≠k:=fun e=>by subst e;rw[GX] at hi;cases hi;rw[hd] at hdi;cases hdi;exact htd rfl
   rw[←hw i oi hi hdi]
   simp[fW]
theorem vM.akB (I:vM E n ops ps lo L0 st m0 w0 ds S m c a w) (A:At P E n ops xE ps M S k o p pi) (hr:∀e∈o.after.toList,Region.binds .any e=true→S e.on) :
  ∀i oi,ops.toList[i]? = some oi→(i=k∨S i)→∀e∈oi.after.toList,Region.binds .any e=true→(e.on=k∨S e.on):=by
 intro i oi hi hS e he hb
 rcases hS with rfl | hS
 ·have:ops.toList[i]? = some o:=by simpa using A.eo
  rw[this] at hi
  cases hi
  exact .inr (hr e he hb)
 ·exact .inr (I.back i oi hi hS e he hb)
theorem Ka (T:Text P E n ops xE ps M call lo st) {i j:Nat} {x:Operand} (Qn:i≤j) (hj:j≤ops.size) (h:Gv ops.toList i j x=true):ev (st j).1 x=ev (st i).1 x:=by
 cases x with
 |
  tmp t =>
  refine T.Th Qn hj fun q oq h1 h2 hoq hd => ?_
  have jP:=aKP.1 h oq (by
   have aFo:ops.toList[q]? = some oq:=by simpa using hoq
   rw[List.mem_iff_getElem?]
   refine⟨q-i,?_⟩
   rw[List.getElem?_drop,List.getElem?_take,show i+(q-i)=q by omega,if_pos h2,aFo])
  simp[hd] at jP
 | const v=>rfl
 | global g=>rfl
 | func f=>rfl
theorem vM.look (T:Text P E n ops xE ps M call lo st) (I:vM E n ops ps lo L0 st m0 w0 ds S m c a w) (A:At P E n ops xE ps M S k o p pi) (D9:∀b,(st 0).2.length≤b→b<(st ops.size).2.length→m0 b=none)
  (mQ:gZ E p = .pure∨gZ E p = .look) {v:Value} (hv:B1 call lo pi (st k).1 (st k).2=some (v,(st (k+1)).2)):B1 call lo pi (st k).1 (st c).2=some (v,(st c).2):=by
 rcases xT hv with⟨hw,rfl,_⟩ | ⟨hw,T5,hp | ⟨f,args,hp,_⟩⟩
 ·unfold B1
  rw[hw]
 ·unfold B1
  rw[hw]
  simp only[T5,if_true]
  have key:pop lo pi.op (st k).1 (st c).2=some (.val v (st c).2):=by
   rw[A.ok.op] at hp ⊢
   rcases mQ with mQ | mQ
   ·have hlp:yG p=true:=by
     cases p<;>first | rfl | (cases mQ;done) | skip
     case sub s x l hh mx=>cases mx<;>cases mQ
     case call f as=>simp only[gZ] at mQ;split at mQ<;>cases mQ
    rw[BB hlp] at hp ⊢
    rw[(Ge hp).1]
    rfl
   ·refine(T8 hp mQ fun x hx b hb bI => ?_).2
    rcases aKE c k with hck | hck
    ·obtain⟨hcS,pc,hpc,T7⟩:=I.atc (Nat.lt_trans hck A.lt)
     have OW:b<(st c).2.length:=by
      rcases aKE b (st c).2.length with h | h
      ·exact h
      ·exfalso
       obtain⟨l,hl⟩:=alL (A.operand I (acR A.ok.afK hx)) hb
       have h0:=T.len (i:=0) (j:=c) (aK5 _) I.RX
       have h1:=T.len (i:=k) (j:=ops.size) (aLi A.lt) (aKB _)
       rcases I.dom b l hl with h2 | ⟨i,hiS,bZ,hi1,uW⟩
       ·exact h2 (D9 b (by omega) (by omega))
       ·rcases aLh i c with h3 | h3 | h3
        ·have:=T.len (i:=i+1) (j:=c) h3 I.RX
         omega
        ·subst h3;exact hcS hiS
        ·obtain⟨oi,qi,pii,_,hqi,_⟩:=T.at bZ
         have:=I.late T h3 bZ hiS hqi
         rw[T.Zd bZ hqi this] at uW
         omega
     refine(T.akN (aLi hck) (aLi A.lt) b OW fun j hj1 Hu q qi hq hqi hqw avB => ?_).symm
     obtain⟨pi',aB0,lG⟩:=At.pair T Hu A.lt hq A.ep
     rw[A.epi] at aB0
     cases aB0
     unfold Hp at lG
     rw[hqw,mQ] at lG
     rcases lG with h | ⟨xa,xb,ha,xJ,hun,Pe⟩
     ·exfalso
      rw[BL Hu] at h
      have hjS:=A.anc j h
      rcases aKE c j with h3 | h3
      ·rcases I.late T h3 (Nat.lt_trans Hu A.lt) hjS hq with h4 | h4<;>(rw[hqw] at h4;cases h4)
      ·have:j=c:=by omega
       subst this;exact hcS hjS
     ·rw[hx] at xJ
      cases xJ
      refine⟨xa,ha,fun e => ?_⟩
      have hk:=aKP.1 T5 _ Pe
      unfold C7 at hk
      rw[Ka T (aLi Hu) (aLi A.lt) hun,e,hb] at hk
      simp at hk
    ·refine T.akN hck I.RX b bI fun j hj1 Hu q qi hq hqi hqw avB => ?_
     have Tl:k<j:=by
      rcases aKE k j with h | h
      ·exact h
      ·have:j=k:=by omega
       subst this
       rw[A.ep] at hq
       cases hq
       rw[hqw] at mQ
       cases mQ
     have Ew:j<ops.size:=aKD Hu I.RX
     obtain⟨oj,q',qi',hoj,OM,akR,aHl,_,vj,hvj,_⟩:=T.at Ew
     rw[hq] at OM
     cases OM
     rw[hqi] at akR
     cases akR
     obtain⟨qi',akR,lG⟩:=At.pair T Tl Ew A.ep hq
     rw[hqi] at akR
     cases akR
     unfold Hp at lG
     rw[hqw,mQ] at lG
     rcases lG with h | ⟨xa,xb,ha,xJ,hun,Pe⟩
     ·exfalso
      rw[BL Tl] at h
      exact A.desc j Ew (I.before j q Hu hq hqw) h
     ·rw[hx] at ha
      cases ha
      refine⟨xb,xJ,fun e => ?_⟩
      have aFf:qi.cf.all (C7 (st j).1)=true:=by
       rcases xT hvj with⟨h,_⟩ | ⟨_,h,_⟩
       ·rw[avB] at h;cases h
       ·exact h
      have hk:=aKP.1 aFf _ Pe
      unfold C7 at hk
      rw[Ka T (aLi Tl) (aLi Ew) hun,e,hb] at hk
      simp at hk
  rw[key]
 ·exfalso
  rw[A.ok.op] at hp
  rcases wY hp with⟨g,as,rfl⟩ | ⟨g,as,rfl⟩
  ·simp only[gZ] at mQ
   split at mQ<;>rcases mQ with h | h<;>cases h
  ·rcases mQ with h | h<;>cases h
end
end Go.PM
namespace Go.PM
section
variable {P:Program} {E:Db} {n:Nat} {ops:Array Oper} {xE:List PI} {ps:List qH} {M:List Nat} {call:iL} {lo L0:Nat} {st:Nat→Env×aJ}
 {m0:dO} {w0:World} {ds:List Deferred}
theorem Jk {H:aJ} {b:Nat} (h:H.length≤b):¬Live H b:=fun hl=>by have:=hl.lt;omega
theorem amR {S:Nat→Prop} {m:dO} {c:Nat} {a:Act} {w:World} {k:Nat} {o:Oper} (T:Text P E n ops xE ps M call lo st) (qV:AU P L0 call) (dS:L0≤lo) (Ct:L0≤(st 0).2.length)
  (D9:∀b,(st 0).2.length≤b→b<(st ops.size).2.length→m0 b=none) (I:vM E n ops ps lo L0 st m0 w0 ds S m c a w) (ho:ops[k]? = some o) (hkS:¬S k)
  (hr:∀e∈o.after.toList,Region.binds .any e=true→S e.on) {K:Act→World→Prop} {Q:Exit→Act→World→Prop}
  (hK:∀m' c' a' w',vM E n ops ps lo L0 st m0 w0 ds (fun i=>i=k∨S i) m' c' a' w'→K a' w'):wpOp P ops Q k K a w:=by
 have bI:k<ops.size:=(aKK.1 ho).1
 obtain⟨o',p,pi,ho',hp,hpi,GX,hdr,v,hv,he⟩:=T.at bI
 rw[ho] at ho'
 cases ho'
 have ho2:ops.toList[k]? = some o:=by simpa using ho
 have A:At P E n ops xE ps M S k o p pi:=⟨bI,ho,hp,hpi,GX,hdr,hkS,fun i hi=>T.anc I.back ho2 hr hi,fun i hi hS hb=>by
  have hio:ops.toList[i]? = some ops[i]:=by simp[hi]
  exact hkS (T.anc I.back hio (I.back i _ hio hS) hb)⟩
 have YR:=A.reads I
 have avO:=T.len (i:=0) (j:=c) (aK5 _) I.RX
 have aCw:=T.len (i:=c) (j:=ops.size) I.RX (aKB _)
 have aB5:=T.len (i:=0) (j:=k) (aK5 _) (aLi bI)
 have aEK:=T.len (i:=k+1) (j:=ops.size) bI (aKB _)
 have aEm:=T.aBi bI
 have hfk:∀b,(st k).2.length≤b→b<(st (k+1)).2.length→m b=none:=by
  intro b h1 h2
  cases hm:m b with
  | none=>rfl
  |
   some l =>
   exfalso
   rcases I.dom b l hm with h3 | ⟨i,hiS,bZ,hi1,uW⟩
   ·exact h3 (D9 b (by omega) (by omega))
   ·rcases aLh i k with h3 | h3 | h3
    ·have:=T.len (i:=i+1) (j:=k) h3 (aLi bI)
     omega
    ·subst h3;exact hkS hiS
    ·have:=T.len (i:=k+1) (j:=i) h3 (aLi bZ)
     omega
 have Ui:(gZ E p = .pure∨gZ E p = .look)→wpOp P ops Q k K a w:=by
  intro mQ
  have hq:pi.quiet=false:=by
   rw[hdr.quiet]
   rcases mQ with h | h<;>rw[h]
  have hw:gZ E p ≠ .write:=by rcases mQ with h | h<;>(rw[h];exact fun h=>by cases h)
  refine S4 ho GX (fun h=>by rw[hq] at h;cases h) (I.look T A D9 mQ hv) YR I.rel dS (aKC Ct avO) (fun b h1 h2=>by omega) qV fun m' rv w' X5 hR hT => ?_
  rw[hq] at hT
  simp only[aLd,if_false] at hT
  have hmm:m'=m:=by
   funext b
   cases hm:m b with
   | some l=>exact hT.ext b l hm
   |
    none =>
    cases hm':m' b with
    | none=>rfl
    | some l=>have:=(hT.new b l hm' hm).1;omega
  subst hmm
  refine hK m' c _ w' ⟨by rw[Km];exact I.J0,by rw[I9];exact I.defs,I.akB A hr,I.Sd T A (fun _ _ h=>h) X5 he,I.RX,fun i q h1 h2 h3 => .inr (I.before i q h1 h2 h3),?_,hR,?_,?_⟩
  ·intro h
   obtain⟨h1,q,h2,h3⟩:=I.atc h
   refine⟨fun hS=>hS.elim (fun e => ?_) h1,q,h2,h3⟩
   subst e
   rw[hp] at h2
   cases h2
   exact hw h3
  ·exact Trans.trans (fun b h1 h2=>D9 b h1 (by omega)) (T.akD (aK5 _) I.RX) (Ext.refl _ _) I.tr hT
  ·intro b l hb
   exact(I.dom b l hb).imp id fun⟨i,h1,h2⟩=>⟨i,.inr h1,h2⟩
 cases mQ:gZ E p with
 |
  write =>
  have hkc:k=c:=by
   rcases aLh k c with h | h | h
   ·exact absurd (I.before k p h hp mQ) hkS
   ·exact h
   ·exfalso
    obtain⟨hcS,pc,hpc,T7⟩:=I.atc (by omega)
    obtain⟨qi,_,lG⟩:=At.pair T h bI hpc hp
    unfold Hp at lG
    rw[T7,mQ] at lG
    simp only at lG
    rw[BL h] at lG
    exact hcS (A.anc c lG)
  subst hkc
  refine S4 ho GX (fun hq=>by rw[hdr.quiet,mQ] at hq;cases hq) hv YR I.rel dS (aKC Ct avO) hfk qV fun m' rv w' X5 hR hT => ?_
  have hq:pi.quiet=false:=by rw[hdr.quiet,mQ]
  rw[hq] at hT
  simp only[aLd,if_false] at hT
  obtain⟨c',hc1,hc2,hc3,hc4⟩:=Im (fun i=>∃q,ps[i]? = some q∧gZ E q = .write) _ (k+1) ops.size rfl bI
  have Rh:∀b,b<(st (k+1)).2.length→(st c').2[b]? = (st (k+1)).2[b]? := T.same hc1 hc2 fun i h1 h2 q hq hw=>hc3 i h1 h2 ⟨q,hq,hw⟩
  have aFu:=T.len hc1 hc2
  have aB2:=T.len (i:=c') (j:=ops.size) hc2 (aKB _)
  have aB3:∀b l,m' b=some l→m0 b≠none∨∃i,(i=k∨S i)∧i<ops.size∧(st i).2.length≤b∧b<(st (i+1)).2.length:=by
   intro b l hb
   cases hm:m b with
   | some l'=>exact(I.dom b l' hm).imp id fun⟨i,h1,h2⟩=>⟨i,.inr h1,h2⟩
   | none=>exact .inr ⟨k,.inl rfl,bI,(hT.new b l hb hm).1⟩
  have ayJ:∀b,(st (k+1)).2.length≤b→b<(st c').2.length→m' b=none:=by
   intro b h1 h2
   cases hm:m' b with
   | none=>rfl
   |
    some l =>
    exfalso
    rcases aB3 b l hm with h3 | ⟨i,hiS,bZ,hi1,uW⟩
    ·exact h3 (D9 b (by omega) (by omega))
    ·rcases aLh i k with h3 | h3 | h3
     ·have:=T.len (i:=i+1) (j:=k) h3 (aLi bI)
      omega
     ·subst h3;omega
     ·obtain⟨oi,qi,pii,_,hqi,_⟩:=T.at bZ
      have:=I.late T h3 bZ (hiS.resolve_left (by omega)) hqi
      rw[T.Zd bZ hqi this] at uW
      omega
  have hTT:Trans lo m0 (st 0).2 w0 m' (st (k+1)).2 w':=Trans.trans (fun b h1 h2=>D9 b h1 (by omega)) (T.akD (aK5 _) (aLi bI)) (T.akD (Nat.le_succ _) bI) I.tr hT
  refine hK m' c' _ w' ⟨by rw[Km];exact I.J0,by rw[I9];exact I.defs,I.akB A hr,I.Sd T A hT.ext X5 he,hc2,?_,?_,hR.grow Rh ayJ,?_,aB3⟩
  ·intro i q hi hq hw
   rcases aLh i k with h | h | h
   ·exact .inr (I.before i q h hq hw)
   ·exact .inl h
   ·exact absurd ⟨q,hq,hw⟩ (hc3 i h hi)
  ·intro h
   obtain⟨q,hq,hw⟩:=hc4 h
   refine⟨fun hS => ?_,q,hq,hw⟩
   rcases hS with hS | hS
   ·omega
   ·rcases I.late T (by omega) h hS hq with h4 | h4<;>(rw[hw] at h4;cases h4)
  ·refine⟨hTT.ext,fun b l hb hn => ?_,hTT.size,hTT.dB,hTT.same⟩
   obtain⟨⟨h1,h2⟩,h3⟩:=hTT.new b l hb hn
   refine⟨⟨h1,by omega⟩,?_⟩
   rcases h3 with h3 | h3 | h3
   ·exact .inl h3
   ·exact .inr (.inl fun hl=>h3 ((kP (Rh b h2)).1 hl))
   ·exact .inr (.inr h3)
 |
  quiet =>
  have hkc:k<c:=by
   rcases aKE k c with h | h
   ·exact h
   ·exfalso
    rcases aKE c k with h' | h'
    ·obtain⟨hcS,pc,hpc,T7⟩:=I.atc (by omega)
     obtain⟨qi,_,lG⟩:=At.pair T h' bI hpc hp
     unfold Hp at lG
     rw[T7,mQ] at lG
     simp only at lG
     rw[BL h'] at lG
     exact hcS (A.anc c lG)
    ·have:k=c:=by omega
     subst this
     obtain⟨_,pc,hpc,T7⟩:=I.atc bI
     rw[hp] at hpc
     cases hpc
     rw[mQ] at T7
     cases T7
  have afD:∀i,k<i→i<c→∀q,ps[i]? = some q→gZ E q ≠ .write:=by
   intro i h1 h2 q hq hw
   have bZ:i<ops.size:=aKD h2 I.RX
   obtain⟨qi,_,lG⟩:=At.pair T h1 bZ hp hq
   unfold Hp at lG
   rw[mQ,hw] at lG
   simp only at lG
   rw[BL h1] at lG
   exact A.desc i bZ (I.before i q h2 hq hw) lG
  have FP:∀b,b<(st (k+1)).2.length→(st c).2[b]? = (st (k+1)).2[b]? := T.same hkc I.RX fun i h1 h2 q hq=>afD i h1 h2 q hq
  have hs0:∀b,b<(st k).2.length→(st c).2[b]? = (st k).2[b]? := T.same (aLi hkc) I.RX fun i h1 h2 q hq=>by
   rcases aKE k i with h | h
   ·exact afD i h h2 q hq
   ·have:i=k:=by omega
    subst this
    rw[hp] at hq
    cases hq
    rw[mQ]
    exact fun h=>by cases h
  have aFU:=T.len (i:=k+1) (j:=c) hkc I.RX
  refine S4 ho GX (fun _=>mQ) hv YR (I.rel.restrict hs0) dS (aKC Ct aB5) hfk qV fun m' rv w' X5 hR hT => ?_
  have hq:pi.quiet=true:=by rw[hdr.quiet,mQ]
  rw[hq] at hT
  simp only[if_true] at hT
  have tW:∀rb,rb<w.heap.size→w'.heap[rb]? = w.heap[rb]? := fun rb Bm=>hT.dB rb Bm fun b l hb _ hl=>absurd hl (Jk hb)
  have pO:∀b l,m' b=some l→m b=none→((st k).2.length≤b∧b<(st (k+1)).2.length)∧(w.heap.size≤l.rb∨¬Live (st (k+1)).2 b):=by
   intro b l h1 h2
   obtain⟨h3,h4⟩:=hT.new b l h1 h2
   refine⟨h3,?_⟩
   rcases h4 with h4 | h4 | ⟨b0,l0,g1,_,g3,_⟩
   ·exact .inl h4
   ·exact .inr h4
   ·exact absurd g3 (Jk g1)
  have aCo:∀b l,m b=some l→l.rb<w.heap.size:=by
   intro b l hb
   obtain⟨arr,e,fz,h1,_⟩:=I.rel.valid b l hb
   exact(aKK.1 h1).1
  have ZR:∀rb j,rb<w.heap.size→w'.cell? ⟨rb,j,none⟩=w.cell? ⟨rb,j,none⟩:=by
   intro rb j Bm
   unfold World.cell?
   simp only[tW rb Bm]
  have Es:∀b l,m' b=some l→(st (k+1)).2.length≤b→m b=some l:=by
   intro b l hb h
   cases hm:m b with
   | some l'=>have:=hT.ext b l' hm;rw[hb] at this;exact this.symm
   | none=>have:=(pO b l hb hm).1.2;omega
  refine hK m' c _ w' ⟨by rw[Km];exact I.J0,by rw[I9];exact I.defs,I.akB A hr,I.Sd T A hT.ext X5 he,I.RX,fun i q h1 h2 h3 => .inr (I.before i q h1 h2 h3),?_,⟨hR.valid,?_,?_,?_⟩,?_,?_⟩
  ·intro h
   obtain⟨h1,q,h2,h3⟩:=I.atc h
   exact⟨fun hS=>hS.elim (fun e=>by omega) h1,q,h2,h3⟩
  ·intro b l cs e pp hm hb
   rcases aKE b (st (k+1)).2.length with h | h
   ·exact hR.row b l cs e pp hm (by rw[←FP b h];exact hb)
   ·have hmo:=Es b l hm h
    obtain⟨h1,h2,h3,h4⟩:=I.rel.row b l cs e pp hmo hb
    refine⟨h1,h2,h3,fun i hi => ?_⟩
    obtain⟨rv',g1,g2,g3⟩:=h4 i hi
    exact⟨rv',by rw[ZR _ _ (aCo b l hmo)];exact g1,g2.mono hT.ext,g3⟩
  ·intro b1 b2 l1 l2 GZ h1 h2 CU JN Bm
   have fresh:∀b b' l l',m' b=some l→m b=none→m b'=some l'→Live (st c).2 b→l.rb=l'.rb→False:=by
    intro b b' l l' g1 g2 g3 g4 g5
    obtain⟨⟨_,g6⟩,g7⟩:=pO b l g1 g2
    rcases g7 with g7 | g7
    ·have:=aCo b' l' g3;omega
    ·exact g7 ((kP (FP b g6)).1 g4)
   cases QK:m b1 with
   |
    some l1' =>
    cases YL:m b2 with
    |
     some l2' =>
     have e1:l1'=l1:=by have:=hT.ext b1 l1' QK;rw[h1] at this;injection this with this;exact this.symm
     have e2:l2'=l2:=by have:=hT.ext b2 l2' YL;rw[h2] at this;injection this with this;exact this.symm
     subst e1 e2
     exact I.rel.inj b1 b2 _ _ GZ QK YL CU JN Bm
    |
     none =>
     have e1:l1'=l1:=by have:=hT.ext b1 l1' QK;rw[h1] at this;injection this with this;exact this.symm
     subst e1
     exact(fresh b2 b1 _ _ h2 YL QK JN Bm.symm).elim
   |
    none =>
    cases YL:m b2 with
    |
     some l2' =>
     have e2:l2'=l2:=by have:=hT.ext b2 l2' YL;rw[h2] at this;injection this with this;exact this.symm
     subst e2
     exact(fresh b1 b2 _ _ h1 QK YL CU Bm).elim
    |
     none =>
     have g1:=(pO b1 l1 h1 QK).1.2
     have g2:=(pO b2 l2 h2 YL).1.2
     exact hR.inj b1 b2 l1 l2 GZ h1 h2 ((kP (FP b1 g1)).1 CU) ((kP (FP b2 g2)).1 JN) Bm
  ·intro x hx
   refine⟨(hR.FX x hx).1,fun b l hb hm hl => ?_⟩
   obtain⟨⟨e0,fz0,q1⟩,q2⟩:=I.rel.FX x hx
   cases QK:m b with
   |
    some l' =>
    have e1:l'=l:=by have:=hT.ext b l' QK;rw[hm] at this;injection this with this;exact this.symm
    subst e1
    exact q2 b l' hb QK hl
   |
    none =>
    obtain⟨⟨_,g6⟩,g7⟩:=pO b l hm QK
    rcases g7 with g7 | g7
    ·have:=(aKK.1 q1).1
     omega
    ·exact(g7 ((kP (FP b g6)).1 hl)).elim
  ·refine⟨fun b l hb=>hT.ext b l (I.tr.ext b l hb),fun b l hb hn => ?_,aKC I.tr.size hT.size,fun rb Bm hk => ?_,hT.same.1.trans I.tr.same.1,hT.same.2.1.trans I.tr.same.2.1,hT.same.2.2.trans I.tr.same.2.2⟩
   ·cases hm:m b with
    |
     some l' =>
     have e1:l'=l:=by have:=hT.ext b l' hm;rw[hb] at this;injection this with this;exact this.symm
     subst e1
     exact I.tr.new b l' hm hn
    |
     none =>
     obtain⟨⟨g1,g2⟩,g3⟩:=pO b l hb hm
     refine⟨⟨by omega,by omega⟩,?_⟩
     rcases g3 with g3 | g3
     ·exact .inl (aKC I.tr.size g3)
     ·exact .inr (.inl fun hl=>g3 ((kP (FP b g2)).1 hl))
   ·rw[tW rb (aKD Bm I.tr.size),I.tr.dB rb Bm hk]
  ·intro b l hb
   cases hm:m b with
   | some l'=>exact(I.dom b l' hm).imp id fun⟨i,h1,h2⟩=>⟨i,.inr h1,h2⟩
   | none=>exact .inr ⟨k,.inl rfl,bI,(pO b l hb hm).1⟩
 | pure=>exact Ui (.inl mQ)
 | look=>exact Ui (.inr mQ)
end
end Go.PM
namespace Go.PM
section
variable {P:Program} {E:Db} {n:Nat} {call:iL} {lo L0:Nat}
theorem Trans.fresh {m m':dO} {H H1 H2:aJ} {w w':World} (h:Trans lo m H w m' H1 w') (h1:H.length≤H1.length) (hf:∀b,H.length≤b→b<H2.length→m b=none):∀b,H1.length≤b→b<H2.length→m' b=none:=by
 intro b GZ hb2
 cases hm:m' b with
 | none=>rfl
 |
  some l =>
  exfalso
  have hn:=hf b (by omega) hb2
  have:=(h.new b l hm hn).1
  omega
structure Lx (n L0:Nat) (m:dO) (ρ:Env) (H:aJ) (a:Act) (w:World):Prop where
 J0:a.tmps.size=n
 defs:a.defers=[]
 env:∀t,RV m (ρ t) (a.tmps.getD t undef)
 rel:Rel m L0 H w
theorem Q2 {p q:Nat→Bool}:∀ {l:List Nat} {i:Nat},(∀x∈l,q x=true→p x=true)→i∈l→p i=true→q i=false→l.countP q<l.countP p
 |
  x::l,i,h,hi,hp,hq=>by
  rw[List.countP_cons,List.countP_cons]
  have hle:l.countP q≤l.countP p:=List.countP_mono_left fun x hx=>h x (aLa _ hx)
  rcases List.mem_cons.1 hi with rfl | hi
  ·rw[if_neg (by simp[hq]),if_pos hp];omega
  ·have:=Q2 (fun x hx=>h x (aLa _ hx)) hi hp hq
   have:(if q x=true then 1 else 0)≤(if p x=true then 1 else 0):=by
    by_cases hqx:q x=true
    ·rw[if_pos hqx,if_pos (h x aLb hqx)];omega
    ·rw[if_neg hqx];omega
   omega
theorem Pz {listed:Array Bool} {k i:Nat} (hk:k<listed.size):(listed.setIfInBounds k true).getD i false=true↔(i=k∨listed.getD i false=true):=by
 rcases aKE i listed.size with h | h
 ·by_cases e:i=k
  ·subst e;simp[h]
  ·simp[h,e,Ne.symm e]
 ·have:i≠k:=by omega
  simp[h,this]
theorem arZ {ops:Array Oper} {xE:List PI} {ps:List qH} {M:List Nat} {st:Nat→Env×aJ} {m0:dO} {w0:World} (T:Text P E n ops xE ps M call lo st) (qV:AU P L0 call) (dS:L0≤lo) (Ct:L0≤(st 0).2.length)
  (D9:∀b,(st 0).2.length≤b→b<(st ops.size).2.length→m0 b=none) {Q:Exit→Act→World→Prop}
  (hQ:∀m' a' w',Lx n L0 m' (st ops.size).1 (st ops.size).2 a' w'→Trans lo m0 (st 0).2 w0 m' (st ops.size).2 w'→Q .normal a' w') :
  ∀(fuel:Nat) (listed:Array Bool) (m:dO) (c:Nat) (a:Act) (w:World),listed.size=ops.size→((aKx ops.size).countP fun i => !listed.getD i false)≤fuel →
  vM E n ops ps lo L0 st m0 w0 [] (fun i=>listed.getD i false=true) m c a w→wpAny P .any ops Q fuel listed a w:=by
 have fin:∀(listed:Array Bool) (m:dO) (c:Nat) (a:Act) (w:World),listed.size=ops.size→(Region.ready .any ops listed=[])→vM E n ops ps lo L0 st m0 w0 [] (fun i=>listed.getD i false=true) m c a w→Q .normal a w:=by
  intro listed m c a w hs hr I
  have all:∀i,i<ops.size→listed.getD i false=true:=by
   intro i
   induction i using Nat.strongRecOn with
   |
    _ i ih =>
    intro hi
    cases hl:listed.getD i false with
    | true=>rfl
    |
     false =>
     exfalso
     obtain⟨o,p,pi,ho,_,_,_,hdr,_⟩:=T.at hi
     have:i∈Region.ready .any ops listed:=by
      rw[mem_ready]
      refine⟨?_,o,ho,fun e he hb => ?_⟩
      ·have YO:i<listed.size:=by omega
       simpa[YO] using hl
      ·have:=hdr.back e (by simpa using he) hb
       exact ih e.on this (by omega)
     rw[hr] at this
     cases this
  have hcN:c=ops.size:=by
   rcases aKE c ops.size with h | h
   ·exact absurd (all c h) (I.atc h).1
   ·have:=I.RX;omega
  subst hcN
  exact hQ m a w ⟨I.J0,I.defs,fun t=>I.tm t ops.size (aKB _) fun i o hi _=>⟨fun _=>Ix hi,fun h=>all i h⟩,I.rel⟩ I.tr
 intro fuel
 induction fuel with
 |
  zero =>
  intro listed m c a w hs hc I
  have hr:Region.ready .any ops listed=[]:=by
   rw[List.eq_nil_iff_forall_not_mem]
   intro i hi
   have qL:=mem_ready.1 hi
   obtain⟨h1,o,ho,_⟩:=qL
   have bI:i<ops.size:=(aKK.1 ho).1
   have h0:((aKx ops.size).countP fun i => !listed.getD i false)=0:=by omega
   rw[List.countP_eq_zero] at h0
   have:=h0 i (aLc.2 bI)
   have YO:i<listed.size:=by omega
   simp[YO] at this h1
   rw[h1] at this
   cases this
  exact⟨hr,fin listed m c a w hs hr I⟩
 |
  succ fuel ih =>
  intro listed m c a w hs hc I
  refine⟨fun hr=>fin listed m c a w hs hr I,fun k hk => ?_⟩
  obtain⟨h1,o,ho,hb⟩:=mem_ready.1 hk
  have bI:k<ops.size:=(aKK.1 ho).1
  have hkl:k<listed.size:=by omega
  have hkf:listed.getD k false=false:=by simpa[hkl] using h1
  refine amR T qV dS Ct D9 I ho (by rw[hkf];exact fun h=>by cases h) (fun e he hbd=>hb e (by simpa using he) hbd) fun m' c' a' w' I'=>ih _ m' c' a' w' (by simpa using hs) ?_ ?_
  ·have:((aKx ops.size).countP fun i => !(listed.setIfInBounds k true).getD i false)<((aKx ops.size).countP fun i => !listed.getD i false):=by
    refine Q2 (i:=k) (fun x _ hx => ?_) (aLc.2 bI) (by rw[hkf];rfl) ?_
    ·cases hlx:listed.getD x false with
     | false=>rfl
     |
      true =>
      have:=(Pz (i:=x) hkl).2 (.inr hlx)
      rw[this] at hx
      cases hx
    ·rw[(Pz hkl).2 (.inl rfl)];rfl
   omega
  ·have e:(fun i=>(listed.setIfInBounds k true).getD i false=true)=fun i=>i=k∨listed.getD i false=true:=by
    funext i
    exact propext (Pz hkl)
   rw[e]
   exact I'
theorem Rel.drew {m:dO} {H:aJ} {w w':World} (h:Rel m L0 H w) (hw:w'.heap=w.heap):Rel m L0 H w':=by
 have hc:∀x,w'.cell? x=w.cell? x:=fun x=>by unfold World.cell?;rw[hw]
 refine⟨fun b l hb=>by rw[hw];exact h.valid b l hb,fun b l cs e p hm hb => ?_,h.inj,fun x hx=>⟨by rw[hw];exact(h.FX x hx).1,(h.FX x hx).2⟩⟩
 obtain⟨h1,h2,h3,h4⟩:=h.row b l cs e p hm hb
 refine⟨h1,h2,h3,fun i hi => ?_⟩
 rw[hc]
 exact h4 i hi
theorem Yw {id:Nat} {ops:Array Oper} {draw:Bool} {xE:List PI} (Gm:P.follows .mixedOrders=true) (qV:AU P L0 call) (uX:vC call) (hp:Bj P E n ops draw=some xE) {ρ aQ:Env} {H H':aJ}
  (hv:jF call lo xE ρ H=some (aQ,H')) {m:dO} {a:Act} {w:World} (h:Lx n L0 m ρ H a w) (dS:L0≤lo) (hlen:L0≤H.length) (hf:∀b,H.length≤b→b<H'.length→m b=none) {Q:Exit→Act→World→Prop}
  (hQ:∀m' a' w',Lx n L0 m' aQ H' a' w'→Trans lo m H w m' H' w'→Q .normal a' w'):(Code.region id ops draw).wp P Q a w:=by
 obtain⟨ps,M,GX⟩:=MV hp
 obtain⟨st,hs0,hsn,wU⟩:=JQ hv
 have hN:xE.length=ops.size:=by rw[GX.aDs];simp
 rw[hN] at hsn
 cases draw with
 |
  true =>
  have T:Text P E n ops xE ps M call lo st:=⟨GX,uX,wU⟩
  apply wp_region_any Gm
  have e0:(st 0).1=ρ:=by rw[hs0]
  have e1:(st 0).2=H:=by rw[hs0]
  have e2:(st ops.size).1=aQ:=by rw[hsn]
  have e3:(st ops.size).2=H':=by rw[hsn]
  obtain⟨c,hc1,hc2,hc3,hc4⟩:=Im (fun i=>∃q,ps[i]? = some q∧gZ E q = .write) _ 0 ops.size rfl (aK5 _)
  have Rh:=T.same hc1 hc2 fun i h1 h2 q hq hw=>hc3 i h1 h2 ⟨q,hq,hw⟩
  have aCw:=T.len hc1 hc2
  have aB2:=T.len (i:=c) (j:=ops.size) hc2 (aKB _)
  have Xg:=h.rel.grow (by rw[←e1];exact Rh) (fun b h1 h2=>hf b h1 (by rw[←e3];omega))
  have aiS:∀i,(Array.replicate ops.size false).getD i false=true→False:=by
   intro i hi
   rcases aKE i ops.size with h | h<;>simp[h] at hi
  refine arZ (m0:=m) (w0:=w) T qV dS (by rw[e1];exact hlen) (by rw[e1,e3];exact hf) (by rw[e1,e2,e3];exact hQ) ops.size _ m c a _ (by simp) (aKC List.countP_le_length (by simp)) ?_
  refine⟨h.J0,h.defs,fun i o _ hi=>(aiS i hi).elim,fun t j hj hw => ?_,hc2,fun i q hi hq hw=>absurd ⟨q,hq,hw⟩ (hc3 i (aK5 _) hi),fun hc=>⟨fun h=>aiS _ h,hc4 hc⟩,Xg.drew rfl,?_,fun b l hb => .inl (by rw[hb];exact fun h=>by cases h)⟩
  ·have e:(st j).1 t=ρ t:=by
    rw[←e0]
    refine T.Th (aK5 _) hj fun i oi _ uW hoi hd => ?_
    have VD:ops.toList[i]? = some oi:=by simpa using hoi
    exact(aiS i ((hw i oi VD hd).2 uW)).elim
   rw[e]
   exact h.env t
  ·rw[e1]
   refine⟨fun _ _ h=>h,fun b l hb hn=>(by rw[hb] at hn;cases hn),aKB _,fun _ _ _=>rfl,rfl,rfl,rfl⟩
 |
  false =>
  apply wp_region
  have key:∀d i,ops.size-i=d→i≤ops.size→∀m1 a1 w1,Lx n L0 m1 (st i).1 (st i).2 a1 w1→L0≤(st i).2.length→(∀b,(st i).2.length≤b→b<H'.length→m1 b=none) →
    (∀m' a' w',Lx n L0 m' aQ H' a' w'→Trans lo m1 (st i).2 w1 m' H' w'→Q .normal a' w')→wpOps P ops Q ((aKx ops.size).drop i) a1 w1:=by
   intro d
   induction d with
   |
    zero =>
    intro i hd hi m1 a1 w1 h1 _ _ hQ1
    have:i=ops.size:=by omega
    subst this
    rw[List.drop_eq_nil_of_le (by simp)]
    rw[hsn] at h1 hQ1
    exact hQ1 m1 a1 w1 h1 (Trans.refl _ _ _ _)
   |
    succ d ih =>
    intro i hd hi m1 a1 w1 h1 CU hf1 hQ1
    have bI:i<ops.size:=by omega
    rw[List.drop_eq_getElem_cons (by simpa using bI),wpOps_cons]
    have ho:ops.toList[i]? = some ops[i]:=by simp[bI]
    obtain⟨p,pi,hp1,hp2,ayZ,_,hdr⟩:=GX.each i _ ho
    have Cu:=wU i pi hp2
    obtain⟨v,hv1,hv2⟩:=Be Cu
    have hq:pi.quiet=false:=(hdr rfl).1
    have hE1:=KR uX Cu
    have hE2:Ext lo (st (i+1)).2 H':=by
     have:∀d j,ops.size-j=d→j≤ops.size→Ext lo (st j).2 H':=by
      intro d
      induction d with
      | zero =>
        intro j hd hj;have:j=ops.size:=by omega
        subst this;rw[hsn];exact Ext.refl _ _
      |
       succ d ih =>
       intro j hd hj
       have hjl:j<xE.length:=by omega
       exact(KR uX (wU j xE[j] (aKI hjl))).trans (ih (j+1) (by omega) (by omega))
     exact this _ (i+1) rfl bI
    have Hl:(aKx ops.size)[i]'(by simpa using bI)=i:=by simp
    rw[Hl]
    refine S4 (by simp[bI]) ayZ (fun h=>by rw[hq] at h;cases h) hv1 (fun t _=>h1.env t) h1.rel dS CU (fun b GZ hb2=>hf1 b GZ (aKD hb2 hE2.len)) qV fun m' rv w' X5 hR hT => ?_
    rw[hq] at hT
    simp only[aLd,if_false] at hT
    refine ih (i+1) (by omega) bI m' _ w' ⟨by rw[Km];exact h1.J0,by rw[I9];exact h1.defs,fun t => ?_,hR⟩ (aKC CU hE1.len) (hT.fresh hE1.len hf1) fun m2 a2 w2 h2 RU=>hQ1 m2 a2 w2 h2 (Trans.trans hf1 hE1 hE2 hT RU)
    rw[hv2,ayZ.dst]
    cases hd:ops[i].dst with
    | none=>exact(h1.env t).mono hT.ext
    |
     some d =>
     rw[Wj (by rw[h1.J0];exact ayZ.bound d hd)]
     show RV m' (if t=d then v else (st i).1 t) _
     by_cases e:t=d
     ·rw[if_pos e,if_pos e];exact X5
     ·rw[if_neg e,if_neg e];exact(h1.env t).mono hT.ext
  have:=key ops.size 0 (by omega) (aK5 _) m a w (by rw[hs0];exact h) (by rw[hs0];exact hlen) (by rw[hs0];exact hf) (by rw[hs0];exact hQ)
  simpa using this
end
end Go.PM