/- Texts of a claim, in one: part 2. -/
import Derived.LoopN
import Derived.Test.YtjmflicajplclaaGreatDoorKCa
open Array renaming getElem?_eq_none → aLb,getElem?_eq_some_iff → aKG,range → aK0,toList_inj → aKN
open Bool renaming and_eq_true → aK5,false_eq_true → aK9,or_eq_true → aLa
open Function renaming comp_def → aKM
open List renaming all_eq_true → aKL,eq_nil_of_length_eq_zero → aKD,getD_eq_getElem?_getD → aKu,getElem?_append_left → aKO,getElem?_eq_getElem → aKE,getElem?_eq_some_iff → aKw,getElem?_set_ne → aKW,mem_cons_of_mem → aK6,mem_cons_self → aK7,mem_range → aK8,range → aKt
open Nat renaming add_mul → aK2,le_mul_of_pos_right → aK3,le_of_lt → aLe,le_refl → aKx,le_trans → aKy,lt_of_lt_of_le → aKz,lt_or_ge → aKA,lt_trichotomy → aLd,min → aK4,mod_lt → aKZ,mul_le_mul_right → aKY,zero_le → aK1
open Option renaming isSome_none → aLc
set_option linter.unusedSimpArgs false
set_option linter.unusedVariables false
namespace Go.PM
section
variable {P:Program} {m:dM} {L0:Nat} {H:aI} {w:World}
theorem RL.const {zs:List Value} (h:zs.all mX=true):RL m zs zs :=
 ⟨rfl,fun j hj=>by
  have:=RV.const (m:=m) (aKL.1 h _ (List.getElem_mem hj))
  simpa[aKu,aKE hj] using this⟩
theorem yW (n:Nat) (zs:List Value):(dF n zs).length=n*zs.length:=by simp[dF]
theorem Ay (n:Nat) {zs:List Value} (h:zs.all mX=true) (h0:1≤zs.length):RL m (dF n zs) (dF n zs):=by
 refine⟨rfl,fun i hi => ?_⟩
 rw[yW] at hi
 have bH:i % zs.length<zs.length:=aKZ _ h0
 have e:(dF n zs).getD i undef=zs.getD (i % zs.length) undef:=by simp[dF,aKu,hi]
 rw[e]
 exact(RL.const h).2 _ bH
theorem VD (n:Nat) {zs:List Value} (h:zs.all iP=true) (h0:1≤zs.length):(dF n zs).all iP=true:=by
 rw[aKL]
 intro x hx
 obtain⟨i,_,rfl⟩:=List.mem_map.1 hx
 have bH:i % zs.length<zs.length:=aKZ _ h0
 have:=aKL.1 h _ (List.getElem_mem bH)
 simpa[aKu,aKE bH] using this
theorem Mw (z:Array Value) (n:Nat) (h0:1≤z.size):(madeCells z (n*z.size)).toList=dF n z.toList:=by
 apply List.ext_getElem
 ·simp[madeCells,dF]
 ·intro i h1 h2
  have bH:i % z.size<z.size:=aKZ _ h0
  simp[madeCells,dF,bH]
theorem JI (z:Array Value) (n:Nat) (h0:1≤z.size):(Builtin.zeroCells z n).toList=dF n z.toList:=by
 apply List.ext_getElem
 ·simp[Builtin.zeroCells,dF]
 ·intro i h1 h2
  have bH:i % z.size<z.size:=aKZ _ h0
  simp[Builtin.zeroCells,dF,bH]
theorem ahV {t:TypeId} {agg:Bool} {size nb lo:Nat} {z:List Value} (ht:oI P t=some (agg,size,z,nb)) (Km:z.all iP=true) (NJ:z.all mX=true) (hR:Rel m L0 H w) (hf:m H.length=none) :
  cS P (do pure (.value (←Instr.alloc t true (.tuple #[])))) L0 lo m H w (.pointer (some ⟨H.length,0,none⟩)) (H++[.row z z.length false]):=by
 obtain⟨i,d,zz,hi,hd,KM,rfl,rfl,rfl,rfl⟩:=kJ ht
 have sS:(Instr.alloc t true (.tuple #[])).run P w = .ok (.pointer (some ⟨w.heap.size,0,none⟩)) (w.alloc (.cells zz.cells t)):=by
  simp[Instr.alloc,zeroValue,typeInfo,hi,KM,newVar,newRow]
 have hA:=AQ hR hf (w':=w.alloc (.cells zz.cells t)) (arr:=zz.cells) (e:=t) (fz:=(0,0)) rfl ⟨rfl,rfl,rfl⟩ (cs:=aV zz) (gR:=(aV zz).length) (Wk:=false)
  (by rw[fR];exact aKx _) (fun i hi=>by
   have:=(RL.const (m:=m) NJ).2 i hi
   rwa [←Cf,iA]) Km (fun j _ h=>by simp at h)
 exact cS.value sS (.ptr _ 0 _ (cC m _ _)) hA.1 (hA.2 lo)
theorem aiY {t:TypeId} {v r:Value} {lo:Nat} (hv:RV m v r) (hs:(aV v).all iP=true) (hR:Rel m L0 H w) (hf:m H.length=none) :
  cS P (do pure (.value (←Instr.box t r))) L0 lo m H w (.pointer (some ⟨H.length,0,none⟩)) (H++[.row (aV v) (aV v).length false]):=by
 have sS:(Instr.box t r).run P w = .ok (.pointer (some ⟨w.heap.size,0,none⟩)) (w.alloc (.cells r.cells t)):=by
  simp[Instr.box,newVar,newRow]
 have hA:=AQ hR hf (w':=w.alloc (.cells r.cells t)) (arr:=r.cells) (e:=t) (fz:=(0,0)) rfl ⟨rfl,rfl,rfl⟩ (cs:=aV v) (gR:=(aV v).length) (Wk:=false)
  (by rw[fR,hv.aV.1];exact aKx _) (fun i hi=>by
   have:=hv.aV.2 i hi
   rwa [←Cf,iA]) hs (fun j _ h=>by simp at h)
 exact cS.value sS (.ptr _ 0 _ (cC m _ _)) hA.1 (hA.2 lo)
theorem abY {t:TypeId} {agg:Bool} {size nb lo:Nat} {z:List Value} {kl kc:IntKind} {l c:Int} (ht:lP P t=some (agg,size,z,nb)) (Km:z.all iP=true) (NJ:z.all mX=true) (hzs:size=z.length) (Cy:1≤size)
  (hl:0≤l) (hlc:l≤c) (hb:c*nb≤281474976710656) (hc:c≤9223372036854775807) (hR:Rel m L0 H w) (hf:m H.length=none) :
  cS P (do pure (.value (←Instr.makeSlice t (.int kl l) (.int kc c)))) L0 lo m H w (.slice (some ⟨H.length,0,none⟩) l.toNat c.toNat) (H++[.row (dF c.toNat z) z.length false]):=by
 obtain⟨e,hu,Mb⟩:=lC ht
 obtain⟨i,d,zz,hi,hd,KM,rfl,rfl,rfl,rfl⟩:=kJ Mb
 have sS:=run_make (P:=P) w t e i zz hu hi KM kl kc l c hl hlc (by rw[Int.mul_comm];exact hb) hc
 have E4:i.size=zz.cells.size:=by rw[hzs,fR]
 rw[E4] at sS Cy
 have rM:(madeCells zz.cells (c.toNat*zz.cells.size)).toList=dF c.toNat (aV zz):=by rw[Mw _ _ Cy,iA]
 have aAX:(madeCells zz.cells (c.toNat*zz.cells.size)).size=c.toNat*(aV zz).length:=by rw[size_madeCells,fR]
 have acK:1≤(aV zz).length:=by rw[←fR];exact Cy
 have hA:=AQ hR hf (w':=w.alloc (.cells (madeCells zz.cells (c.toNat*zz.cells.size)) e)) (arr:=madeCells zz.cells (c.toNat*zz.cells.size)) (e:=e) (fz:=(0,0)) rfl ⟨rfl,rfl,rfl⟩
  (cs:=dF c.toNat (aV zz)) (gR:=(aV zz).length) (Wk:=false) (by rw[aAX,yW];exact aKx _) (fun j hj=>by
   have:=(Ay (m:=m) c.toNat NJ acK).2 j hj
   rwa [←Cf,rM]) (VD _ Km acK) (fun j _ h=>by simp at h)
 refine cS.value sS ?_ hA.1 (hA.2 lo)
 exact .slice _ 0 _ _ _ _ _ (cC m _ _) (by omega) (aKx _) (fun _=>rfl) (.inr ⟨rfl,by simp only[aAX];omega⟩)
theorem anW {t:TypeId} {agg:Bool} {size nb lo n:Nat} {z cs:List Value} {parts:List (Nat×Operand)} {ρ:Env} {a:Act} (ht:lP P t=some (agg,size,z,nb)) (Km:z.all iP=true) (NJ:z.all mX=true) (hzs:size=z.length) (Cy:1≤size) (hn:n*size≤16777216)
  (auZ:Au ((aKt n).map fun i=>(i*z.length,z.length)) (dF n z) (parts.map fun(i,x)=>(i,ev ρ x))=some cs) (EI:cs.all iP=true) (hr:∀p∈parts,RV m (ev ρ p.2) (a.eval p.2))
  (hR:Rel m L0 H w) (hf:m H.length=none) :
  cS P (do pure (.value (←Instr.buildSlice t n (parts.toArray.map fun(i,x)=>(i,a.eval x))))) L0 lo m H w (.slice (some ⟨H.length,0,none⟩) n n) (H++[.row cs z.length false]):=by
 obtain⟨e,hu,Mb⟩:=lC ht
 obtain⟨i,d,zz,hi,hd,KM,rfl,rfl,rfl,rfl⟩:=kJ Mb
 have E4:i.size=zz.cells.size:=by rw[hzs,fR]
 have acK:1≤(aV zz).length:=by rw[←fR,←E4];exact Cy
 have Qa:∀j q,((aKt n).map fun i=>(i*(aV zz).length,(aV zz).length))[j]? = some q→(fun i'=>some (i'*i.size,i.size):Nat→Option (Nat×Nat)) j=some q:=by
  intro j q hj
  simp only[List.getElem?_map,Option.map_eq_some_iff] at hj
  obtain⟨k,hk,rfl⟩:=hj
  have hk':=(aKw.1 hk)
  obtain⟨hk1,Yj⟩:=hk'
  simp at Yj
  subst Yj
  rw[←hzs]
 have hz:RL m (dF n (aV zz)) ((aK0 (n*i.size)).map (zz.cells[· % zz.cells.size]!)).toList:=by
  have:=Ay (m:=m) n NJ acK
  rw[E4]
  have e1:=Mw zz.cells n (by rw[←E4];exact Cy)
  rw[iA] at e1
  show RL m _ (madeCells zz.cells (n*zz.cells.size)).toList
  rw[e1]
  exact this
 obtain⟨NQ,h1,h2⟩:=WJ (m:=m) _ _ Qa (parts.map fun(i,x)=>(i,ev ρ x)) (parts.map fun(i,x)=>(i,a.eval x)) _ _ cs
  (by simp[aKM]) (by simpa[aKM] using RL.map (l:=parts) (f:=fun p=>ev ρ p.2) (g:=fun p=>a.eval p.2) hr) hz auZ
 have hlen:cs.length=n*(aV zz).length:=by rw[SL _ _ _ _ auZ,yW]
 have emap:(Array.map (fun x:Nat×Operand=>(x.1,a.eval x.2)) parts.toArray).toList=parts.map fun(i,x)=>(i,a.eval x):=by simp
 have Xl:¬(2^24<n*i.size):=by omega
 have sS:(Instr.buildSlice t n (parts.toArray.map fun(i,x)=>(i,a.eval x))).run P w = .ok (.slice (some ⟨w.heap.size,0,none⟩) n n) (w.alloc (.cells NQ e)):=by
  have h1':Instr.fill (fun i'=>some (i'*i.size,i.size)) ((aK0 (n*i.size)).map (zz.cells[· % zz.cells.size]!)) (Array.map (fun x:Nat×Operand=>(x.1,a.eval x.2)) parts.toArray).toList=some NQ:=by rw[emap];exact h1
  by_cases hn0:n*i.size=0
  ·rw[hn0] at h1'
   simp only[show ∀f:Nat→Value,(aK0 0).map f = #[] from fun f=>by simp] at h1'
   unfold Instr.buildSlice
   simp only[Sem.run_bind,run_underlying hu,Result.andThen_ok,run_sizeOf e i hi,hn0,if_true,Sem.run_pure,show ¬(0>2^24) by omega,if_false]
   rw[show ∀f:Nat→Value,(aK0 0).map f = #[] from fun f=>by simp]
   simp only[h1']
   simp[newRow]
  ·unfold Instr.buildSlice
   simp only[Sem.run_bind,run_underlying hu,Result.andThen_ok,run_sizeOf e i hi,hn0,if_false,Sem.run_pure,gt_iff_lt,Xl,zeroValue,typeInfo,run_program,hi,KM]
   simp only[h1']
   simp[newRow]
 have hrs:NQ.size=n*(aV zz).length:=by rw[←hlen];simpa using h2.1.symm
 have hA:=AQ hR hf (w':=w.alloc (.cells NQ e)) (arr:=NQ) (e:=e) (fz:=(0,0)) rfl ⟨rfl,rfl,rfl⟩ (cs:=cs) (gR:=(aV zz).length) (Wk:=false)
  (by rw[hlen,hrs];exact aKx _) (fun j hj=>by rw[←Cf];exact h2.2 j hj) EI (fun j _ h=>by simp at h)
 refine cS.value sS ?_ hA.1 (hA.2 lo)
 exact .slice _ 0 _ _ _ _ _ (cC m _ _) (aKx _) (aKx _) (fun _=>rfl) (.inr ⟨rfl,by simp only[hrs];omega⟩)
theorem Xg (g:Value→ByteArray→Sem (ForInStep ByteArray)) (hg:∀n s,g (.int .u8 n) s=pure (ForInStep.yield (s.push (UInt8.ofNat n.toNat)))):∀(cs rs:List Value) (bs:List UInt8) (acc:ByteArray),RL m cs rs→xP cs=some bs→∀w,
  (forIn rs acc g).run P w = .ok ⟨(acc.data.toList++bs).toArray⟩ w:=by
 intro cs
 induction cs with
 |
  nil =>
  intro rs bs acc hr hb w
  have e0:rs=[]:=aKD hr.1.symm
  subst e0
  cases hb
  simp
 |
  cons c cs ih =>
  intro rs bs acc hr hb w
  cases rs with
  | nil=>exact absurd hr.1 (by simp)
  |
   cons r rs =>
   obtain⟨hc,PO⟩:=hr.lW
   unfold xP at hb
   split at hb
   ·rename_i heq;cases heq
   ·rename_i n rest heq
    cases heq
    cases hc
    cases h2:xP cs with
    | none=>rw[h2] at hb;cases hb
    |
     some bs' =>
     rw[h2] at hb
     cases hb
     simp only[List.forIn_cons,hg,Sem.run_bind,Sem.run_pure,Result.andThen_ok]
     rw[ih rs bs' _ PO h2 w]
     simp[ByteArray.push]
   ·cases hb
theorem anU {s d e:TypeId} {rp:Value} {lo n b off c:Nat} {cs:List Value} {bs:List UInt8} (hs:P.underlying s=some (.slice e)) (hd:P.underlying d=some .string) (he:P.underlying e=some (.int .u8))
  (HQ:H.read b off n=some cs) (hb:xP cs=some bs) (hR:Rel m L0 H w) (hp:RV m (.slice (some ⟨b,off,none⟩) n c) rp) :
  cS P (do pure (.value (←convert s d rp))) L0 lo m H w (.string ⟨bs.toArray⟩) H:=by
 cases hp with
 |
  slice _ _ _ _ l ra rc hm hn hc hx ha =>
  obtain⟨rs,h1,h2,_,h3⟩:=Bk hR hm HQ
  have aA4:(loadCells ra n).run P w = .ok rs.toArray w:=by
   rcases ha with ha | ⟨rfl,ha⟩
   ·have h0:n=0:=by omega
    subst h0
    have e0:rs=[]:=aKD h2
    subst e0
    rfl
   ·rw[←h2]
    exact run_loadCells_list w _ rs h3
  refine cS.value (rv := .string ⟨bs.toArray⟩) (w':=w) (m':=m) ?_ (.str _) hR (Trans.refl lo m H w)
  simp only[convert,Sem.run_bind,run_underlying hs,run_underlying hd,Result.andThen_ok,run_underlying he,Conv.bytesToString,aA4,←Array.forIn_toList]
  rw[Xg (P:=P) (m:=m) _ (fun n s=>rfl) cs rs bs ByteArray.empty h1 hb w]
  simp
theorem R3 {t e:TypeId} {i:TypeInfo} (hu:P.underlying t=some (.slice e)) (hi:P.info? e=some i) {a:Option Addr} {n c:Nat} {lo qI mx:Option Value} {l h k:Nat}
  (hb:(Instr.sliceBounds true n c lo qI mx).run P w = .ok (l,h,k) w) :
  (Instr.sliceAt t (.slice a n c) lo qI mx).run P w = .ok (.slice (if k=l then a else a.map (·.add (l*i.size))) (h-l) (k-l)) w:=by
 have h1:(Instr.sliceAt t (.slice a n c) lo qI mx).run P w=(Instr.slice t (.slice a n c) lo qI mx).run P w:=by
  unfold Instr.sliceAt
  rw[Sem.run_bind,run_underlying hu,Result.andThen_ok]
 rw[h1]
 unfold Instr.slice
 rw[Sem.run_bind,run_underlying hu,Result.andThen_ok]
 simp[hb,run_sizeOf e i hi]
theorem akS {t e:TypeId} {i:TypeInfo} {lo:Nat} {x rx v:Value} {l h mx l' h' mx':Option Value} {H':aI} (hu:P.underlying t=some (.slice e)) (hi:P.info? e=some i)
  (hs:Fc i.size x l h mx H=some (v,H')) (hx:RV m x rx) (hl:RO m l l') (hh:RO m h h') (hm:RO m mx mx') (hR:Rel m L0 H w) (hf:∀b,H.length≤b→b<H'.length→m b=none) :
  cS P (do pure (.value (←Instr.sliceAt t rx l' h' mx'))) L0 lo m H w v H':=by
 unfold Fc at hs
 split at hs
 ·rename_i n c
  split at hs
  ·rename_i h0
   obtain⟨rfl,rfl⟩:=h0
   cases hx
   split at hs
   ·cases hs
   ·rename_i M hM
    split at hs
    ·cases hs
    ·rename_i hb hhb
     split at hs
     ·cases hs
     ·rename_i lb Hy
      cases hs
      have key:∃k1 k2 k3,(Instr.sliceBounds true 0 0 l' h' mx').run P w = .ok (k1,k2,k3) w∧k1=0∧k2=0∧k3=0:=by
       rcases rE (P:=P) hM hm with⟨rfl,rfl,e1⟩ | ⟨_,r1,rfl,rfl,q1,e1⟩<;>rcases rE (P:=P) hhb hh with⟨_,rfl,e2⟩ | ⟨_,r2,_,rfl,q2,e2⟩<;>rcases rE (P:=P) Hy hl with⟨_,rfl,e3⟩ | ⟨_,r3,_,rfl,q3,e3⟩
       ·cases e1;cases e2;cases e3
        exact⟨0,0,0,rfl,rfl,rfl,rfl⟩
       ·cases e1;cases e2
        exact⟨lb,0,0,by simp[Instr.sliceBounds,e3 0 (aKx _)],by omega,rfl,rfl⟩
       ·cases e1;cases e3
        exact⟨0,hb,0,by simp[Instr.sliceBounds,e2 0 (aKx _)],rfl,by omega,rfl⟩
       ·cases e1
        exact⟨lb,hb,0,by simp[Instr.sliceBounds,e2 0 (aKx _),e3 hb (aKx _)],by omega,by omega,rfl⟩
       ·cases e2
       ·cases e2
       ·cases e3
        exact⟨0,hb,M,by simp[Instr.sliceBounds,e1 0 (aKx _),e2 M (aKx _)],rfl,by omega,by omega⟩
       ·exact⟨lb,hb,M,by simp[Instr.sliceBounds,e1 0 (aKx _),e2 M (aKx _),e3 hb (aKx _)],by omega,by omega,by omega⟩
      obtain⟨k1,k2,k3,hk,rfl,rfl,rfl⟩:=key
      exact cS.value (R3 hu hi hk) (by simpa using RV.Nc) hR (Trans.refl lo m H w)
  ·cases hs
 ·rename_i b o n c
  cases hx with
  |
   slice _ _ _ _ lc ra rc Ye hnc hcr hxp ha =>
   split at hs
   ·rename_i cells es p Zu
    obtain⟨g1,g2,g3,g4⟩:=hR.row b lc cells es p Ye Zu
    split at hs
    ·rename_i QC
     subst QC
     split at hs
     ·cases hs
     ·rename_i M hM
      split at hs
      ·cases hs
      ·rename_i hb hhb
       split at hs
       ·cases hs
       ·rename_i lb Hy
        have key:∃k3,(Instr.sliceBounds true n rc l' h' mx').run P w = .ok (lb,hb,k3) w∧lb≤hb∧hb≤M∧M≤c∧((mx=none∧k3=rc∧M=c)∨(mx.isSome=true∧k3=M)):=by
         rcases rE (P:=P) hM hm with⟨rfl,rfl,e1⟩ | ⟨_,r1,rfl,rfl,q1,e1⟩<;>rcases rE (P:=P) hhb hh with⟨_,rfl,e2⟩ | ⟨_,r2,_,rfl,q2,e2⟩<;>rcases rE (P:=P) Hy hl with⟨_,rfl,e3⟩ | ⟨_,r3,_,rfl,q3,e3⟩
         ·cases e1;cases e2;cases e3
          exact⟨rc,rfl,aK1 _,hnc,aKx _,.inl ⟨rfl,rfl,rfl⟩⟩
         ·cases e1;cases e2
          exact⟨rc,by simp[Instr.sliceBounds,e3 n (aKx _)],q3,hnc,aKx _,.inl ⟨rfl,rfl,rfl⟩⟩
         ·cases e1;cases e3
          exact⟨rc,by simp[Instr.sliceBounds,e2 rc hcr],aK1 _,q2,aKx _,.inl ⟨rfl,rfl,rfl⟩⟩
         ·cases e1
          exact⟨rc,by simp[Instr.sliceBounds,e2 rc hcr,e3 hb (aKx _)],q3,q2,aKx _,.inl ⟨rfl,rfl,rfl⟩⟩
         ·cases e2
         ·cases e2
         ·cases e3
          exact⟨M,by simp[Instr.sliceBounds,e1 rc hcr,e2 M (aKx _)],aK1 _,q2,q1,.inr ⟨rfl,rfl⟩⟩
         ·exact⟨M,by simp[Instr.sliceBounds,e1 rc hcr,e2 M (aKx _),e3 hb (aKx _)],q3,q2,q1,.inr ⟨rfl,rfl⟩⟩
        obtain⟨k3,hk,hlh,hhM,hMc,Pd⟩:=key
        have sS:=R3 (a:=some ra) hu hi hk
        have place:k3-lb=0∨((if k3=lb then some ra else (some ra).map (·.add (lb*i.size)))=some (⟨lc.rb,lc.base+(o+lb*i.size),none⟩:Addr)∧lc.base+(o+lb*i.size)+(k3-lb)*lc.gR≤lc.SQ):=by
         by_cases hz:k3-lb=0
         ·exact .inl hz
         ·right
          have hk3:k3≤rc:=by rcases Pd with⟨_,rfl,_⟩ | ⟨_,rfl⟩<;>omega
          rcases ha with ha | ⟨rfl,ha⟩
          ·omega
          ·rw[if_neg (by omega)]
           refine⟨by simp[Addr.add_lit,Nat.add_assoc],?_⟩
           rw[g1] at ha ⊢
           have e1:(k3-lb)*i.size=k3*i.size-lb*i.size:=Nat.sub_mul _ _ _
           have e2:lb*i.size≤k3*i.size:=aKY _ (by omega)
           have e3:k3*i.size≤rc*i.size:=aKY _ hk3
           omega
        obtain⟨ra',aAS⟩:∃ra',(if k3=lb then some ra else (some ra).map (·.add (lb*i.size)))=some ra':=by split<;>exact⟨_,rfl⟩
        rw[aAS] at sS
        have awI:k3-lb=0∨(ra'=⟨lc.rb,lc.base+(o+lb*i.size),none⟩∧lc.base+(o+lb*i.size)+(k3-lb)*lc.gR≤lc.SQ):=by
         rcases place with hp | ⟨hp1,hp2⟩
         ·exact .inl hp
         ·rw[aAS] at hp1
          exact .inr ⟨by injection hp1,hp2⟩
        split at hs
        ·rename_i aFD
         cases hs
         obtain⟨aCc,hMl⟩:=aFD
         rcases Pd with⟨rfl,_⟩ | ⟨_,rfl⟩
         ·cases aCc
         ·have hA:=aeX hR (hf H.length (aKx _) (by simp)) Ye i.size
          refine cS.value (rv := .slice (some ra') 0 0) (by rw[sS];congr 2<;>omega) ?_ hA.1 (hA.2 lo)
          exact .slice _ 0 0 0 _ _ 0 (cC m _ _) (aKx _) (aKx _) (fun _=>rfl) (.inl rfl)
        ·cases hs
         refine cS.value sS ?_ hR (Trans.refl lo m H w)
         refine .slice b _ _ _ lc _ _ Ye (by omega) ?_ ?_ awI
         ·rcases Pd with⟨_,rfl,rfl⟩ | ⟨_,rfl⟩<;>omega
         ·intro ho
          have:=hxp ho
          rcases Pd with⟨_,rfl,rfl⟩ | ⟨_,rfl⟩<;>omega
    ·cases hs
   ·cases hs
 ·cases hs
end
end Go.PM
namespace Go.PM
section
variable {P:Program} {m:dM} {L0:Nat} {H:aI} {w:World}
theorem XF {t:TypeId} {i:TypeInfo} {lo b o:Nat} {v r rp:Value} {H':aI} (hi:P.info? t=some i) (hp:RV m (.pointer (some ⟨b,o,none⟩)) rp) (hv:RV m v r) (hs:(aV v).length=i.size)
  (hw:H.write lo b o (aV v)=some H') (hR:Rel m L0 H w) (dR:L0≤lo) :
  cS P (do Instr.storeAt t rp r;pure .skip) L0 lo m H w undef H':=by
 cases hp with
 |
  ptr _ _ l hm =>
  obtain⟨w',s1,s2,s3⟩:=Gw P hR dR hm hw hv.aV
  refine⟨undef,w',m,.inr ⟨?_,rfl⟩,RV.undef m,s2,s3⟩
  have E4:r.cells.size=i.size:=by rw[fR,←hv.aV.1,hs]
  have h1:(Instr.storeAt t (.pointer (some ⟨l.rb,l.base+o,none⟩)) r).run P w = .ok () w':=by
   show (storeVar t ⟨l.rb,l.base+o,none⟩ r).run P w=_
   unfold storeVar
   simp only[Sem.run_bind,run_sizeOf t i hi,Result.andThen_ok,E4,ne_eq,not_true_eq_false,if_false,iA]
   exact s1
  rw[Sem.run_bind,h1]
  rfl
theorem Ku {pv rv:Value} {k:Nat} (h:wT pv=some k) (hr:RV m pv rv):Builtin.lenOf rv=pure k:=by
 unfold wT at h
 split at h
 ·cases h;cases hr<;>rfl
 ·cases h;cases hr;rfl
 ·cases h
theorem EE (a b:Array Value) (xs:List Value) (h:a.toList=xs) (i:Nat) (hi:i<xs.length):(a++b).getD i undef=xs.getD i undef:=by
 subst h
 have:i<a.size:=by simpa using hi
 simp[Array.getD_eq_getD_getElem?,Array.getElem?_append_left this,aKu]
theorem alJ {t u ty:TypeId} {agg:Bool} {size bytes lo k:Nat} {z:List Value} {d:TypeDesc} {x y rx ry v:Value} {new:List Value} {H':aI} (ht:lP P t=some (agg,size,z,bytes)) (hu:P.underlying u=some d) (hd:N3 d=true)
  (hk:wT y=some k) (Dt:lA H size k y=some new) (xH:fL lo size bytes x k new H=some (v,H')) (hx:RV m x rx) (hy:RV m y ry) (hzs:size=z.length)
  (hR:Rel m L0 H w) (dR:L0≤lo) (hf:∀b,H.length≤b→b<H'.length→m b=none) :
  cS P (do pure (.value (←Builtin.append_ #[t,u] ty #[rx,ry]))) L0 lo m H w v H':=by
 obtain⟨e,Mb,Tg⟩:=lC ht
 obtain⟨i,de,zz,hi,_,KM,rfl,rfl,rfl,rfl⟩:=kJ Tg
 obtain⟨tD,h1,h2,h3⟩:=Mm Dt hk (aKx _) hR hy
 have hl:=Ku hk hy
 have GX:1≤i.bytes:=by
  unfold fL at xH
  split at xH
  ·rename_i h;exact h.1
  ·cases xH
 have hnl:new.length=k*i.size:=by
  unfold fL at xH
  split at xH
  ·rename_i h;exact h.2.2.2
  ·cases xH
 obtain⟨rv,w',m',g1,g2,g3,g4⟩:=LD (P:=P) (s:=Builtin.append_ #[t,u] ty #[rx,ry]) (e:=e) xH hR dR hx h1 hf
  (fun a n c w' MR E1 vZ=>by
   subst MR
   exact So Mb hu hd hi hl (h3 w rfl) E1 vZ)
  (fun MR hk0=>by
   subst MR
   subst hk0
   exact Un Mb hu hd hi hl (h3 w rfl))
  (fun base n c Fe MR hfo hJ hg hb=>by
   subst MR
   refine⟨grownCap w (n+k) c e,_,grownCap_ge w _ _ _,S8 Mb hu hd hi KM hl hfo (h3 w.drew rfl) hg GX hb,?_,?_⟩
   ·have Hj:=grownCap_ge w (n+k) c e
    have BY:tD.length=k*i.size:=by rw[←h1.1,hnl]
    simp only[Array.size_append,List.size_toArray,size_zeroCells,hJ,BY]
    rw[←fR] at hzs
    rw[←hzs,←aK2,←aK2]
    congr 1
    omega
   ·intro j hj
    exact EE _ _ _ (by simp) j hj)
 exact cS.value g1 g2 g3 g4
section
variable {t u ty e:TypeId} {ku:IntKind} {i:TypeInfo} {zz:Value} {k:Nat}
theorem JY {k:Nat} (h:k≤140737488355328):IntKind.i64.wrap (k:Int)=(k:Int):=by rw[IntKind.wrap_i64];omega
theorem Qn (ht:P.underlying t=some (.slice e)) (hu:P.underlying u=some (.int ku)) (hi:P.info? e=some i) (KM:i.zero=some zz) (hk:k≤140737488355328) (IU:k*i.bytes≤140737488355328)
  {a:Addr} {n c:Nat} {w':World} (E1:n+k≤c) (hz:k*i.size=0→Builtin.zeroCells zz.cells k = #[]) (vZ:(storeCells (a.add (n*i.size)) (Builtin.zeroCells zz.cells k).toList).run P w = .ok () w') :
  (Builtin.append_ #[t,u] ty #[.slice (some a) n c,.int .i64 k]).run P w = .ok (.slice (some a) (n+k) c) w':=by
 have h0:¬((k:Int)<0):=by omega
 have hb:¬(281474976710656<(k:Int)*(i.bytes:Int)):=by rw[←Int.natCast_mul];omega
 by_cases Cy:k*i.size=0
 ·rw[hz Cy] at vZ
  simp[Builtin.append_,run_underlying ht,run_underlying hu,run_sizeOf e i hi,asInt,asIntOf,JY hk,typeInfo,hi,h0,hb,E1,Cy,vZ]
 ·simp[Builtin.append_,run_underlying ht,run_underlying hu,run_sizeOf e i hi,asInt,asIntOf,JY hk,typeInfo,hi,h0,hb,E1,Cy,zeroValue,KM,vZ]
theorem SE (ht:P.underlying t=some (.slice e)) (hu:P.underlying u=some (.int ku)) (hi:P.info? e=some i) :
  (Builtin.append_ #[t,u] ty #[.slice none 0 0,.int .i64 (0:Nat)]).run P w = .ok (.slice none 0 0) w:=by
 have hw:IntKind.i64.wrap 0=0:=rfl
 simp[Builtin.append_,run_underlying ht,run_underlying hu,run_sizeOf e i hi,asInt,asIntOf,hw,typeInfo,hi]
theorem Qy (ht:P.underlying t=some (.slice e)) (hu:P.underlying u=some (.int ku)) (hi:P.info? e=some i) (KM:i.zero=some zz) (hk:k≤140737488355328) (IU:k*i.bytes≤140737488355328)
  {base:Option Addr} {n c:Nat} {Fe:List Value} (hfo:(Builtin.firstCells i.size n (.slice base n c)).run P w.drew = .ok Fe.toArray w.drew) (hz:k*i.size=0→Builtin.zeroCells zz.cells k = #[])
  (hg:c<n+k) (GX:1≤i.bytes) (Pp:(n+k)*i.bytes≤140737488355328) :
  (Builtin.append_ #[t,u] ty #[.slice base n c,.int .i64 k]).run P w = .ok (.slice (some ⟨w.heap.size,0,none⟩) (n+k) (grownCap w (n+k) c e))
   (w.drew.alloc (.cells (Fe.toArray++Builtin.zeroCells zz.cells k++Builtin.zeroCells zz.cells (grownCap w (n+k) c e-(n+k))) e)):=by
 have xB:=growslice_fits (bytes:=i.bytes) hg Pp
 have h0:¬((k:Int)<0):=by omega
 have hb:¬(281474976710656<(k:Int)*(i.bytes:Int)):=by rw[←Int.natCast_mul];omega
 have h1:¬(n+k≤c):=by omega
 have h2:¬(281474976710656<Builtin.nextslicecap (n+k) c*i.bytes):=by omega
 have h4:n+k≤140737488355328:=aKy (aK3 _ GX) Pp
 have h3:¬(9223372036854775807<(n:Int)+(k:Int)):=by omega
 by_cases Cy:k*i.size=0
 ·have e0:=hz Cy
  simp[Builtin.append_,run_underlying ht,run_underlying hu,run_sizeOf e i hi,asInt,asIntOf,JY hk,typeInfo,hi,h0,hb,h1,h2,h3,e0,zeroValue,KM,Question.forced,hfo,newRow,grownCap]
 ·simp[Builtin.append_,run_underlying ht,run_underlying hu,run_sizeOf e i hi,asInt,asIntOf,JY hk,typeInfo,hi,h0,hb,h1,h2,h3,Cy,zeroValue,KM,Question.forced,hfo,newRow,grownCap]
end
theorem adY {t u ty:TypeId} {agg:Bool} {size bytes lo:Nat} {z:List Value} {ku:IntKind} {n:Int} {x rx v:Value} {H':aI} (ht:lP P t=some (agg,size,z,bytes)) (hu:P.underlying u=some (.int ku))
  (hn:0≤n∧n*bytes≤140737488355328) (xH:fL lo z.length bytes x n.toNat (dF n.toNat z) H=some (v,H')) (hx:RV m x rx) (hzs:size=z.length) (Km:z.all iP=true) (NJ:z.all mX=true) (Cy:1≤z.length)
  (hR:Rel m L0 H w) (dR:L0≤lo) (hf:∀b,H.length≤b→b<H'.length→m b=none) :
  cS P (do pure (.value (←Builtin.append_ #[t,u] ty #[rx,.int .i64 n]))) L0 lo m H w v H':=by
 obtain⟨e,Mb,Tg⟩:=lC ht
 obtain⟨i,de,zz,hi,_,KM,rfl,rfl,rfl,rfl⟩:=kJ Tg
 obtain⟨k,rfl⟩:=Int.eq_ofNat_of_zero_le hn.1
 simp only[Int.toNat_natCast] at xH
 have GX:1≤i.bytes:=by
  unfold fL at xH
  split at xH
  ·rename_i h;exact h.1
  ·cases xH
 have IU:k*i.bytes≤140737488355328:=by have:=hn.2;omega
 have hk:k≤140737488355328:=aKy (aK3 _ GX) IU
 have E4:i.size=zz.cells.size:=by rw[hzs,fR]
 have acK:1≤zz.cells.size:=by rw[fR];exact Cy
 have pT:(Builtin.zeroCells zz.cells k).toList=dF k (aV zz):=by rw[JI _ _ acK,iA]
 have aBx:k*i.size=0→Builtin.zeroCells zz.cells k = #[]:=by
  intro h0
  apply Array.ext'
  rw[pT]
  exact aKD (by rw[yW,←hzs];exact h0)
 obtain⟨rv,w',m',g1,g2,g3,g4⟩:=LD (P:=P) (s:=Builtin.append_ #[t,u] ty #[rx,.int .i64 k]) (e:=e) (tD:=dF k (aV zz)) xH hR dR hx (Ay k NJ Cy) hf
  (fun a n c w' MR E1 vZ=>by
   subst MR
   exact Qn Mb hu hi KM hk IU E1 aBx (by rw[pT,hzs];exact vZ))
  (fun MR hk0=>by
   subst MR
   subst hk0
   exact SE Mb hu hi)
  (fun base n c Fe MR hfo hJ hg hb=>by
   subst MR
   refine⟨grownCap w (n+k) c e,_,grownCap_ge w _ _ _,Qy Mb hu hi KM hk IU (by rw[hzs];exact hfo) aBx hg GX hb,?_,?_⟩
   ·have Hj:=grownCap_ge w (n+k) c e
    simp only[Array.size_append,List.size_toArray,size_zeroCells,hJ,fR]
    rw[←aK2,←aK2]
    congr 1
    omega
   ·intro j hj
    exact EE _ _ _ (by simp[pT]) j hj)
 exact cS.value g1 g2 g3 g4
theorem abJ {t ty:TypeId} {ts:List TypeId} {agg:Bool} {size bytes lo b o d c k:Nat} {z new:List Value} {y rx ry:Value} {H':aI} (ht:lP P t=some (agg,size,z,bytes))
  (hk:wT y=some k) (Dt:lA H size (aK4 k d) y=some new) (hw:H.write lo b o new=some H') (hx:RV m (.slice (some ⟨b,o,none⟩) d c) rx) (hy:RV m y ry)
  (hR:Rel m L0 H w) (dR:L0≤lo) :
  cS P (do pure (.value (←Builtin.copy_ (t::ts).toArray ty #[rx,ry]))) L0 lo m H w (.int .i64 (aK4 k d)) H':=by
 obtain⟨e,Mb,Tg⟩:=lC ht
 obtain⟨i,de,zz,hi,_,KM,rfl,rfl,rfl,rfl⟩:=kJ Tg
 obtain⟨tD,h1,h2,h3⟩:=Mm (P:=P) Dt hk (Nat.min_le_left _ _) hR hy
 have hl:=Ku hk hy
 cases hx with
 |
  slice _ _ _ _ l ra rc hm hn hc hxp ha =>
  rcases ha with ha | ⟨rfl,ha⟩
  ·have F9:d=0:=by omega
   subst F9
   have arM:aK4 k 0=0:=Nat.min_zero k
   rw[arM] at Dt h3 ⊢
   have pT:new=[]:=by
    have:tD.length=new.length:=h1.1.symm
    unfold lA at Dt
    split at Dt
    ·obtain⟨_,_,_,_,_,_,hlen⟩:=Rz Dt
     exact aKD (by simpa using hlen)
    ·split at Dt
     ·cases Dt;rfl
     ·cases Dt
    ·split at Dt
     ·cases Dt;simp
     ·cases Dt
    ·cases Dt
   subst pT
   have hrn:tD=[]:=aKD h1.1.symm
   subst hrn
   have hHH:H'=H:=by
    obtain⟨cs,e',p',q1,q2,q3,q4,rfl⟩:=D0 hw
    apply List.ext_getElem?
    intro j
    by_cases hj:b=j
    ·subst hj
     rw[List.getElem?_set_self (aKw.1 q1).1,q1]
     simp[kI]
    ·rw[aKW hj]
   rw[hHH]
   refine cS.value (rv := .int .i64 0) (w':=w) ?_ (.int _ _) hR (Trans.refl lo m _ w)
   have hf0:=h3 w rfl
   simp[Builtin.copy_,run_underlying Mb,hl,run_sizeOf e i hi,goInt,hf0,storeCells]
  ·obtain⟨w',s1,s2,s3⟩:=Gw P hR dR hm hw h1
   refine cS.value (rv := .int .i64 (aK4 k d)) ?_ (.int _ _) s2 s3
   have hf0:=h3 w rfl
   unfold Builtin.copy_
   simp only[List.getElem?_toArray,List.getElem?_cons_zero,List.getElem?_cons_succ,Sem.run_bind,run_underlying Mb,Result.andThen_ok,hl,Sem.run_pure,run_sizeOf e i hi]
   rw[hf0]
   simp only[Result.andThen_ok,s1,goInt]
theorem Yl {t ty e:TypeId} {ts:List TypeId} {i:TypeInfo} {zz:Value} {lo b o n c:Nat} {rx:Value} {H':aI} (Mb:P.underlying t=some (.slice e)) (hi:P.info? e=some i) (KM:i.zero=some zz)
  (hn0:n≠0) (hw:H.write lo b o (dF n (aV zz))=some H') (hx:RV m (.slice (some ⟨b,o,none⟩) n c) rx) (NJ:(aV zz).all mX=true) (Cy:1≤(aV zz).length) (hR:Rel m L0 H w) (dR:L0≤lo) :
  cS P (do pure (.value (←Builtin.clear_ (t::ts).toArray ty #[rx]))) L0 lo m H w undef H':=by
 cases hx with
 |
  slice _ _ _ _ l ra rc hm hn hc hxp ha =>
  rcases ha with ha | ⟨rfl,ha⟩
  ·omega
  ·obtain⟨w',s1,s2,s3⟩:=Gw P hR dR hm hw (Ay n NJ Cy)
   have pT:(Builtin.zeroCells zz.cells n).toList=dF n (aV zz):=by rw[JI _ _ (by rw[fR];exact Cy),iA]
   refine cS.value (rv:=undef) ?_ (RV.undef m) s2 s3
   rw[←pT] at s1
   obtain⟨n',rfl⟩:∃n',n=n'+1:=⟨n-1,by omega⟩
   simp[Builtin.clear_,run_underlying Mb,zeroValue,typeInfo,hi,KM,s1,undef]
theorem Ml {t ty e:TypeId} {ts:List TypeId} {lo c:Nat} {a:Option Addr} {rx:Value} (Mb:P.underlying t=some (.slice e)) (hx:RV m (.slice a 0 c) rx) (hR:Rel m L0 H w) :
  cS P (do pure (.value (←Builtin.clear_ (t::ts).toArray ty #[rx]))) L0 lo m H w undef H:=by
 refine cS.value (rv:=undef) (w':=w) ?_ (RV.undef m) hR (Trans.refl lo m _ w)
 cases hx<;>simp[Builtin.clear_,run_underlying Mb,undef]
end
end Go.PM
namespace Go.PM
section
variable {P:Program} {m:dM} {L0:Nat} {H:aI} {w:World}
theorem Fx {po:qE} {ρ:Env} {v:Value} {H':aI} (h:(kC po ρ).map (Out.val · H)=some (.val v H')):kC po ρ=some v∧H'=H:=by
 cases hp:kC po ρ with
 | none=>rw[hp] at h;cases h
 | some u=>rw[hp] at h;cases h;exact⟨rfl,rfl⟩
def yJ:qE→Bool
 | .load .. | .sub .. | .b2s _ | .new _ | .box _ | .make .. | .lit .. | .call .. | .store .. | .app .. | .appz .. | .copy .. | .clear .. | .callv .. => false
 | _=>true
theorem By {lo:Nat} {po:qE} {ρ:Env} (h:yJ po=true):pop lo po ρ H=(kC po ρ).map (.val · H):=by
 cases po<;>first | rfl | cases h
theorem UK {pv rv:Value} {k:Nat} (size:Nat) (h:wT pv=some k) (hr:RV m pv rv):(Builtin.firstCells size 0 rv).run P w = .ok #[] w:=by
 unfold wT at h
 split at h
 ·cases hr
  ·rfl
  ·simp only[Builtin.firstCells,Nat.zero_mul]
   rfl
 ·cases hr
  simp[Builtin.firstCells]
 ·cases h
theorem YW {o:Oper} {po:qE} {ρ:Env} {a:Act} {lo:Nat} {v:Value} {H':aI} (hp:tF P o.op=some po) (hv:pop lo po ρ H=some (.val v H')) (hr:∀x∈o.op.operands,RV m (ev ρ x) (a.eval x))
  (hR:Rel m L0 H w) (dR:L0≤lo) (hf:∀b,H.length≤b→b<H'.length→m b=none):cS P (execOp a.eval o) L0 lo m H w v H':=by
 by_cases kS:yJ po=true
 ·rw[By kS] at hv
  obtain⟨h1,rfl⟩:=Fx hv
  obtain⟨rv,h2,h3⟩:=akZ hp h1 hr
  exact⟨rv,w,m,.inl (h3 w),h2,hR,Trans.refl lo m _ w⟩
 obtain⟨dst,op,type,pos,after,guard⟩:=o
 unfold tF at hp
 simp only at hp hr ⊢
 split at hp
 case isFalse=>cases hp
 cases op with
 | move x=>cases hp;exact absurd rfl kS
 | assign x=>cases hp;exact absurd rfl kS
 | pick c x y=>cases hp;exact absurd rfl kS
 |
  binOp op t x y yt =>
  unfold Eg at hp
  simp only at hp
  split at hp
  ·cases hp;exact absurd rfl kS
  ·cases hp;exact absurd rfl kS
  ·split at hp<;>first | (cases hp;done) | (cases hp;exact absurd rfl kS)
  ·split at hp<;>first | (cases hp;done) | (split at hp<;>first | (cases hp;done) | (cases hp;exact absurd rfl kS))
  ·split at hp<;>first | (cases hp;done) | (cases hp;exact absurd rfl kS)
  ·cases hp
 | unOp op t x=>cases hp;exact absurd rfl kS
 | extract x i=>cases hp;exact absurd rfl kS
 |
  convert s d x =>
  have hx:=hr x (by simp[Op.operands])
  simp only at hp
  split at hp
  ·cases hp;exact absurd rfl kS
  ·cases hp;exact absurd rfl kS
  ·rename_i e hs hd
   split at hp
   ·rename_i he
    cases hp
    simp only[pop] at hv
    split at hv
    ·rename_i n c RQ
     cases hv
     rw[RQ] at hx
     show cS P (do pure (.value (←convert s d (a.eval x)))) L0 lo m H w _ H
     generalize a.eval x=rx at hx ⊢
     cases hx
     refine cS.value (rv := .string ByteArray.empty) ?_ (.str _) hR (Trans.refl lo m _ w)
     simp[convert,run_underlying hs,run_underlying hd,run_underlying he,Conv.bytesToString]
    ·rename_i b o n c RQ
     split at hv
     ·rename_i cs PO
      cases hb:xP cs with
      | none=>rw[hb] at hv;cases hv
      |
       some bs =>
       rw[hb] at hv
       cases hv
       rw[RQ] at hx
       exact anU hs hd he PO hb hR hx
     ·cases hv
    ·cases hv
   ·cases hp
  ·cases hp
 |
  field t x i =>
  simp only at hp
  split at hp
  ·split at hp
   ·rename_i f hf'
    cases ht:oI P f.type with
    | none=>rw[ht] at hp;cases hp
    | some q=>rw[ht] at hp;cases hp;exact absurd rfl kS
   ·cases hp
  ·cases hp
 |
  build t parts =>
  simp only at hp
  split at hp
  ·split at hp
   ·split at hp
    ·cases hp;exact absurd rfl kS
    ·cases hp
   ·cases hp
  ·cases hp
 | nilCheck x=>cases hp;exact absurd rfl kS
 |
  fieldAddr t x i =>
  simp only at hp
  split at hp
  ·split at hp
   ·split at hp
    ·split at hp
     ·cases hp
     ·cases hp;exact absurd rfl kS
    ·cases hp
   ·cases hp
  ·cases hp
 |
  indexAddr t x i =>
  simp only at hp
  cases ht:lP P t with
  | none=>rw[ht] at hp;cases hp
  | some q=>rw[ht] at hp;cases hp;exact absurd rfl kS
 |
  index t x i =>
  simp only at hp
  split at hp
  ·cases hp;exact absurd rfl kS
  ·cases hp
 |
  slice t x gB hi mx =>
  have hx:=hr x (by simp[Op.operands])
  simp only at hp
  split at hp
  ·split at hp
   ·cases hp;exact absurd rfl kS
   ·cases hp
  ·rename_i e hu
   cases ht:oI P e with
   | none=>rw[ht] at hp;cases hp
   |
    some q =>
    obtain⟨agg,size,z,nb⟩:=q
    rw[ht] at hp
    cases hp
    obtain⟨i,d,zz,qI,_,_,rfl,rfl,rfl,rfl⟩:=kJ ht
    simp only[pop] at hv
    cases hs:Fc i.size (ev ρ x) (gB.map (ev ρ)) (hi.map (ev ρ)) (mx.map (ev ρ)) H with
    | none=>rw[hs] at hv;cases hv
    |
     some q =>
     obtain⟨u,H1⟩:=q
     rw[hs] at hv
     cases hv
     exact akS hu qI hs hx (RO.map fun y hy=>hr y (by simp[Op.operands,hy])) (RO.map fun y hy=>hr y (by simp[Op.operands,hy])) (RO.map fun y hy=>hr y (by simp[Op.operands,hy])) hR hf
  ·cases hp
 |
  makeFunc fn first gD =>
  cases fn with
  |
   func f =>
   simp only at hp
   split at hp
   ·cases hp;exact absurd rfl kS
   ·cases hp
  | _=>cases hp
 | makeInterface t x=>cases hp;exact absurd rfl kS
 | panic x=>cases hp;exact absurd rfl kS
 |
  load t p =>
  have hx:=hr p (by simp[Op.operands])
  simp only at hp
  cases ht:oI P t with
  | none=>rw[ht] at hp;cases hp
  |
   some q =>
   obtain⟨agg,size,z,nb⟩:=q
   rw[ht] at hp
   cases hp
   simp only[pop] at hv
   cases hl:qP agg size (ev ρ p) H with
   | none=>rw[hl] at hv;cases hv
   |
    some u =>
    rw[hl] at hv
    cases hv
    obtain⟨rv,h1,h2⟩:=QO ht hl hR hx
    exact cS.value h2 h1 hR (Trans.refl lo m _ w)
 |
  store t p x =>
  have hpp:=hr p (by simp[Op.operands])
  have hx:=hr x (by simp[Op.operands])
  simp only at hp
  cases ht:P.info? t with
  | none=>rw[ht] at hp;cases hp
  |
   some i =>
   rw[ht] at hp
   cases hp
   simp only[pop] at hv
   split at hv
   ·rename_i b o hpo
    split at hv
    ·rename_i hs
     cases hw:H.write lo b o (aV (ev ρ x)) with
     | none=>rw[hw] at hv;cases hv
     |
      some H1 =>
      rw[hw] at hv
      cases hv
      rw[hpo] at hpp
      exact XF ht hpp hx hs hw hR dR
    ·cases hv
   ·cases hv
 |
  alloc t =>
  simp only at hp
  split at hp
  ·rename_i agg size z nb ht
   split at hp
   ·rename_i hz
    cases hp
    simp only[aK5] at hz
    cases hv
    exact ahV ht hz.1 hz.2 hR (hf _ (aKx _) (by simp))
   ·cases hp
  ·cases hp
 |
  box t x =>
  have hx:=hr x (by simp[Op.operands])
  cases hp
  simp only[pop] at hv
  split at hv
  ·rename_i hs
   cases hv
   exact aiY hx hs hR (hf _ (aKx _) (by simp))
  ·cases hv
 |
  makeSlice t l c =>
  have hl:=hr l (by simp[Op.operands])
  have hc:=hr c (by simp[Op.operands])
  simp only at hp
  split at hp
  ·rename_i agg size z nb ht
   split at hp
   ·rename_i hz
    cases hp
    simp only[aK5,beq_iff_eq,decide_eq_true_eq] at hz
    obtain⟨⟨⟨z1,z2⟩,z3⟩,z4⟩:=hz
    simp only[pop] at hv
    split at hv
    ·rename_i l' c' Ge hc'
     split at hv
     ·rename_i hb
      cases hv
      rw[Ge] at hl
      rw[hc'] at hc
      show cS P (do pure (.value (←Instr.makeSlice t (a.eval l) (a.eval c)))) L0 lo m H w _ _
      generalize a.eval l=rl at hl ⊢
      generalize a.eval c=rc at hc ⊢
      cases hl
      cases hc
      exact abY ht z1 z2 z3 z4 hb.1 hb.2.1 hb.2.2.1 hb.2.2.2 hR (hf _ (aKx _) (by simp))
     ·cases hv
    ·cases hv
   ·cases hp
  ·cases hp
 |
  buildSlice t n parts =>
  simp only at hp
  split at hp
  ·rename_i agg size z nb ht
   split at hp
   ·rename_i hz
    cases hp
    simp only[aK5,beq_iff_eq,decide_eq_true_eq] at hz
    obtain⟨⟨⟨⟨z1,z2⟩,z3⟩,z4⟩,z5⟩:=hz
    simp only[pop] at hv
    split at hv
    ·rename_i cs PO
     split at hv
     ·rename_i EI
      cases hv
      have:=anW (P:=P) (w:=w) (lo:=lo) (a:=a) ht z1 z2 z3 z4 z5 PO EI (fun p hpm=>hr p.2 (by simp only[Op.operands];simp;exact⟨p.1,by simpa using hpm⟩)) hR (hf _ (aKx _) (by simp))
      rw[Array.toArray_toList] at this
      exact this
     ·cases hv
    ·cases hv
   ·cases hp
  ·cases hp
 |
  call c =>
  obtain⟨callee,args,ts⟩:=c
  cases callee with
  |
   builtin b =>
   have W6:∀x∈args,RV m (ev ρ x) (a.eval x):=fun x hx=>hr x (by simpa[Op.operands,Call.operands] using hx)
   simp only at hp
   unfold sE at hp
   split at hp
   ·split at hp<;>first | (cases hp;done) | (cases hp;exact absurd rfl kS)
   ·split at hp<;>first | (cases hp;done) | (cases hp;exact absurd rfl kS)
   ·cases hp;exact absurd rfl kS
   ·cases hp;exact absurd rfl kS
   ·rename_i x y t u F4 A2 hts _
    have ea:args = #[x,y]:=aKN.1 (by simpa using A2)
    subst ea
    have hx:=W6 x (by simp)
    have hy:=W6 y (by simp)
    have aEn:∃tr,ts=(t::u::tr).toArray:=⟨F4,aKN.1 (by simpa using hts)⟩
    obtain⟨tr,rfl⟩:=aEn
    show cS P (do pure (.value (←Builtin.append_ (t::u::tr).toArray type ((#[x,y]:Array Operand).map a.eval)))) L0 lo m H w v H'
    rw[NA]
    have aDV:∀r1 r2,Builtin.append_ (t::u::tr).toArray type #[r1,r2]=Builtin.append_ #[t,u] type #[r1,r2]:=fun r1 r2=>by simp[Builtin.append_]
    rw[aDV]
    split at hp
    ·rename_i agg size zero bytes ku ht hu
     split at hp
     ·rename_i hz
      cases hp
      simp only[aK5,beq_iff_eq,decide_eq_true_eq] at hz
      obtain⟨⟨⟨z1,z2⟩,z3⟩,z4⟩:=hz
      simp only[pop] at hv
      split at hv
      ·rename_i n hn
       split at hv
       ·rename_i hb
        cases xH:fL lo zero.length bytes (ev ρ x) n.toNat (dF n.toNat zero) H with
        | none=>rw[xH] at hv;cases hv
        |
         some q =>
         obtain⟨u',H1⟩:=q
         rw[xH] at hv
         cases hv
         rw[hn] at hy
         generalize a.eval y=ry at hy ⊢
         cases hy
         exact adY ht hu hb xH hx z4 z1 z2 z3 hR dR hf
       ·cases hv
      ·cases hv
     ·cases hp
    ·rename_i agg size zero bytes d _ ht hu
     split at hp
     ·rename_i hd
      split at hp
      ·rename_i hzs
       cases hp
       simp only[pop] at hv
       split at hv
       ·rename_i k hk
        split at hv
        ·rename_i new pT
         cases xH:fL lo size bytes (ev ρ x) k new H with
         | none=>rw[xH] at hv;cases hv
         |
          some q =>
          obtain⟨u',H1⟩:=q
          rw[xH] at hv
          cases hv
          exact alJ ht hu hd hk pT xH hx hy (by simpa using hzs) hR dR hf
        ·cases hv
       ·cases hv
      ·cases hp
     ·cases hp
    ·cases hp
   ·rename_i x y t F4 A2 hts _
    have ea:args = #[x,y]:=aKN.1 (by simpa using A2)
    have et:ts=(t::F4).toArray:=aKN.1 (by simpa using hts)
    subst ea;subst et
    have hx:=W6 x (by simp)
    have hy:=W6 y (by simp)
    show cS P (do pure (.value (←Builtin.copy_ (t::F4).toArray type ((#[x,y]:Array Operand).map a.eval)))) L0 lo m H w v H'
    rw[NA]
    split at hp
    ·rename_i agg size zero bytes ht
     cases hp
     simp only[pop] at hv
     split at hv
     ·rename_i n c k RQ hk
      cases hv
      rw[RQ] at hx
      generalize a.eval x=rx at hx ⊢
      cases hx
      obtain⟨e,Mb,Tg⟩:=lC ht
      obtain⟨i,de,zz,hi,_,KM,_,_,_,_⟩:=kJ Tg
      refine cS.value (rv := .int .i64 0) (w':=w) ?_ (.int _ _) hR (Trans.refl lo m _ w)
      have hl:=Ku hk hy
      have hf0:=UK (P:=P) (w:=w) i.size hk hy
      simp[Builtin.copy_,run_underlying Mb,hl,run_sizeOf e i hi,goInt,hf0]
     ·rename_i b o d c k RQ hk
      split at hv
      ·rename_i new pT
       cases hw:H.write lo b o new with
       | none=>rw[hw] at hv;cases hv
       |
        some H1 =>
        rw[hw] at hv
        cases hv
        rw[RQ] at hx
        exact abJ ht hk pT hw hx hy hR dR
      ·cases hv
     ·cases hv
    ·cases hp
   ·rename_i x t F4 A2 hts _
    have ea:args = #[x]:=aKN.1 (by simpa using A2)
    have et:ts=(t::F4).toArray:=aKN.1 (by simpa using hts)
    subst ea;subst et
    have hx:=W6 x (by simp)
    show cS P (do pure (.value (←Builtin.clear_ (t::F4).toArray type ((#[x]:Array Operand).map a.eval)))) L0 lo m H w v H'
    rw[Sl]
    split at hp
    ·rename_i agg size zero bytes ht
     split at hp
     ·rename_i hz
      cases hp
      simp only[aK5,beq_iff_eq,decide_eq_true_eq] at hz
      obtain⟨⟨⟨z1,z2⟩,z3⟩,z4⟩:=hz
      obtain⟨e,Mb,Tg⟩:=lC ht
      obtain⟨i,de,zz,hi,_,KM,rfl,rfl,rfl,rfl⟩:=kJ Tg
      simp only[pop] at hv
      split at hv
      ·rename_i n c RQ
       cases hv
       rw[RQ] at hx
       generalize a.eval x=rx at hx ⊢
       cases hx
       exact Ml Mb .Nc hR
      ·rename_i b o n c RQ
       rw[RQ] at hx
       split at hv
       ·rename_i hn0
        cases hv
        subst hn0
        exact Ml Mb hx hR
       ·rename_i hn0
        cases hw:H.write lo b o (dF n (aV zz)) with
        | none=>rw[hw] at hv;cases hv
        |
         some H1 =>
         rw[hw] at hv
         cases hv
         exact Yl Mb hi KM hn0 hw hx z2 z4 hR dR
      ·cases hv
     ·cases hp
    ·cases hp
   ·cases hp
  |
   value f =>
   cases f with
   | func g=>cases hp;cases hv
   |
    tmp t =>
    cases hp
    simp only[pop] at hv
    split at hv<;>cases hv
   | const c=>cases hp
   | global g=>cases hp
  | invoke r s=>cases hp
 | _=>cases hp
def Pa (P:Program) (f:Nat):Prop:=∃fn,P.funcs[f]? = some fn∧(fn.name == "runtime.NumGoroutine")=false∧fn.body.isNone=false
theorem IY {f:Nat} {args:Array Value} (h:Pa P f):(callFunc f args).run P w = .ok (.enter f args) w:=by
 obtain⟨fn,h1,h2,h3⟩:=h
 unfold callFunc
 rw[Sem.run_bind,run_program,Result.andThen_ok,h1]
 simp[h2,h3]
theorem map_none {α β:Type} {o:Option α} {f:α→β} {x:β} (h:o.map f=some x) (hf:∀y,f y≠x):False:=by
 cases o with
 | none=>cases h
 | some y=>injection h with h;exact hf y h
theorem aeV {op:Op} {g:Nat} {as:List Operand} (h:tF P op=some (.call g as)):∃args ts,op = .call ⟨.value (.func g),args,ts⟩∧as=args.toList:=by
 unfold tF at h
 split at h
 case isFalse=>cases h
 cases op with
 |
  call c =>
  obtain⟨callee,args,ts⟩:=c
  cases callee with
  |
   builtin b =>
   exfalso
   simp only[sE] at h
   repeat' (split at h)
   all_goals cases h
  |
   value f =>
   cases f with
   | func g'=>cases h;exact⟨args,ts,rfl,rfl⟩
   | _=>cases h
  | invoke r s=>cases h
 |
  _ =>
  exfalso
  dsimp only at h
  try unfold Eg at h
  repeat' (split at h)
  all_goals first
   | contradiction
   | (cases h;done)
   | exact map_none h (by intro y h;cases h)
theorem XC {op:Op} {fv:Operand} {as:List Operand} (h:tF P op=some (.callv fv as)):∃args ts,op = .call ⟨.value fv,args,ts⟩∧as=args.toList:=by
 unfold tF at h
 split at h
 case isFalse=>cases h
 cases op with
 |
  call c =>
  obtain⟨callee,args,ts⟩:=c
  cases callee with
  |
   builtin b =>
   exfalso
   simp only[sE] at h
   repeat' (split at h)
   all_goals cases h
  |
   value f =>
   cases f with
   | tmp g'=>cases h;exact⟨args,ts,rfl,rfl⟩
   | _=>cases h
  | invoke r s=>cases h
 |
  _ =>
  exfalso
  dsimp only at h
  try unfold Eg at h
  repeat' (split at h)
  all_goals first
   | contradiction
   | (cases h;done)
   | exact map_none h (by intro y h;cases h)
theorem wQ {po:qE} {ρ:Env} {lo f:Nat} {args:List Value} (hv:pop lo po ρ H=some (.call f args)):(∃g as,po = .call g as)∨(∃g as,po = .callv g as):=by
 by_cases kS:yJ po=true
 ·rw[By kS] at hv
  cases hpp:kC po ρ with
  | none=>rw[hpp] at hv;cases hv
  | some u=>rw[hpp] at hv;cases hv
 cases po<;>first | exact absurd rfl kS | exact .inl ⟨_,_,rfl⟩ | exact .inr ⟨_,_,rfl⟩ | skip
 all_goals
  exfalso
  simp only[pop] at hv
  repeat' (split at hv)
  all_goals first
   | (cases hv;done)
   | (revert hv;generalize aI.write _ _ _ _ _=q;cases q<;>intro hv<;>cases hv)
   | (revert hv;generalize qP _ _ _ _=q;cases q<;>intro hv<;>cases hv)
   | (revert hv;generalize Fc _ _ _ _ _ _=q;cases q<;>intro hv<;>cases hv)
   | (revert hv;generalize fL _ _ _ _ _ _ _=q;cases q<;>intro hv<;>cases hv)
   | (revert hv;generalize xP _=q;cases q<;>intro hv<;>cases hv)
theorem adS {o:Oper} {po:qE} {ρ:Env} {a:Act} {lo f:Nat} {args:List Value} (hp:tF P o.op=some po) (hv:pop lo po ρ H=some (.call f args)) (hr:∀x∈o.op.operands,RV m (ev ρ x) (a.eval x)) :
  ∃iV,RL m args iV∧(Pa P f→∀w,(execOp a.eval o).run P w = .ok (.enter f iV.toArray) w):=by
 have key:=wQ hv
 obtain⟨dst,op,type,pos,after,guard⟩:=o
 simp only at hp hr ⊢
 rcases key with⟨g,as,rfl⟩ | ⟨g,as,rfl⟩
 ·obtain⟨EZ,ts,rfl,rfl⟩:=aeV hp
  cases hv
  refine⟨EZ.toList.map a.eval,RL.map fun x hx=>hr x (by simp[Op.operands,Call.operands];right;simpa using hx),fun hc w => ?_⟩
  have e1:(EZ.toList.map a.eval).toArray=EZ.map a.eval:=aKN.1 (by rw[Array.toList_map])
  rw[e1]
  have e2:execOp a.eval ⟨dst,.call ⟨.value (.func f),EZ,ts⟩,type,pos,after,guard⟩=callFunc f ((#[]++EZ.map a.eval) ++ #[]):=rfl
  rw[e2,IY hc]
  simp
 ·obtain⟨EZ,ts,rfl,rfl⟩:=XC hp
  have hg:=hr g (by simp[Op.operands,Call.operands])
  simp only[pop] at hv
  split at hv
  ·rename_i f' first gD hfv
   cases hv
   rw[hfv] at hg
   generalize hrg:a.eval g=rg at hg
   cases hg with
   |
    func fn f1 g1 c1 d1 h1 h2 h3 h4 =>
    refine⟨g1.toList++EZ.toList.map a.eval++d1.toList,((RL.arr h1 h2).append (RL.map fun x hx=>hr x (by simp[Op.operands,Call.operands];right;simpa using hx))).append (RL.arr h3 h4),fun hc w => ?_⟩
    have e1:(g1.toList++EZ.toList.map a.eval++d1.toList).toArray=(g1++EZ.map a.eval)++d1:=by
     apply Array.ext'
     simp
    rw[e1]
    have e2:(execOp a.eval ⟨dst,.call ⟨.value g,EZ,ts⟩,type,pos,after,guard⟩)=(do let d ←Deferred.ofValue (a.eval g) (EZ.map a.eval);invoke d.target d.args):=rfl
    rw[e2,hrg]
    show (callFunc f ((g1++EZ.map a.eval)++d1)).run P w=_
    exact IY hc
  ·cases hv
end
end Go.PM
namespace Go.PM
section
variable {H:aI}
theorem adK {lo:Nat} {H':aI} (h:Ext H.length H H'):Ext lo H H' :=
 ⟨h.len,fun b _ hl=>h.low b hl hl,h.liv⟩
theorem Mq {lo size bytes add:Nat} {x v:Value} {new:List Value} {H':aI} (h:fL lo size bytes x add new H=some (v,H')):Ext lo H H':=by
 unfold fL at h
 split at h
 case isFalse=>cases h
 split at h
 ·split at h
  ·split at h
   ·cases h;exact Ext.refl _ _
   ·split at h
    ·cases h;exact sU _ _ _
    ·cases h
  ·cases h
 ·split at h
  ·split at h
   ·split at h
    ·split at h
     ·cases h;exact Ext.refl _ _
     ·cases hw:aI.write H lo _ _ new with
      | none=>rw[hw] at h;cases h
      | some H1=>rw[hw] at h;cases h;exact GV hw
    ·split at h
     ·split at h
      ·split at h
       ·rename_i Hy
        cases h
        exact abZ Hy
       ·cases h
      ·cases h;exact sU _ _ _
     ·cases h
   ·cases h
  ·cases h
 ·cases h
theorem akT {lo size:Nat} {x v:Value} {l h' mx:Option Value} {H':aI} (h:Fc size x l h' mx H=some (v,H')):Ext lo H H':=by
 unfold Fc at h
 repeat' (split at h)
 all_goals first
  | (cases h;done)
  | (cases h;exact Ext.refl _ _)
  | (cases h;exact sU _ _ _)
theorem aaQ {lo:Nat} {po:qE} {ρ:Env} {v:Value} {H':aI} (h:pop lo po ρ H=some (.val v H')):Ext lo H H':=by
 by_cases kS:yJ po=true
 ·rw[By kS] at h
  obtain⟨_,rfl⟩:=Fx h
  exact Ext.refl _ _
 cases po<;>first | exact absurd rfl kS | skip
 case load agg size p =>
  simp only[pop] at h
  cases hl:qP agg size (ev ρ p) H with
  | none=>rw[hl] at h;cases h
  | some u=>rw[hl] at h;cases h;exact Ext.refl _ _
 case sub size x l hh mx =>
  simp only[pop] at h
  cases hs:Fc size (ev ρ x) (l.map (ev ρ)) (hh.map (ev ρ)) (mx.map (ev ρ)) H with
  | none=>rw[hs] at h;cases h
  |
   some q =>
   obtain⟨u,H1⟩:=q
   rw[hs] at h;cases h;exact akT hs
 case b2s x =>
  simp only[pop] at h
  split at h
  ·cases h;exact Ext.refl _ _
  ·split at h
   ·rename_i cs _
    cases hb:xP cs with
    | none=>rw[hb] at h;cases h
    | some bs=>rw[hb] at h;cases h;exact Ext.refl _ _
   ·cases h
  ·cases h
 case new z=>cases h;exact sU _ _ _
 case box x =>
  simp only[pop] at h
  split at h
  ·cases h;exact sU _ _ _
  ·cases h
 case make z b l c =>
  simp only[pop] at h
  split at h
  ·split at h
   ·cases h;exact sU _ _ _
   ·cases h
  ·cases h
 case lit z n parts =>
  simp only[pop] at h
  split at h
  ·split at h
   ·cases h;exact sU _ _ _
   ·cases h
  ·cases h
 case call f args=>cases h
 case callv f args =>
  simp only[pop] at h
  split at h<;>cases h
 case store size p x =>
  simp only[pop] at h
  split at h
  ·rename_i b o _
   split at h
   ·cases hw:H.write lo b o (aV (ev ρ x)) with
    | none=>rw[hw] at h;cases h
    | some H1=>rw[hw] at h;cases h;exact GV hw
   ·cases h
  ·cases h
 case app size bytes x y =>
  simp only[pop] at h
  split at h
  ·rename_i n _
   split at h
   ·rename_i new _
    cases ha:fL lo size bytes (ev ρ x) n new H with
    | none=>rw[ha] at h;cases h
    |
     some q =>
     obtain⟨u,H1⟩:=q
     rw[ha] at h;cases h;exact Mq ha
   ·cases h
  ·cases h
 case appz z bytes x n =>
  simp only[pop] at h
  split at h
  ·rename_i k _
   split at h
   ·cases ha:fL lo z.length bytes (ev ρ x) k.toNat (dF k.toNat z) H with
    | none=>rw[ha] at h;cases h
    |
     some q =>
     obtain⟨u,H1⟩:=q
     rw[ha] at h;cases h;exact Mq ha
   ·cases h
  ·cases h
 case copy size x y =>
  simp only[pop] at h
  split at h
  ·cases h;exact Ext.refl _ _
  ·rename_i b o d _ s _ _
   split at h
   ·rename_i new _
    cases hw:H.write lo b o new with
    | none=>rw[hw] at h;cases h
    | some H1=>rw[hw] at h;cases h;exact GV hw
   ·cases h
  ·cases h
 case clear z x =>
  simp only[pop] at h
  split at h
  ·cases h;exact Ext.refl _ _
  ·rename_i b o n _ _
   split at h
   ·cases h;exact Ext.refl _ _
   ·cases hw:H.write lo b o (dF n z) with
    | none=>rw[hw] at h;cases h
    | some H1=>rw[hw] at h;cases h;exact GV hw
  ·cases h
def vB (call:iC):Prop:=∀f args lo H v H',call f args lo H=some (v,H')→Ext lo H H'
theorem NS {call:iC} (hc:vB call) {lo:Nat} {i:PI} {ρ:Env} {v:Value} {H':aI} (h:BW call lo i ρ H=some (v,H')):Ext lo H H':=by
 unfold BW at h
 split at h
 ·cases h
 ·cases h;exact Ext.refl _ _
 ·split at h
  ·split at h
   ·rename_i hp
    cases h
    exact aaQ hp
   ·rename_i f args _
    have:=hc _ _ _ _ _ _ h
    split at this
    ·exact adK this
    ·exact this
   ·cases h
  ·cases h
theorem BG {call:iC} {lo:Nat} {i:PI} {ρ aQ:Env} {H':aI} (h:AU call lo i ρ H=some (aQ,H')):∃v,BW call lo i ρ H=some (v,H')∧aQ=put ρ i.dst v:=by
 unfold AU at h
 split at h
 ·rename_i v H1 hv
  cases h
  exact⟨v,hv,rfl⟩
 ·cases h
theorem KU {call:iC} (hc:vB call) {lo:Nat} {i:PI} {ρ aQ:Env} {H':aI} (h:AU call lo i ρ H=some (aQ,H')):Ext lo H H':=by
 obtain⟨v,h1,_⟩:=BG h
 exact NS hc h1
theorem Ov {call:iC} (hc:vB call) {lo:Nat}:∀(is:List PI) {ρ aQ:Env} {H H':aI},jC call lo is ρ H=some (aQ,H')→Ext lo H H'
 | [],ρ,aQ,H,H',h=>by cases h;exact Ext.refl _ _
 |
  i::is,ρ,aQ,H,H',h=>by
  rw[jC] at h
  split at h
  ·rename_i h1
   exact(KU hc h1).trans (Ov hc is h)
  ·cases h
theorem K4 {lo:Nat} {body:Env→aI→Option (Ex×Env×aI)} (hb:∀ρ H x aQ H',body ρ H=some (x,aQ,H')→Ext lo H H'):∀(n:Nat) {ρ aQ:Env} {H H':aI} {x:Ex},A1 body n ρ H=some (x,aQ,H')→Ext lo H H'
 | 0,_,_,_,_,_,h=>by cases h
 |
  n+1,ρ,aQ,H,H',x,h=>by
  rw[A1] at h
  split at h
  ·rename_i h1
   exact(hb _ _ _ _ _ h1).trans (K4 hb n h)
  ·exact hb _ _ _ _ _ h
theorem lG {call:iC} (hc:vB call) {lo n:Nat}:∀(c:aE) {ρ aQ:Env} {H H':aI} {x:Ex},dV call lo n c ρ H=some (x,aQ,H')→Ext lo H H'
 | .skip,_,_,_,_,_,h=>by cases h;exact Ext.refl _ _
 |
  .cT ops,ρ,aQ,H,H',x,h=>by
  rw[dV] at h
  cases hp:jC call lo ops ρ H with
  | none=>rw[hp] at h;cases h
  |
   some q =>
   obtain⟨AN,H1⟩:=q
   rw[hp] at h;cases h
   exact Ov hc ops hp
 |
  .seq a b,ρ,aQ,H,H',x,h=>by
  rw[dV] at h
  split at h
  ·rename_i h1
   exact(lG hc a h1).trans (lG hc b h)
  ·exact lG hc a h
 |
  .cond c a b,ρ,aQ,H,H',x,h=>by
  rw[dV] at h
  split at h
  ·split at h
   ·exact lG hc a h
   ·exact lG hc b h
  ·cases h
 |
  .block id a,ρ,aQ,H,H',x,h=>by
  rw[dV] at h
  split at h
  ·rename_i h1
   split at h<;>(cases h;exact lG hc a h1)
  ·exact lG hc a h
 |
  .loop a,ρ,aQ,H,H',x,h=>by
  rw[dV] at h
  exact K4 (fun ρ H x aQ H' h=>lG hc a h) n h
 | .exit id,_,_,_,_,_,h=>by cases h;exact Ext.refl _ _
 | .ret,_,_,_,_,_,h=>by cases h;exact Ext.refl _ _
theorem GC (E:C9) (T:Tab):∀n,vB (oM E T n)
 | 0=>fun _ _ _ _ _ _ h=>by cases h
 |
  n+1=>fun f args lo H v H' h=>by
  rw[oM] at h
  split at h
  ·rename_i p _
   cases hp:p args H with
   | none=>rw[hp] at h;cases h
   | some u=>rw[hp] at h;cases h;exact Ext.refl _ _
  ·split at h
   ·cases h
   ·rename_i pf _
    split at h
    ·split at h
     ·rename_i AN H1 h1
      cases hr:uB pf.res AN H1 with
      | none=>rw[hr] at h;cases h
      | some u=>rw[hr] at h;cases h;exact lG (GC E T n) _ h1
     ·rename_i AN H1 h1
      cases hr:uB pf.res AN H1 with
      | none=>rw[hr] at h;cases h
      | some u=>rw[hr] at h;cases h;exact lG (GC E T n) _ h1
     ·cases h
    ·cases h
end
end Go.PM
namespace Go.PM
theorem G6 {α β:Type} {f:α→Option β}:∀ {l:List α} {ys:List β},l.mapM f=some ys→ys.length=l.length∧∀i (h:i<l.length),f l[i]=ys[i]?
 |
  [],ys,h=>by
  simp at h
  subst h
  exact⟨rfl,fun i h=>absurd h (by simp)⟩
 |
  x::l,ys,h=>by
  simp only[List.mapM_cons,Option.pure_def,Option.bind_eq_bind] at h
  cases h1:f x with
  | none=>rw[h1] at h;cases h
  |
   some y =>
   rw[h1] at h
   cases h2:l.mapM f with
   | none=>rw[h2] at h;cases h
   |
    some zs =>
    rw[h2] at h
    cases h
    obtain⟨k1,k2⟩:=G6 h2
    refine⟨by simp[k1],fun i hi => ?_⟩
    cases i with
    | zero=>simpa using h1
    | succ i=>simpa using k2 i (by simpa using hi)
theorem WV {α β:Type} {f:α→Option β} {l:List α} {ys:List β} (h:l.mapM f=some ys) {i:Nat} {x:α} (hx:l[i]? = some x):∃y,ys[i]? = some y∧f x=some y:=by
 obtain⟨h1,h2⟩:=G6 h
 obtain⟨bH,rfl⟩:=aKw.1 hx
 have Pc:i<ys.length:=by omega
 refine⟨ys[i],aKE Pc,?_⟩
 rw[h2 i bH,aKE Pc]
def Hl (E:C9) (ops:List Oper) (M:List Nat) (i j:Nat) (pi pj:qE) (l:List (Operand×Operand)):Prop :=
 match gW E pi,gW E pj with
 | .look,.write | .write,.look=>ahead M i j=true∨∃a b,HX pi=some a∧HX pj=some b∧Gu ops i j a=true∧(a,b)∈l
 | .write,.write | .quiet,.write | .write,.quiet=>ahead M i j=true
 | _,_=>True
theorem Hl.mono {E:C9} {ops:List Oper} {M:List Nat} {i j:Nat} {pi pj:qE} {l l':List (Operand×Operand)} (h:Hl E ops M i j pi pj l) (hl:∀x∈l,x∈l'):Hl E ops M i j pi pj l':=by
 unfold Hl at h ⊢
 split at h
 all_goals first
  | exact h
  | exact h.imp id fun⟨a,b,h1,h2,h3,h4⟩=>⟨a,b,h1,h2,h3,hl _ h4⟩
theorem PT {E:C9} {ops:List Oper} {ps:List qE} {M:List Nat} {j:Nat} {pj:qE} {l:List (Operand×Operand)} (h:conflicts E ops ps M j pj=some l) :
  ∀i,i<j→∀pi,ps[i]? = some pi→Hl E ops M i j pi pj l:=by
 have key:∀(is:List Nat) (l:List (Operand×Operand)),(is.foldr (fun i acc=>match acc,ps[i]? with
  |
   some l,some pi =>
   match gW E pi,gW E pj with
   |
    .look,.write | .write,.look =>
    if ahead M i j then some l
    else match HX pi,HX pj with
     | some a,some b=>if Gu ops i j a then some ((a,b)::l) else none
     | _,_=>none
   | .write,.write | .quiet,.write | .write,.quiet=>if ahead M i j then some l else none
   | _,_=>some l
  | _,_=>none) (some []))=some l→∀i∈is,∀pi,ps[i]? = some pi→Hl E ops M i j pi pj l:=by
  intro is
  induction is with
  | nil=>intro l _ i hi;cases hi
  |
   cons i0 is ih =>
   intro l h i hi pi hpi
   rw[List.foldr_cons] at h
   revert h
   generalize aEj:is.foldr _ (some [])=acc
   intro h
   cases acc with
   | none=>cases h
   |
    some l0 =>
    have ih':=ih l0 aEj
    cases Y1:ps[i0]? with
    | none=>rw[Y1] at h;cases h
    |
     some p0 =>
     rw[Y1] at h
     simp only at h
     have step:(∀x∈l0,x∈l)∧Hl E ops M i0 j p0 pj l:=by
      unfold Hl
      split at h
      ·rename_i c1 c2
       try rw[c1,c2]
       split at h
       ·rename_i ha;cases h;exact⟨fun x hx=>hx,.inl ha⟩
       ·split at h
        ·rename_i a b ta tb
         split at h
         ·rename_i hu;cases h;exact⟨fun x hx=>aK6 _ hx,.inr ⟨a,b,ta,tb,hu,aK7⟩⟩
         ·cases h
        ·cases h
      ·rename_i c1 c2
       try rw[c1,c2]
       split at h
       ·rename_i ha;cases h;exact⟨fun x hx=>hx,.inl ha⟩
       ·split at h
        ·rename_i a b ta tb
         split at h
         ·rename_i hu;cases h;exact⟨fun x hx=>aK6 _ hx,.inr ⟨a,b,ta,tb,hu,aK7⟩⟩
         ·cases h
        ·cases h
      ·rename_i c1 c2
       try rw[c1,c2]
       split at h
       ·rename_i ha;cases h;exact⟨fun x hx=>hx,ha⟩
       ·cases h
      ·rename_i c1 c2
       try rw[c1,c2]
       split at h
       ·rename_i ha;cases h;exact⟨fun x hx=>hx,ha⟩
       ·cases h
      ·rename_i c1 c2
       try rw[c1,c2]
       split at h
       ·rename_i ha;cases h;exact⟨fun x hx=>hx,ha⟩
       ·cases h
      ·cases h
       refine⟨fun x hx=>hx,?_⟩
       first | trivial | (split<;>first | trivial | (simp_all;done)) | (simp_all;done)
     rcases List.mem_cons.1 hi with rfl | hi
     ·rw[Y1] at hpi
      cases hpi
      exact step.2
     ·exact(ih' i hi pi hpi).mono step.1
 exact fun i hi pi hpi=>key _ l h i (aK8.2 hi) pi hpi
structure ajB (P:Program) (E:C9) (n:Nat) (ops:List Oper) (i:Nat) (o:Oper) (p:qE) (pi:PI):Prop where
 abV:tF P o.op=some p
 dst:pi.dst=o.dst
 op:pi.op=p
 guard:guardOf ops i o=some pi.g
 bound:∀d,o.dst=some d→d<n
structure SJ (E:C9) (ops:List Oper) (ps:List qE) (M:List Nat) (i:Nat) (o:Oper) (p:qE) (pi:PI):Prop where
 back:∀e∈o.after.toList,Region.binds .any e=true→e.on<i
 guard:∀j w,o.guard=some (j,w)→(M.getD i 0).testBit j=true
 Rx:∀t∈o.dst.toList++AA ops o,∀k ok,ops[k]? = some ok→ok.dst=some t→k=i∨ahead M i k=true
 mask:M.getD i 0=AT o M
 quiet:pi.quiet=(match gW E p with | .quiet=>true | _=>false)
 aAF:∀k,k<i→∀pk,ps[k]? = some pk→Hl E ops M k i pk p pi.cf
theorem Uq {P:Program} {E:C9} {n:Nat} {ops:List Oper} {ps:List qE} {M:List Nat} {draw:Bool} {i:Nat} {pi:PI} (h:X0 E ops ps M n draw i=some pi) {o:Oper} {p:qE} (ho:ops[i]? = some o) (hp:ps[i]? = some p)
  (Zx:tF P o.op=some p):ajB P E n ops i o p pi∧(draw=true→SJ E ops ps M i o p pi)∧(draw=false→pi.quiet=false∧pi.cf=[]):=by
 unfold X0 at h
 rw[ho,hp] at h
 simp only at h
 split at h
 case isFalse=>cases h
 rename_i hb
 have hbound:∀d,o.dst=some d→d<n:=by
  intro d hd
  rw[hd] at hb
  simpa[avE] using hb
 split at h
 ·cases h
 ·rename_i g hg
  cases draw with
  |
   false =>
   simp only[aK9,if_false] at h
   cases h
   exact⟨⟨Zx,rfl,rfl,hg,hbound⟩,(fun h=>by cases h),fun _=>⟨rfl,rfl⟩⟩
  |
   true =>
   simp only[if_true] at h
   split at h
   case isFalse=>cases h
   rename_i hc
   simp only[aK5,beq_iff_eq] at hc
   obtain⟨⟨⟨c1,c2⟩,c3⟩,c4⟩:=hc
   cases TV:conflicts E ops ps M i p with
   | none=>rw[TV] at h;cases h
   |
    some cf =>
    rw[TV] at h
    cases h
    refine⟨⟨Zx,rfl,rfl,hg,hbound⟩,fun _=>⟨fun e he hbd => ?_,fun j w hj => ?_,fun t ht k ok hk hkd => ?_,c4,rfl,PT TV⟩,(fun h=>by cases h)⟩
    ·have:=aKL.1 c1 e he
     simpa[hbd] using this
    ·rw[hj] at c2
     exact c2
    ·have h1:=aKL.1 c3 t ht
     have hk':k<ops.length:=(aKw.1 hk).1
     have h2:=aKL.1 h1 k (aK8.2 hk')
     rw[hk] at h2
     simp only[aLa,bne_iff_ne,ne_eq,beq_iff_eq] at h2
     rcases h2 with(h2 | h2) | h2
     ·exact absurd hkd h2
     ·exact .inl h2
     ·exact .inr h2
structure auQ (P:Program) (E:C9) (n:Nat) (ops:List Oper) (draw:Bool) (xC:List PI) (ps:List qE) (M:List Nat):Prop where
 Hm:ps.length=ops.length
 aEi:xC.length=ops.length
 each:∀i o,ops[i]? = some o→∃p pi,ps[i]? = some p∧xC[i]? = some pi∧ajB P E n ops i o p pi∧(draw=true→SJ E ops ps M i o p pi)∧(draw=false→pi.quiet=false∧pi.cf=[])
theorem MN {P:Program} {E:C9} {n:Nat} {ops:Array Oper} {draw:Bool} {xC:List PI} (h:Bm P E n ops draw=some xC):∃ps M,auQ P E n ops.toList draw xC ps M:=by
 unfold Bm at h
 split at h
 ·rename_i ps hps
  simp only at h
  generalize (if draw=true then TN ops.toList [] else [])=M at h
  obtain⟨h1,h2⟩:=G6 hps
  obtain⟨h3,h4⟩:=G6 h
  refine⟨ps,M,h1,by simpa using h3,fun i o ho => ?_⟩
  have bH:=(aKw.1 ho).1
  obtain⟨p,hp,Zx⟩:=WV hps ho
  have hr:(aKt ops.size)[i]? = some i:=by rw[List.getElem?_range];simpa using bH
  obtain⟨pi,hpi,hpp⟩:=WV h hr
  exact⟨p,pi,hp,hpi,Uq hpp ho hp Zx⟩
 ·cases h
theorem QE {o:Oper} {M:List Nat} {i:Nat} (h:(AT o M).testBit i=true):∃e∈o.after.toList,Region.binds .any e=true∧(e.on=i∨(M.getD e.on 0).testBit i=true):=by
 unfold AT at h
 revert h
 generalize o.after.toList=es
 induction es with
 | nil=>intro h;simp at h
 |
  cons e es ih =>
  intro h
  rw[List.foldr_cons] at h
  split at h
  ·rename_i hb
   rw[Nat.testBit_or,Nat.testBit_or,aLa,aLa] at h
   rcases h with(h | h) | h
   ·obtain⟨e',h1,h2⟩:=ih h
    exact⟨e',aK6 _ h1,h2⟩
   ·refine⟨e,aK7,hb,.inl ?_⟩
    rw[Nat.testBit_two_pow] at h
    simpa using h
   ·exact⟨e,aK7,hb,.inr h⟩
  ·obtain⟨e',h1,h2⟩:=ih h
   exact⟨e',aK6 _ h1,h2⟩
theorem X1 {ops:List Oper} {M:List Nat} {S:Nat→Prop} (hb:∀i o,ops[i]? = some o→∀e∈o.after.toList,Region.binds .any e=true→e.on<i) (hm:∀i o,ops[i]? = some o→M.getD i 0=AT o M)
  (hS:∀i o,ops[i]? = some o→S i→∀e∈o.after.toList,Region.binds .any e=true→S e.on):∀j o,ops[j]? = some o→(∀e∈o.after.toList,Region.binds .any e=true→S e.on)→∀i,(M.getD j 0).testBit i=true→S i:=by
 intro j
 induction j using Nat.strongRecOn with
 |
  _ j ih =>
  intro o ho hj i hi
  rw[hm j o ho] at hi
  obtain⟨e,he,hbd,h1⟩:=QE hi
  rcases h1 with rfl | h1
  ·exact hj e he hbd
  ·have bH:=hb j o ho e he hbd
   have hjl:=(aKw.1 ho).1
   have hel:e.on<ops.length:=by omega
   exact ih e.on bH ops[e.on] (aKE hel) (hS e.on _ (aKE hel) (hj e he hbd)) i h1
end Go.PM
namespace Go.PM
def AM (P:Program) (L0:Nat) (call:iC):Prop :=
 ∀f args lo H v H',call f args lo H=some (v,H')→∀m w iV,Rel m L0 H w→L0≤lo→L0≤H.length→RL m args iV→(∀b,H.length≤b→b<H'.length→m b=none) →
  Pa P f∧Calls P f iV.toArray w fun e w'=>∃m' rv,e = .returned rv∧RV m' v rv∧Rel m' L0 H' w'∧Trans lo m H w m' H' w'
section
variable {P:Program} {m:dM} {L0:Nat} {H:aI} {w:World}
theorem yL {call:iC} {lo:Nat} {i:PI} {ρ:Env} {v:Value} {H':aI} (h:BW call lo i ρ H=some (v,H')) :
  (B8 i.g ρ=some false∧v=undef∧H'=H) ∨
  (B8 i.g ρ=some true∧i.cf.all (DG ρ)=true∧(pop lo i.op ρ H=some (.val v H') ∨
   ∃f args,pop lo i.op ρ H=some (.call f args)∧call f args (if i.quiet then H.length else lo) H=some (v,H'))):=by
 unfold BW at h
 split at h
 ·cases h
 ·rename_i hw;cases h;exact .inl ⟨hw,rfl,rfl⟩
 ·rename_i hw
  split at h
  ·rename_i TV
   refine .inr ⟨hw,TV,?_⟩
   split at h
   ·rename_i hp;cases h;exact .inl hp
   ·rename_i f args hp;exact .inr ⟨f,args,hp,h⟩
   ·cases h
  ·cases h
theorem acD {t:Array Value} {d:Nat} {b:Bool} (h:t.getD d undef = .bool b):t[d]? = some (.bool b):=by
 rcases aKA d t.size with hd | hd
 ·simp[hd] at h ⊢
  exact h
 ·simp[aLb hd,undef] at h
theorem Ih {ops:Array Oper} {i:Nat} {o:Oper} {g:Option (Nat×Bool)} {ρ:Env} {a:Act} {t:Bool} (hg:guardOf ops.toList i o=some g) (hw:B8 g ρ=some t)
  (hr:∀d∈AA ops.toList o,RV m (ρ d) (a.tmps.getD d undef)):Region.wanted o (yielded ops a.tmps)=t:=by
 unfold guardOf at hg
 unfold Region.wanted
 cases hgd:o.guard with
 |
  none =>
  rw[hgd] at hg
  cases hg
  cases hw
  rfl
 |
  some jw =>
  obtain⟨j,want⟩:=jw
  rw[hgd] at hg
  simp only at hg
  split at hg
  ·split at hg
   ·rename_i d hd
    cases hg
    have Om:d∈AA ops.toList o:=by
     unfold AA
     rw[hgd]
     simp only[List.mem_append]
     right
     rw[hd]
     simp
    have HQ:=hr d Om
    simp only[B8] at hw
    split at hw
    ·rename_i b hb
     cases hw
     rw[hb] at HQ
     generalize hx:a.tmps.getD d undef=x at HQ
     cases HQ
     have hy:yielded ops a.tmps j=some b:=by
      unfold yielded
      have hd':(ops[j]?).bind (·.dst)=some d:=by simpa using hd
      rw[hd',Option.bind_some,acD hx]
     simp only[hy]
     cases b<;>cases want<;>rfl
    ·rename_i vs hb
     cases hw
     rw[hb] at HQ
     generalize hx:a.tmps.getD d undef=x at HQ
     obtain⟨ws,rfl⟩:∃ws,x = .tuple ws:=by cases HQ;exact⟨_,rfl⟩
     have hd':(ops[j]?).bind (·.dst)=some d:=by simpa using hd
     have hy:yielded ops a.tmps j=none:=by
      unfold yielded
      rw[hd',Option.bind_some]
      rcases aKA d a.tmps.size with bH | bH
      ·have:a.tmps[d]? = some (.tuple ws):=by rw[←hx];simp[bH]
       rw[this]
      ·rw[aLb bH]
     simp only[hy]
     rfl
    ·cases hw
   ·cases hg
  ·cases hg
theorem aoC {E:C9} {p:qE} {lo gB:Nat} {ρ:Env} (h:gW E p = .quiet):pop lo p ρ H=pop gB p ρ H:=by
 cases p<;>first | rfl | (simp[gW] at h;done)
theorem HO {ops:List Oper} {o:Oper} {t:Nat} (h:Operand.tmp t∈o.op.operands):t∈AA ops o:=by
 unfold AA tmpsOf
 rw[List.mem_append]
 left
 rw[List.mem_filterMap]
 exact⟨.tmp t,by simpa using h,rfl⟩
theorem PN {op:Op} {p:qE} (h:tF P op=some p):∀x∈op.operands,TA x=true:=by
 intro x hx
 unfold tF at h
 split at h
 ·rename_i jW
  obtain⟨i,hi,rfl⟩:=Array.getElem_of_mem hx
  exact Array.all_eq_true.1 jW i hi
 ·cases h
theorem Su {E:C9} {n lo k:Nat} {ops:Array Oper} {o:Oper} {p:qE} {pi:PI} {call:iC} {ρ:Env} {v:Value} {H':aI} {a:Act} {K:Act→World→Prop} {Q:Exit→Act→World→Prop} (ho:ops[k]? = some o) (G3:ajB P E n ops.toList k o p pi)
  (hq:pi.quiet=true→gW E p = .quiet) (hv:BW call lo pi ρ H=some (v,H')) (hr:∀t∈AA ops.toList o,RV m (ρ t) (a.tmps.getD t undef)) (hR:Rel m L0 H w) (dR:L0≤lo) (hlen:L0≤H.length)
  (hf:∀b,H.length≤b→b<H'.length→m b=none) (qL:AM P L0 call)
  (hK:∀m' rv w',RV m' v rv→Rel m' L0 H' w'→Trans (if pi.quiet then H.length else lo) m H w m' H' w'→K (a.put o.dst rv) w'):wpOp P ops Q k K a w:=by
 have hro:∀x∈o.op.operands,RV m (ev ρ x) (a.eval x):=fun x hx=>XD (PN G3.abV x hx) fun t ht=>hr t (HO (ht▸hx))
 unfold wpOp
 rw[ho]
 simp only
 rcases yL hv with⟨hw,rfl,rfl⟩ | ⟨hw,_,hp | ⟨f,args,hp,hc⟩⟩
 ·rw[Ih G3.guard hw hr]
  simp only[aK9,if_false]
  exact hK m undef w (RV.undef m) hR (Trans.refl _ m _ w)
 ·rw[Ih G3.guard hw hr]
  simp only[if_true]
  left
  rw[G3.op] at hp
  have hs:cS P (execOp a.eval o) L0 (if pi.quiet then H.length else lo) m H w v H':=by
   split
   ·rename_i hqq
    rw[aoC (gB:=H.length) (hq hqq)] at hp
    exact YW G3.abV hp hro hR hlen hf
   ·exact YW G3.abV hp hro hR dR hf
  obtain⟨rv,w',m',sS,h1,h2,h3⟩:=hs
  unfold Oper.wp
  rcases sS with sS | ⟨sS,rfl⟩
  ·rw[sS]
   exact hK m' rv w' h1 h2 h3
  ·rw[sS]
   exact hK m' undef w' h1 h2 h3
 ·rw[Ih G3.guard hw hr]
  simp only[if_true]
  left
  rw[G3.op] at hp
  have aCr:L0≤(if pi.quiet then H.length else lo):=by split<;>assumption
  obtain⟨iV,W6,aBD⟩:=adS G3.abV hp hro
  have sS:=aBD (qL f args _ H v H' hc m w iV hR aCr hlen W6 hf).1
  unfold Oper.wp
  rw[sS w]
  show Calls P f iV.toArray w _
  refine(qL f args _ H v H' hc m w iV hR aCr hlen W6 hf).2.mono ?_
  rintro e w' ⟨m',rv,rfl,h1,h2,h3⟩
  exact hK m' rv w' h1 h2 h3
end
end Go.PM
namespace Go.PM
theorem JU {call:iC} {lo:Nat}:∀ {xC:List PI} {ρ aQ:Env} {H H':aI},jC call lo xC ρ H=some (aQ,H') →
  ∃st:Nat→Env×aI,st 0=(ρ,H)∧st xC.length=(aQ,H')∧∀i pi,xC[i]? = some pi→AU call lo pi (st i).1 (st i).2=some (st (i+1))
 |
  [],ρ,aQ,H,H',h=>by
  cases h
  exact⟨fun _=>(ρ,H),rfl,rfl,fun i pi hi=>by simp at hi⟩
 |
  x::xC,ρ,aQ,H,H',h=>by
  rw[jC] at h
  split at h
  ·rename_i AN H1 h1
   obtain⟨st,h2,h3,h4⟩:=JU h
   refine⟨fun i=>match i with | 0=>(ρ,H) | i+1=>st i,rfl,h3,fun i pi hi => ?_⟩
   cases i with
   |
    zero =>
    simp at hi
    subst hi
    show AU call lo x ρ H=some (st 0)
    rw[h1,h2]
   | succ i=>exact h4 i pi (by simpa using hi)
  ·cases h
theorem kL {H1 H2:aI} {b:Nat} (h:H2[b]? = H1[b]?):Live H2 b↔Live H1 b:=by
 unfold Live
 rw[h]
theorem Rel.restrict {m:dM} {L0:Nat} {H1 H2:aI} {w:World} (h:Rel m L0 H2 w) (hs:∀b,b<H1.length→H2[b]? = H1[b]?):Rel m L0 H1 w:=by
 refine⟨h.valid,fun b l cs e p hm hb=>h.row b l cs e p hm ?_,fun b1 b2 l1 l2 hb h1 h2 CQ IQ=>h.inj b1 b2 l1 l2 hb h1 h2 ((kL (hs b1 CQ.lt)).2 CQ) ((kL (hs b2 IQ.lt)).2 IQ),fun x hx=>⟨(h.Fu x hx).1,fun b l hb hm hl=>(h.Fu x hx).2 b l hb hm ((kL (hs b hl.lt)).2 hl)⟩⟩
 rw[hs b (aKw.1 hb).1]
 exact hb
theorem Rel.grow {m:dM} {L0:Nat} {H1 H2:aI} {w:World} (h:Rel m L0 H1 w) (hs:∀b,b<H1.length→H2[b]? = H1[b]?) (hd:∀b,H1.length≤b→b<H2.length→m b=none):Rel m L0 H2 w:=by
 have lt:∀b l,m b=some l→b<H2.length→b<H1.length:=fun b l hm hb=>by
  rcases aKA b H1.length with h | h
  ·exact h
  ·rw[hd b h hb] at hm;cases hm
 refine⟨h.valid,fun b l cs e p hm hb=>h.row b l cs e p hm ?_,fun b1 b2 l1 l2 hb h1 h2 CQ IQ=>h.inj b1 b2 l1 l2 hb h1 h2 ((kL (hs b1 (lt b1 l1 h1 CQ.lt))).1 CQ) ((kL (hs b2 (lt b2 l2 h2 IQ.lt))).1 IQ),fun x hx=>⟨(h.Fu x hx).1,fun b l hb hm hl=>(h.Fu x hx).2 b l hb hm ((kL (hs b (lt b l hm hl.lt))).1 hl)⟩⟩
 rw[←hs b (lt b l hm (aKw.1 hb).1)]
 exact hb
structure Text (P:Program) (E:C9) (n:Nat) (ops:Array Oper) (xC:List PI) (ps:List qE) (M:List Nat) (call:iC) (lo:Nat) (st:Nat→Env×aI):Prop where
 ok:auQ P E n ops.toList true xC ps M
 ext:vB call
 step:∀i pi,xC[i]? = some pi→AU call lo pi (st i).1 (st i).2=some (st (i+1))
section
variable {P:Program} {E:C9} {n:Nat} {ops:Array Oper} {xC:List PI} {ps:List qE} {M:List Nat} {call:iC} {lo:Nat} {st:Nat→Env×aI}
theorem Text.at (T:Text P E n ops xC ps M call lo st) {i:Nat} (hi:i<ops.size):∃o p pi,ops[i]? = some o∧ps[i]? = some p∧xC[i]? = some pi∧ajB P E n ops.toList i o p pi∧SJ E ops.toList ps M i o p pi ∧
  ∃v,BW call lo pi (st i).1 (st i).2=some (v,(st (i+1)).2)∧(st (i+1)).1=put (st i).1 o.dst v:=by
 have ho:ops.toList[i]? = some ops[i]:=by simp[hi]
 obtain⟨p,pi,h1,h2,h3,h4,_⟩:=T.ok.each i _ ho
 obtain⟨v,h5,h6⟩:=BG (T.step i pi h2)
 exact⟨ops[i],p,pi,by simp[hi],h1,h2,h3,h4 rfl,v,h5,by rw[h6,h3.dst]⟩
theorem Text.aB3 (T:Text P E n ops xC ps M call lo st) {i:Nat} (hi:i<ops.size):(st i).2.length≤(st (i+1)).2.length:=by
 obtain⟨o,p,pi,_,_,_,_,_,v,hv,_⟩:=T.at hi
 exact(NS T.ext hv).len
theorem Text.len (T:Text P E n ops xC ps M call lo st) {i:Nat}:∀ {j:Nat},i≤j→j≤ops.size→(st i).2.length≤(st j).2.length:=by
 intro j Qr
 induction j with
 | zero =>
    intro _;have:i=0:=by omega
    subst this;exact aKx _
 |
  succ j ih =>
  intro hj
  rcases aKA i (j+1) with h | h
  ·exact aKy (ih (by omega) (by omega)) (T.aB3 (by omega))
  ·have:i=j+1:=by omega
   subst this;exact aKx _
theorem Text.aCi (T:Text P E n ops xC ps M call lo st) {i:Nat} {p:qE} (hi:i<ops.size) (hp:ps[i]? = some p) (hw:gW E p ≠ .write):∀b,b<(st i).2.length→(st (i+1)).2[b]? = (st i).2[b]? := by
 intro b hb
 obtain⟨o,p',pi,_,BX,_,G3,hdr,v,hv,_⟩:=T.at hi
 rw[hp] at BX
 cases BX
 rcases yL hv with⟨_,_,h⟩ | ⟨_,_,h | ⟨f,args,h1,h2⟩⟩
 ·rw[h]
 ·rw[G3.op] at h
  by_cases hq:gW E p = .quiet
  ·rw[aoC (gB:=(st i).2.length) hq] at h
   exact(aaQ h).low b hb hb
  ·
   have:(st (i+1)).2=(st i).2:=by
    cases p<;>first
     | (exact absurd rfl hw)
     | (exact absurd rfl hq)
     | (rw[By rfl] at h;exact(Fx h).2)
     | skip
    case load agg size q =>
     simp only[pop] at h
     cases hl:qP agg size (ev (st i).1 q) (st i).2 with
     | none=>rw[hl] at h;cases h
     | some u=>rw[hl] at h;injection h with h;injection h with _ h;exact h.symm
    case b2s x =>
     simp only[pop] at h
     split at h
     ·injection h with h;injection h with _ h;exact h.symm
     ·split at h
      ·rename_i cs _
       cases hb:xP cs with
       | none=>rw[hb] at h;cases h
       | some bs=>rw[hb] at h;injection h with h;injection h with _ h;exact h.symm
      ·cases h
     ·cases h
    case sub size x l hh mx =>
     simp only[pop] at h
     cases mx with
     | some mx=>exact absurd rfl hq
     |
      none =>
      cases hs:Fc size (ev (st i).1 x) (l.map (ev (st i).1)) (hh.map (ev (st i).1)) ((none:Option Operand).map (ev (st i).1)) (st i).2 with
      | none=>rw[hs] at h;cases h
      |
       some q =>
       obtain⟨u,H1⟩:=q
       rw[hs] at h
       injection h with h;injection h with _ h
       subst h
       unfold Fc at hs
       simp only[Option.map_none,aLc,aK9,false_and,if_false] at hs
       repeat' (split at hs)
       all_goals first
        | (cases hs;done)
        | (injection hs with hs;injection hs with _ hs;exact hs.symm)
    case call f args=>cases h
   rw[this]
 ·rw[G3.op] at h1
  have hq:pi.quiet=true:=by
   rw[hdr.quiet]
   rcases wQ h1 with⟨g,as,rfl⟩ | ⟨g,as,rfl⟩
   ·simp only[gW] at hw ⊢
    split at hw
    ·exact absurd rfl hw
    ·rename_i h;rw[if_neg h]
   ·rfl
  rw[hq] at h2
  exact(T.ext _ _ _ _ _ _ h2).low b hb hb
end
end Go.PM
namespace Go.PM
theorem G5 {H H':aI} {lo b o:Nat} {new:List Value} (h:H.write lo b o new=some H') {b':Nat} (hb:b'≠b):H'[b']? = H[b']? := by
 obtain⟨cs,e,p,h1,h2,h3,h4,rfl⟩:=D0 h
 exact aKW (Ne.symm hb)
theorem L9 {H H':aI} {lo size bytes add:Nat} {x v:Value} {new:List Value} (h:fL lo size bytes x add new H=some (v,H')) {b':Nat} (hb:kP x≠some b') (bH:b'<H.length):H'[b']? = H[b']? := by
 unfold fL at h
 split at h
 case isFalse=>cases h
 split at h
 ·split at h
  ·split at h
   ·cases h;rfl
   ·split at h
    ·cases h;exact aKO bH
    ·cases h
  ·cases h
 ·rename_i b o n c
  have fS:b'≠b:=fun e=>hb (by rw[e];rfl)
  split at h
  ·split at h
   ·split at h
    ·split at h
     ·cases h;rfl
     ·cases hw:aI.write H lo b (o+n*size) new with
      | none=>rw[hw] at h;cases h
      | some H1=>rw[hw] at h;cases h;exact G5 hw fS
    ·split at h
     ·split at h
      ·split at h
       ·cases h
        rw[aKO (by simpa using bH)]
        exact aKW (Ne.symm fS)
       ·cases h
      ·cases h;exact aKO bH
     ·cases h
   ·cases h
  ·cases h
 ·cases h
theorem asP {E:C9} {lo:Nat} {p:qE} {ρ:Env} {H H':aI} {v:Value} {x:Operand} (h:pop lo p ρ H=some (.val v H')) (hw:gW E p = .write) (ht:HX p=some x) {b':Nat} (hb:kP (ev ρ x)≠some b') (bH:b'<H.length):H'[b']? = H[b']? := by
 cases p<;>first | (cases ht;done) | (cases hw;done) | skip
 case sub size y l hh mx=>cases mx<;>cases hw
 case store size q y =>
  cases ht
  simp only[pop] at h
  split at h
  ·rename_i b o he
   rw[he] at hb
   have fS:b'≠b:=fun e=>hb (by rw[e];rfl)
   split at h
   ·cases hw:H.write lo b o (aV (ev ρ y)) with
    | none=>rw[hw] at h;cases h
    | some H1=>rw[hw] at h;cases h;exact G5 hw fS
   ·cases h
  ·cases h
 case app size bytes y z =>
  cases ht
  simp only[pop] at h
  split at h
  ·rename_i n _
   split at h
   ·rename_i new _
    cases ha:fL lo size bytes (ev ρ x) n new H with
    | none=>rw[ha] at h;cases h
    |
     some q =>
     obtain⟨u,H1⟩:=q
     rw[ha] at h;cases h;exact L9 ha hb bH
   ·cases h
  ·cases h
 case appz z bytes y n =>
  cases ht
  simp only[pop] at h
  split at h
  ·rename_i k _
   split at h
   ·cases ha:fL lo z.length bytes (ev ρ x) k.toNat (dF k.toNat z) H with
    | none=>rw[ha] at h;cases h
    |
     some q =>
     obtain⟨u,H1⟩:=q
     rw[ha] at h;cases h;exact L9 ha hb bH
   ·cases h
  ·cases h
 case copy size y z =>
  cases ht
  simp only[pop] at h
  split at h
  ·cases h;rfl
  ·rename_i b o d _ s he _
   rw[he] at hb
   have fS:b'≠b:=fun e=>hb (by rw[e];rfl)
   split at h
   ·rename_i new _
    cases hw:H.write lo b o new with
    | none=>rw[hw] at h;cases h
    | some H1=>rw[hw] at h;cases h;exact G5 hw fS
   ·cases h
  ·cases h
 case clear z y =>
  cases ht
  simp only[pop] at h
  split at h
  ·cases h;rfl
  ·rename_i b o n _ he
   rw[he] at hb
   have fS:b'≠b:=fun e=>hb (by rw[e];rfl)
   split at h
   ·cases h;rfl
   ·cases hw:H.write lo b o (dF n z) with
    | none=>rw[hw] at h;cases h
    | some H1=>rw[hw] at h;cases h;exact G5 hw fS
  ·cases h
theorem SH {H:aI} {b o n:Nat} {cs:List Value} (h:H.read b o n=some cs):b<H.length:=by
 unfold aI.read at h
 split at h
 ·rename_i hb;exact(aKw.1 hb).1
 ·cases h
theorem ID {H H2:aI} {b o n:Nat} (h:H2[b]? = H[b]?):H2.read b o n=H.read b o n:=by
 unfold aI.read
 rw[h]
theorem XA {agg:Bool} {size:Nat} {x v:Value} {H H2:aI} (h:qP agg size x H=some v) (hb:∀b,kP x=some b→b<H.length→H2[b]? = H[b]?):qP agg size x H2=some v:=by
 unfold qP at h ⊢
 split at h
 ·rename_i b o
  have bH:b<H.length:=by
   split at h
   ·cases hr:H.read b o size with
    | none=>rw[hr] at h;cases h
    | some cs=>exact SH hr
   ·cases hr:H.read b o 1 with
    | none=>rw[hr] at h;cases h
    | some cs=>exact SH hr
  have e:=hb b rfl bH
  simp only[ID e]
  exact h
 ·cases h
theorem T1 {E:C9} {lo:Nat} {p:qE} {ρ:Env} {H H' H2:aI} {v:Value} (h:pop lo p ρ H=some (.val v H')) (hc:gW E p = .look) (hb:∀x,HX p=some x→∀b,kP (ev ρ x)=some b→b<H.length→H2[b]? = H[b]?) :
  H'=H∧pop lo p ρ H2=some (.val v H2):=by
 cases p<;>first | (cases hc;done) | skip
 case call f args=>simp only[gW] at hc;split at hc<;>cases hc
 case load agg size q =>
  simp only[pop] at h ⊢
  cases hl:qP agg size (ev ρ q) H with
  | none=>rw[hl] at h;cases h
  |
   some u =>
   rw[hl] at h
   cases h
   refine⟨rfl,?_⟩
   rw[XA hl (hb q rfl)]
   rfl
 case b2s x =>
  simp only[pop] at h ⊢
  split at h
  ·cases h;exact⟨rfl,rfl⟩
  ·rename_i b o n _ he
   split at h
   ·rename_i cs hr
    cases hbs:xP cs with
    | none=>rw[hbs] at h;cases h
    |
     some bs =>
     rw[hbs] at h
     cases h
     refine⟨rfl,?_⟩
     have e:=hb x rfl b (by rw[he];rfl) (SH hr)
     rw[ID e,hr]
     simp only[hbs]
     rfl
   ·cases h
  ·cases h
 case sub size x l hh mx =>
  cases mx with
  | some mx=>cases hc
  |
   none =>
   simp only[pop] at h ⊢
   cases hs:Fc size (ev ρ x) (l.map (ev ρ)) (hh.map (ev ρ)) ((none:Option Operand).map (ev ρ)) H with
   | none=>rw[hs] at h;cases h
   |
    some q =>
    obtain⟨u,H1⟩:=q
    rw[hs] at h
    cases h
    have xF:=hb x rfl
    generalize ev ρ x=xv at hs xF
    have key:H1=H∧Fc size xv (l.map (ev ρ)) (hh.map (ev ρ)) ((none:Option Operand).map (ev ρ)) H2=some (u,H2):=by
     unfold Fc at hs ⊢
     simp only[Option.map_none,aLc,aK9,false_and,if_false] at hs ⊢
     split at hs
     ·repeat' (split at hs)
      all_goals first | (cases hs;done) | skip
      cases hs
      simp_all
     ·rename_i b o n c
      split at hs
      ·rename_i cs e p lL
       have e1:=xF b rfl (aKw.1 lL).1
       rw[e1,lL]
       simp only
       repeat' (split at hs)
       all_goals first | (cases hs;done) | skip
       cases hs
       simp_all
      ·cases hs
     ·cases hs
    rw[key.2]
    exact⟨key.1,rfl⟩
section
variable {P:Program} {E:C9} {n:Nat} {ops:Array Oper} {xC:List PI} {ps:List qE} {M:List Nat} {call:iC} {lo:Nat} {st:Nat→Env×aI}
theorem Text.alA (T:Text P E n ops xC ps M call lo st) {i:Nat}:∀ {j:Nat},i≤j→j≤ops.size→Ext lo (st i).2 (st j).2:=by
 intro j Qr
 induction j with
 | zero =>
    intro _;have:i=0:=by omega
    subst this;exact Ext.refl _ _
 |
  succ j ih =>
  intro hj
  rcases aKA i (j+1) with h | h
  ·obtain⟨o,p,pi,_,_,_,_,_,v,hv,_⟩:=T.at (i:=j) (by omega)
   exact(ih (by omega) (by omega)).trans (NS T.ext hv)
  ·have:i=j+1:=by omega
   subst this;exact Ext.refl _ _
theorem Text.akP (T:Text P E n ops xC ps M call lo st) {i:Nat}:∀ {j:Nat},i≤j→j≤ops.size→∀b,b<(st i).2.length →
  (∀k,i≤k→k<j→∀p pi,ps[k]? = some p→xC[k]? = some pi→gW E p = .write→B8 pi.g (st k).1=some true→∃x,HX p=some x∧kP (ev (st k).1 x)≠some b) →
  (st j).2[b]? = (st i).2[b]? := by
 intro j Qr
 induction j with
 | zero =>
      intro _ b _ _;have:i=0:=by omega
      subst this;rfl
 |
  succ j ih =>
  intro hj b hb hk
  rcases aKA i (j+1) with h | h
  ·have bH:b<(st j).2.length:=aKz hb (T.len (by omega) (by omega))
   have h1:(st (j+1)).2[b]? = (st j).2[b]? := by
    obtain⟨o,p,pi,_,hp,hpi,G3,_,v,hv,_⟩:=T.at (i:=j) (by omega)
    by_cases hw:gW E p = .write
    ·rcases yL hv with⟨_,_,h⟩ | ⟨hwt,_,h | ⟨f,args,h1,h2⟩⟩
     ·rw[h]
     ·rw[G3.op] at h
      obtain⟨x,hx,fS⟩:=hk j (by omega) (by omega) p pi hp hpi hw hwt
      exact asP h hw hx fS bH
     ·rw[G3.op] at h1
      obtain⟨x,hx,fS⟩:=hk j (by omega) (by omega) p pi hp hpi hw hwt
      rcases wQ h1 with⟨g,as,rfl⟩ | ⟨g,as,rfl⟩<;>cases hx
    ·exact T.aCi (by omega) hp hw b bH
   rw[h1]
   exact ih (by omega) (by omega) b hb fun k hk1 Yj=>hk k hk1 (by omega)
  ·have:i=j+1:=by omega
   subst this;rfl
theorem Text.same (T:Text P E n ops xC ps M call lo st) {i j:Nat} (Qr:i≤j) (hj:j≤ops.size) (hk:∀k,i≤k→k<j→∀p,ps[k]? = some p→gW E p ≠ .write):∀b,b<(st i).2.length→(st j).2[b]? = (st i).2[b]? :=
 fun b hb=>T.akP Qr hj b hb fun k h1 h2 p _ hp _ hw _=>absurd hw (hk k h1 h2 p hp)
theorem Text.Sq (T:Text P E n ops xC ps M call lo st) {i t:Nat}:∀ {j:Nat},i≤j→j≤ops.size→(∀k o,i≤k→k<j→ops[k]? = some o→o.dst≠some t)→(st j).1 t=(st i).1 t:=by
 intro j Qr
 induction j with
 | zero =>
      intro _ _;have:i=0:=by omega
      subst this;rfl
 |
  succ j ih =>
  intro hj hk
  rcases aKA i (j+1) with h | h
  ·obtain⟨o,p,pi,ho,hp,hpi,G3,_,v,hv,he⟩:=T.at (i:=j) (by omega)
   rw[he]
   have fS:=hk j o (by omega) (by omega) ho
   have h1:put (st j).1 o.dst v t=(st j).1 t:=by
    cases hd:o.dst with
    | none=>rfl
    |
     some d =>
     rw[hd] at fS
     show (if t=d then v else _)=_
     rw[if_neg (fun e=>fS (by rw[e]))]
   rw[h1]
   exact ih (by omega) (by omega) fun k o hk1 Yj=>hk k o hk1 (by omega)
  ·have:i=j+1:=by omega
   subst this;rfl
end
end Go.PM
namespace Go.PM
theorem Bp {M:List Nat} {i j:Nat} (h:i<j):ahead M i j=(M.getD j 0).testBit i:=by
 unfold ahead
 have e1:Nat.max i j=j:=Nat.max_eq_right (by omega)
 have e2:aK4 i j=i:=Nat.min_eq_left (by omega)
 rw[e1,e2]
theorem akW {M:List Nat} {i j:Nat} (h:j<i):ahead M i j=(M.getD i 0).testBit j:=by
 unfold ahead
 have e1:Nat.max i j=i:=Nat.max_eq_left (by omega)
 have e2:aK4 i j=j:=Nat.min_eq_right (by omega)
 rw[e1,e2]
theorem US {a:Act} {d t:Nat} {v:Value} (hd:d<a.tmps.size):(a.put (some d) v).tmps.getD t undef=if t=d then v else a.tmps.getD t undef:=by
 show (a.tmps.setIfInBounds d v).getD t undef=_
 rcases aKA t a.tmps.size with h | h
 ·by_cases e:t=d
  ·subst e;simp[h]
  ·simp[h,e,Ne.symm e]
 ·have:t≠d:=by omega
  simp[h,this]
theorem Jb (a:Act) (d:Option Nat) (v:Value):(a.put d v).tmps.size=a.tmps.size:=by
 cases d<;>simp[Act.put]
theorem JQ (a:Act) (d:Option Nat) (v:Value):(a.put d v).defers=a.defers:=by
 cases d<;>rfl
section
variable {P:Program} {E:C9} {n:Nat} {ops:Array Oper} {xC:List PI} {ps:List qE} {M:List Nat} {call:iC} {lo L0:Nat} {st:Nat→Env×aI}
structure wP (E:C9) (n:Nat) (ops:Array Oper) (ps:List qE) (lo L0:Nat) (st:Nat→Env×aI) (m0:dM) (w0:World) (ds:List Deferred) (S:Nat→Prop) (m:dM) (c:Nat) (a:Act) (w:World):Prop where
 J9:a.tmps.size=n
 defs:a.defers=ds
 back:∀i o,ops.toList[i]? = some o→S i→∀e∈o.after.toList,Region.binds .any e=true→S e.on
 tm:∀t j,j≤ops.size→(∀i o,ops.toList[i]? = some o→o.dst=some t→(S i↔i<j))→RV m ((st j).1 t) (a.tmps.getD t undef)
 Rc:c≤ops.size
 before:∀i p,i<c→ps[i]? = some p→gW E p = .write→S i
 atc:c<ops.size→¬S c∧∃p,ps[c]? = some p∧gW E p = .write
 rel:Rel m L0 (st c).2 w
 tr:Trans lo m0 (st 0).2 w0 m (st c).2 w
 dom:∀b l,m b=some l→m0 b≠none∨∃i,S i∧i<ops.size∧(st i).2.length≤b∧b<(st (i+1)).2.length
theorem Text.anc (T:Text P E n ops xC ps M call lo st) {S:Nat→Prop} (hS:∀i o,ops.toList[i]? = some o→S i→∀e∈o.after.toList,Region.binds .any e=true→S e.on) {k:Nat} {o:Oper} (ho:ops.toList[k]? = some o)
  (hk:∀e∈o.after.toList,Region.binds .any e=true→S e.on) {i:Nat} (hi:(M.getD k 0).testBit i=true):S i :=
 X1 (fun i o hio=>by
   obtain⟨p,pi,_,_,_,hd,_⟩:=T.ok.each i o hio
   exact(hd rfl).back) (fun i o hio=>by
   obtain⟨p,pi,_,_,_,hd,_⟩:=T.ok.each i o hio
   exact(hd rfl).mask) hS k o ho hk i hi
theorem Text.ZS (T:Text P E n ops xC ps M call lo st) {i:Nat} {p:qE} (hi:i<ops.size) (hp:ps[i]? = some p) (h:gW E p = .pure∨gW E p = .look):(st (i+1)).2=(st i).2:=by
 obtain⟨o,p',pi,_,BX,_,G3,hdr,v,hv,_⟩:=T.at hi
 rw[hp] at BX
 cases BX
 rcases yL hv with⟨_,_,h'⟩ | ⟨_,_,h' | ⟨f,args,h1,h2⟩⟩
 ·exact h'
 ·rw[G3.op] at h'
  rcases h with h | h
  ·have:yJ p=true:=by
    cases p<;>first | rfl | (cases h;done) | skip
    case sub s x l hh mx=>cases mx<;>cases h
    case call f as=>simp only[gW] at h;split at h<;>cases h
   rw[By this] at h'
   exact(Fx h').2
  ·exact(T1 h' h (fun _ _ _ _ _=>rfl)).1
 ·exfalso
  rw[G3.op] at h1
  rcases wQ h1 with⟨g,as,rfl⟩ | ⟨g,as,rfl⟩
  ·simp only[gW] at h
   split at h<;>rcases h with h | h<;>cases h
  ·rcases h with h | h<;>cases h
theorem aeC {op:Op} {p:qE} {x:Operand} (h:tF P op=some p) (ht:HX p=some x):x∈op.operands:=by
 unfold tF at h
 split at h
 case isFalse=>cases h
 cases op with
 |
  load t q =>
  dsimp only at h
  cases hi:oI P t with
  | none=>rw[hi] at h;cases h
  | some u=>rw[hi] at h;cases h;cases ht;simp[Op.operands]
 |
  store t q v =>
  dsimp only at h
  cases hi:P.info? t with
  | none=>rw[hi] at h;cases h
  | some u=>rw[hi] at h;cases h;cases ht;simp[Op.operands]
 |
  slice t y l hh mx =>
  dsimp only at h
  split at h
  ·split at h
   ·cases h;cases ht
   ·cases h
  ·rename_i e _
   cases hi:oI P e with
   | none=>rw[hi] at h;cases h
   | some u=>rw[hi] at h;cases h;cases ht;simp[Op.operands]
  ·cases h
 |
  convert s d y =>
  dsimp only at h
  repeat' (split at h)
  all_goals first
   | (cases h;done)
   | (cases h;cases ht;done)
   | (cases h;cases ht;simp[Op.operands])
 |
  call c =>
  obtain⟨callee,args,ts⟩:=c
  cases callee with
  |
   builtin b =>
   simp only[sE] at h
   repeat' (split at h)
   all_goals first
    | (cases h;done)
    | (cases h;cases ht;done)
    | skip
   all_goals
    cases h
    cases ht
    have hm:x∈args.toList:=by simp_all
    simpa[Op.operands,Call.operands] using hm
  |
   value f =>
   cases f with
   | tmp g'=>cases h;cases ht
   | func g'=>cases h;cases ht
   | _=>cases h
  | invoke r s=>cases h
 |
  _ =>
  exfalso
  dsimp only at h
  try unfold Eg at h
  repeat' (split at h)
  all_goals first
   | contradiction
   | (cases h;done)
   | (cases h;cases ht;done)
   | exact map_none h (by intro y h;cases h;cases ht)
end
end Go.PM
namespace Go.PM
theorem Il (p:Nat→Prop):∀(d c N:Nat),N-c=d→c≤N→∃c',c≤c'∧c'≤N∧(∀i,c≤i→i<c'→¬p i)∧(c'<N→p c')
 | 0,c,N,hd,hc=>⟨c,aKx _,hc,fun i h1 h2=>by omega,fun h=>by omega⟩
 |
  d+1,c,N,hd,hc=>by
  by_cases hp:p c
  ·exact⟨c,aKx _,hc,fun i h1 h2=>by omega,fun _=>hp⟩
  ·obtain⟨c',h1,h2,h3,h4⟩:=Il p d (c+1) N (by omega) (by omega)
   refine⟨c',by omega,h2,fun i hi1 uU => ?_,h4⟩
   rcases aKA c i with h | h
   ·exact h3 i h uU
   ·have:i=c:=by omega
    subst this;exact hp
theorem alL {m:dM} {v r:Value} {b:Nat} (h:RV m v r) (hb:kP v=some b):∃l,m b=some l:=by
 cases h<;>first | (cases hb;done) | (cases hb;exact⟨_,by assumption⟩)
section
variable {P:Program} {E:C9} {n:Nat} {ops:Array Oper} {xC:List PI} {ps:List qE} {M:List Nat} {call:iC} {lo L0:Nat} {st:Nat→Env×aI}
 {m0:dM} {w0:World} {ds:List Deferred} {S:Nat→Prop} {m:dM} {c:Nat} {a:Act} {w:World} {k:Nat} {o:Oper} {p:qE} {pi:PI}
structure At (P:Program) (E:C9) (n:Nat) (ops:Array Oper) (xC:List PI) (ps:List qE) (M:List Nat) (S:Nat→Prop) (k:Nat) (o:Oper) (p:qE) (pi:PI):Prop where
 lt:k<ops.size
 eo:ops[k]? = some o
 ep:ps[k]? = some p
 epi:xC[k]? = some pi
 ok:ajB P E n ops.toList k o p pi
 dr:SJ E ops.toList ps M k o p pi
 aDn:¬S k
 anc:∀i,(M.getD k 0).testBit i=true→S i
 desc:∀i,i<ops.size→S i→(M.getD i 0).testBit k=true→False
theorem At.ah (A:At P E n ops xC ps M S k o p pi) {i:Nat} (hi:i<ops.size) (h:i=k∨ahead M k i=true):S i↔i<k:=by
 rcases aLd i k with h1 | h1 | h1
 ·refine⟨fun _=>h1,fun _ => ?_⟩
  rcases h with h | h
  ·omega
  ·rw[akW h1] at h;exact A.anc i h
 ·subst h1
  exact⟨fun h=>absurd h A.aDn,fun h=>by omega⟩
 ·refine⟨fun hs => ?_,fun h=>by omega⟩
  rcases h with h | h
  ·omega
  ·rw[Bp h1] at h;exact absurd h (fun h=>A.desc i hi hs h)
theorem IL {i:Nat} {oi:Oper} (h:ops.toList[i]? = some oi):i<ops.size:=by
 have:=(aKw.1 h).1
 simpa using this
theorem At.reads (A:At P E n ops xC ps M S k o p pi) (I:wP E n ops ps lo L0 st m0 w0 ds S m c a w):∀t∈AA ops.toList o,RV m ((st k).1 t) (a.tmps.getD t undef):=by
 intro t ht
 refine I.tm t k (aLe A.lt) fun i oi hi hd => ?_
 exact A.ah (IL hi) (A.dr.Rx t (List.mem_append_right _ ht) i oi hi hd)
theorem At.operand (A:At P E n ops xC ps M S k o p pi) (I:wP E n ops ps lo L0 st m0 w0 ds S m c a w) {x:Operand} (hx:x∈o.op.operands):RV m (ev (st k).1 x) (a.eval x) :=
 XD (PN A.ok.abV x hx) fun t ht=>A.reads I t (HO (ht▸hx))
theorem At.pair (T:Text P E n ops xC ps M call lo st) {i j:Nat} {p q:qE} (Qr:i<j) (hj:j<ops.size) (hp:ps[i]? = some p) (hq:ps[j]? = some q):∃qi,xC[j]? = some qi∧Hl E ops.toList M i j p q qi.cf:=by
 obtain⟨o,q',qi,_,Oq,hqi,_,hd,_⟩:=T.at hj
 rw[hq] at Oq
 cases Oq
 exact⟨qi,hqi,hd.aAF i Qr p hp⟩
theorem wP.late (T:Text P E n ops xC ps M call lo st) (I:wP E n ops ps lo L0 st m0 w0 ds S m c a w) {i:Nat} {q:qE} (hi:c<i) (hn:i<ops.size) (hS:S i) (hq:ps[i]? = some q):gW E q = .pure∨gW E q = .look:=by
 obtain⟨hcS,pc,hpc,TY⟩:=I.atc (by omega)
 obtain⟨qi,_,lE⟩:=At.pair T hi hn hpc hq
 unfold Hl at lE
 rw[TY] at lE
 obtain⟨oi,_,_,hoi,_⟩:=T.at hn
 have VO:ops.toList[i]? = some oi:=by simpa using hoi
 have fin:ahead M c i=true→False:=fun h=>by
  rw[Bp hi] at h
  exact hcS (T.anc I.back VO (I.back i oi VO hS) h)
 cases mJ:gW E q with
 | pure=>exact .inl rfl
 | look=>exact .inr rfl
 | quiet=>rw[mJ] at lE;exact absurd lE fin
 | write=>rw[mJ] at lE;exact absurd lE fin
theorem wP.Rx (T:Text P E n ops xC ps M call lo st) (I:wP E n ops ps lo L0 st m0 w0 ds S m c a w) (A:At P E n ops xC ps M S k o p pi) {m':dM} {v rv:Value} (hm:∀b l,m b=some l→m' b=some l) (hv:RV m' v rv)
  (he:(st (k+1)).1=put (st k).1 o.dst v):∀t j,j≤ops.size→(∀i o,ops.toList[i]? = some o→o.dst=some t→((i=k∨S i)↔i<j))→RV m' ((st j).1 t) ((a.put o.dst rv).tmps.getD t undef):=by
 intro t j hj hw
 have G3:ops.toList[k]? = some o:=by simpa using A.eo
 cases hd:o.dst with
 |
  none =>
  show RV m' _ (a.tmps.getD t undef)
  refine(I.tm t j hj fun i oi hi hdi => ?_).mono hm
  have fS:i≠k:=fun e=>by subst e;rw[G3] at hi;cases hi;rw[hd] at hdi;cases hdi
  rw[←hw i oi hi hdi]
  simp[fS]
 |
  some d =>
  rw[US (by rw[I.J9];exact A.ok.bound d hd)]
  by_cases htd:t=d
  ·subst htd
   rw[if_pos rfl]
   have hkj:k<j:=(hw k o G3 hd).1 (.inl rfl)
   have e1:(st j).1 t=(st (k+1)).1 t:=by
    refine T.Sq hkj hj fun i oi hi1 uU hoi hdi => ?_
    have VO:ops.toList[i]? = some oi:=by simpa using hoi
    have hS:=(hw i oi VO hdi).2 uU
    have V9:i≠k:=by omega
    have:=(A.ah (IL VO) (A.dr.Rx t (List.mem_append_left _ (by rw[hd];simp)) i oi VO hdi)).1 (hS.resolve_left V9)
    omega
   rw[e1,he,hd]
   show RV m' (if t=t then v else _) rv
   rw[if_pos rfl]
   exact hv
  ·rw[if_neg htd]
   refine(I.tm t j hj fun i oi hi hdi => ?_).mono hm
   have fS:i≠k:=fun e=>by subst e;rw[G3] at hi;cases hi;rw[hd] at hdi;cases hdi;exact htd rfl
   rw[←hw i oi hi hdi]
   simp[fS]
theorem wP.aiQ (I:wP E n ops ps lo L0 st m0 w0 ds S m c a w) (A:At P E n ops xC ps M S k o p pi) (hr:∀e∈o.after.toList,Region.binds .any e=true→S e.on) :
  ∀i oi,ops.toList[i]? = some oi→(i=k∨S i)→∀e∈oi.after.toList,Region.binds .any e=true→(e.on=k∨S e.on):=by
 intro i oi hi hS e he hb
 rcases hS with rfl | hS
 ·have:ops.toList[i]? = some o:=by simpa using A.eo
  rw[this] at hi
  cases hi
  exact .inr (hr e he hb)
 ·exact .inr (I.back i oi hi hS e he hb)
theorem JW (T:Text P E n ops xC ps M call lo st) {i j:Nat} {x:Operand} (Qr:i≤j) (hj:j≤ops.size) (h:Gu ops.toList i j x=true):ev (st j).1 x=ev (st i).1 x:=by
 cases x with
 |
  tmp t =>
  refine T.Sq Qr hj fun q oq h1 h2 hoq hd => ?_
  have jW:=aKL.1 h oq (by
   have aEB:ops.toList[q]? = some oq:=by simpa using hoq
   rw[List.mem_iff_getElem?]
   refine⟨q-i,?_⟩
   rw[List.getElem?_drop,List.getElem?_take,show i+(q-i)=q by omega,if_pos h2,aEB])
  simp[hd] at jW
 | const v=>rfl
 | global g=>rfl
 | func f=>rfl
theorem wP.look (T:Text P E n ops xC ps M call lo st) (I:wP E n ops ps lo L0 st m0 w0 ds S m c a w) (A:At P E n ops xC ps M S k o p pi) (Ej:∀b,(st 0).2.length≤b→b<(st ops.size).2.length→m0 b=none)
  (mJ:gW E p = .pure∨gW E p = .look) {v:Value} (hv:BW call lo pi (st k).1 (st k).2=some (v,(st (k+1)).2)):BW call lo pi (st k).1 (st c).2=some (v,(st c).2):=by
 rcases yL hv with⟨hw,rfl,_⟩ | ⟨hw,TV,hp | ⟨f,args,hp,_⟩⟩
 ·unfold BW
  rw[hw]
 ·unfold BW
  rw[hw]
  simp only[TV,if_true]
  have key:pop lo pi.op (st k).1 (st c).2=some (.val v (st c).2):=by
   rw[A.ok.op] at hp ⊢
   rcases mJ with mJ | mJ
   ·have hlp:yJ p=true:=by
     cases p<;>first | rfl | (cases mJ;done) | skip
     case sub s x l hh mx=>cases mx<;>cases mJ
     case call f as=>simp only[gW] at mJ;split at mJ<;>cases mJ
    rw[By hlp] at hp ⊢
    rw[(Fx hp).1]
    rfl
   ·refine(T1 hp mJ fun x hx b hb bH => ?_).2
    rcases aKA c k with hck | hck
    ·obtain⟨hcS,pc,hpc,TY⟩:=I.atc (Nat.lt_trans hck A.lt)
     have Pc:b<(st c).2.length:=by
      rcases aKA b (st c).2.length with h | h
      ·exact h
      ·exfalso
       obtain⟨l,hl⟩:=alL (A.operand I (aeC A.ok.abV hx)) hb
       have h0:=T.len (i:=0) (j:=c) (aK1 _) I.Rc
       have h1:=T.len (i:=k) (j:=ops.size) (aLe A.lt) (aKx _)
       rcases I.dom b l hl with h2 | ⟨i,hiS,bW,hi1,uU⟩
       ·exact h2 (Ej b (by omega) (by omega))
       ·rcases aLd i c with h3 | h3 | h3
        ·have:=T.len (i:=i+1) (j:=c) h3 I.Rc
         omega
        ·subst h3;exact hcS hiS
        ·obtain⟨oi,qi,pii,_,hqi,_⟩:=T.at bW
         have:=I.late T h3 bW hiS hqi
         rw[T.ZS bW hqi this] at uU
         omega
     refine(T.akP (aLe hck) (aLe A.lt) b Pc fun j hj1 Hh q qi hq hqi hqw auM => ?_).symm
     obtain⟨pi',aBc,lE⟩:=At.pair T Hh A.lt hq A.ep
     rw[A.epi] at aBc
     cases aBc
     unfold Hl at lE
     rw[hqw,mJ] at lE
     rcases lE with h | ⟨xa,xb,ha,xF,hun,Om⟩
     ·exfalso
      rw[Bp Hh] at h
      have hjS:=A.anc j h
      rcases aKA c j with h3 | h3
      ·rcases I.late T h3 (Nat.lt_trans Hh A.lt) hjS hq with h4 | h4<;>(rw[hqw] at h4;cases h4)
      ·have:j=c:=by omega
       subst this;exact hcS hjS
     ·rw[hx] at xF
      cases xF
      refine⟨xa,ha,fun e => ?_⟩
      have hk:=aKL.1 TV _ Om
      unfold DG at hk
      rw[JW T (aLe Hh) (aLe A.lt) hun,e,hb] at hk
      simp at hk
    ·refine T.akP hck I.Rc b bH fun j hj1 Hh q qi hq hqi hqw auM => ?_
     have TO:k<j:=by
      rcases aKA k j with h | h
      ·exact h
      ·have:j=k:=by omega
       subst this
       rw[A.ep] at hq
       cases hq
       rw[hqw] at mJ
       cases mJ
     have Eu:j<ops.size:=aKz Hh I.Rc
     obtain⟨oj,q',qi',hoj,Oq,anB,aJw,_,vj,hvj,_⟩:=T.at Eu
     rw[hq] at Oq
     cases Oq
     rw[hqi] at anB
     cases anB
     obtain⟨qi',anB,lE⟩:=At.pair T TO Eu A.ep hq
     rw[hqi] at anB
     cases anB
     unfold Hl at lE
     rw[hqw,mJ] at lE
     rcases lE with h | ⟨xa,xb,ha,xF,hun,Om⟩
     ·exfalso
      rw[Bp TO] at h
      exact A.desc j Eu (I.before j q Hh hq hqw) h
     ·rw[hx] at ha
      cases ha
      refine⟨xb,xF,fun e => ?_⟩
      have aDB:qi.cf.all (DG (st j).1)=true:=by
       rcases yL hvj with⟨h,_⟩ | ⟨_,h,_⟩
       ·rw[auM] at h;cases h
       ·exact h
      have hk:=aKL.1 aDB _ Om
      unfold DG at hk
      rw[JW T (aLe TO) (aLe Eu) hun,e,hb] at hk
      simp at hk
  rw[key]
 ·exfalso
  rw[A.ok.op] at hp
  rcases wQ hp with⟨g,as,rfl⟩ | ⟨g,as,rfl⟩
  ·simp only[gW] at mJ
   split at mJ<;>rcases mJ with h | h<;>cases h
  ·rcases mJ with h | h<;>cases h
end
end Go.PM
namespace Go.PM
section
variable {P:Program} {E:C9} {n:Nat} {ops:Array Oper} {xC:List PI} {ps:List qE} {M:List Nat} {call:iC} {lo L0:Nat} {st:Nat→Env×aI}
 {m0:dM} {w0:World} {ds:List Deferred}
theorem JN {H:aI} {b:Nat} (h:H.length≤b):¬Live H b:=fun hl=>by have:=hl.lt;omega
theorem ajM {S:Nat→Prop} {m:dM} {c:Nat} {a:Act} {w:World} {k:Nat} {o:Oper} (T:Text P E n ops xC ps M call lo st) (qL:AM P L0 call) (dR:L0≤lo) (Co:L0≤(st 0).2.length)
  (Ej:∀b,(st 0).2.length≤b→b<(st ops.size).2.length→m0 b=none) (I:wP E n ops ps lo L0 st m0 w0 ds S m c a w) (ho:ops[k]? = some o) (hkS:¬S k)
  (hr:∀e∈o.after.toList,Region.binds .any e=true→S e.on) {K:Act→World→Prop} {Q:Exit→Act→World→Prop}
  (hK:∀m' c' a' w',wP E n ops ps lo L0 st m0 w0 ds (fun i=>i=k∨S i) m' c' a' w'→K a' w'):wpOp P ops Q k K a w:=by
 have bH:k<ops.size:=(aKG.1 ho).1
 obtain⟨o',p,pi,ho',hp,hpi,G3,hdr,v,hv,he⟩:=T.at bH
 rw[ho] at ho'
 cases ho'
 have ho2:ops.toList[k]? = some o:=by simpa using ho
 have A:At P E n ops xC ps M S k o p pi:=⟨bH,ho,hp,hpi,G3,hdr,hkS,fun i hi=>T.anc I.back ho2 hr hi,fun i hi hS hb=>by
  have hio:ops.toList[i]? = some ops[i]:=by simp[hi]
  exact hkS (T.anc I.back hio (I.back i _ hio hS) hb)⟩
 have YU:=A.reads I
 have avC:=T.len (i:=0) (j:=c) (aK1 _) I.Rc
 have aCe:=T.len (i:=c) (j:=ops.size) I.Rc (aKx _)
 have aBn:=T.len (i:=0) (j:=k) (aK1 _) (aLe bH)
 have aDO:=T.len (i:=k+1) (j:=ops.size) bH (aKx _)
 have aFB:=T.aB3 bH
 have hfk:∀b,(st k).2.length≤b→b<(st (k+1)).2.length→m b=none:=by
  intro b h1 h2
  cases hm:m b with
  | none=>rfl
  |
   some l =>
   exfalso
   rcases I.dom b l hm with h3 | ⟨i,hiS,bW,hi1,uU⟩
   ·exact h3 (Ej b (by omega) (by omega))
   ·rcases aLd i k with h3 | h3 | h3
    ·have:=T.len (i:=i+1) (j:=k) h3 (aLe bH)
     omega
    ·subst h3;exact hkS hiS
    ·have:=T.len (i:=k+1) (j:=i) h3 (aLe bW)
     omega
 have Uc:(gW E p = .pure∨gW E p = .look)→wpOp P ops Q k K a w:=by
  intro mJ
  have hq:pi.quiet=false:=by
   rw[hdr.quiet]
   rcases mJ with h | h<;>rw[h]
  have hw:gW E p ≠ .write:=by rcases mJ with h | h<;>(rw[h];exact fun h=>by cases h)
  refine Su ho G3 (fun h=>by rw[hq] at h;cases h) (I.look T A Ej mJ hv) YU I.rel dR (aKy Co avC) (fun b h1 h2=>by omega) qL fun m' rv w' XT hR hT => ?_
  rw[hq] at hT
  simp only[aK9,if_false] at hT
  have hmm:m'=m:=by
   funext b
   cases hm:m b with
   | some l=>exact hT.ext b l hm
   |
    none =>
    cases hm':m' b with
    | none=>rfl
    | some l=>have:=(hT.new b l hm' hm).1;omega
  subst hmm
  refine hK m' c _ w' ⟨by rw[Jb];exact I.J9,by rw[JQ];exact I.defs,I.aiQ A hr,I.Rx T A (fun _ _ h=>h) XT he,I.Rc,fun i q h1 h2 h3 => .inr (I.before i q h1 h2 h3),?_,hR,?_,?_⟩
  ·intro h
   obtain⟨h1,q,h2,h3⟩:=I.atc h
   refine⟨fun hS=>hS.elim (fun e => ?_) h1,q,h2,h3⟩
   subst e
   rw[hp] at h2
   cases h2
   exact hw h3
  ·exact Trans.trans (fun b h1 h2=>Ej b h1 (by omega)) (T.alA (aK1 _) I.Rc) (Ext.refl _ _) I.tr hT
  ·intro b l hb
   exact(I.dom b l hb).imp id fun⟨i,h1,h2⟩=>⟨i,.inr h1,h2⟩
 cases mJ:gW E p with
 |
  write =>
  have hkc:k=c:=by
   rcases aLd k c with h | h | h
   ·exact absurd (I.before k p h hp mJ) hkS
   ·exact h
   ·exfalso
    obtain⟨hcS,pc,hpc,TY⟩:=I.atc (by omega)
    obtain⟨qi,_,lE⟩:=At.pair T h bH hpc hp
    unfold Hl at lE
    rw[TY,mJ] at lE
    simp only at lE
    rw[Bp h] at lE
    exact hcS (A.anc c lE)
  subst hkc
  refine Su ho G3 (fun hq=>by rw[hdr.quiet,mJ] at hq;cases hq) hv YU I.rel dR (aKy Co avC) hfk qL fun m' rv w' XT hR hT => ?_
  have hq:pi.quiet=false:=by rw[hdr.quiet,mJ]
  rw[hq] at hT
  simp only[aK9,if_false] at hT
  obtain⟨c',hc1,hc2,hc3,hc4⟩:=Il (fun i=>∃q,ps[i]? = some q∧gW E q = .write) _ (k+1) ops.size rfl bH
  have RN:∀b,b<(st (k+1)).2.length→(st c').2[b]? = (st (k+1)).2[b]? := T.same hc1 hc2 fun i h1 h2 q hq hw=>hc3 i h1 h2 ⟨q,hq,hw⟩
  have aEv:=T.len hc1 hc2
  have aCf:=T.len (i:=c') (j:=ops.size) hc2 (aKx _)
  have aBX:∀b l,m' b=some l→m0 b≠none∨∃i,(i=k∨S i)∧i<ops.size∧(st i).2.length≤b∧b<(st (i+1)).2.length:=by
   intro b l hb
   cases hm:m b with
   | some l'=>exact(I.dom b l' hm).imp id fun⟨i,h1,h2⟩=>⟨i,.inr h1,h2⟩
   | none=>exact .inr ⟨k,.inl rfl,bH,(hT.new b l hb hm).1⟩
  have azQ:∀b,(st (k+1)).2.length≤b→b<(st c').2.length→m' b=none:=by
   intro b h1 h2
   cases hm:m' b with
   | none=>rfl
   |
    some l =>
    exfalso
    rcases aBX b l hm with h3 | ⟨i,hiS,bW,hi1,uU⟩
    ·exact h3 (Ej b (by omega) (by omega))
    ·rcases aLd i k with h3 | h3 | h3
     ·have:=T.len (i:=i+1) (j:=k) h3 (aLe bH)
      omega
     ·subst h3;omega
     ·obtain⟨oi,qi,pii,_,hqi,_⟩:=T.at bW
      have:=I.late T h3 bW (hiS.resolve_left (by omega)) hqi
      rw[T.ZS bW hqi this] at uU
      omega
  have hTT:Trans lo m0 (st 0).2 w0 m' (st (k+1)).2 w':=Trans.trans (fun b h1 h2=>Ej b h1 (by omega)) (T.alA (aK1 _) (aLe bH)) (T.alA (Nat.le_succ _) bH) I.tr hT
  refine hK m' c' _ w' ⟨by rw[Jb];exact I.J9,by rw[JQ];exact I.defs,I.aiQ A hr,I.Rx T A hT.ext XT he,hc2,?_,?_,hR.grow RN azQ,?_,aBX⟩
  ·intro i q hi hq hw
   rcases aLd i k with h | h | h
   ·exact .inr (I.before i q h hq hw)
   ·exact .inl h
   ·exact absurd ⟨q,hq,hw⟩ (hc3 i h hi)
  ·intro h
   obtain⟨q,hq,hw⟩:=hc4 h
   refine⟨fun hS => ?_,q,hq,hw⟩
   rcases hS with hS | hS
   ·omega
   ·rcases I.late T (by omega) h hS hq with h4 | h4<;>(rw[hw] at h4;cases h4)
  ·refine⟨hTT.ext,fun b l hb hn => ?_,hTT.size,hTT.dC,hTT.same⟩
   obtain⟨⟨h1,h2⟩,h3⟩:=hTT.new b l hb hn
   refine⟨⟨h1,by omega⟩,?_⟩
   rcases h3 with h3 | h3 | h3
   ·exact .inl h3
   ·exact .inr (.inl fun hl=>h3 ((kL (RN b h2)).1 hl))
   ·exact .inr (.inr h3)
 |
  quiet =>
  have hkc:k<c:=by
   rcases aKA k c with h | h
   ·exact h
   ·exfalso
    rcases aKA c k with h' | h'
    ·obtain⟨hcS,pc,hpc,TY⟩:=I.atc (by omega)
     obtain⟨qi,_,lE⟩:=At.pair T h' bH hpc hp
     unfold Hl at lE
     rw[TY,mJ] at lE
     simp only at lE
     rw[Bp h'] at lE
     exact hcS (A.anc c lE)
    ·have:k=c:=by omega
     subst this
     obtain⟨_,pc,hpc,TY⟩:=I.atc bH
     rw[hp] at hpc
     cases hpc
     rw[mJ] at TY
     cases TY
  have abQ:∀i,k<i→i<c→∀q,ps[i]? = some q→gW E q ≠ .write:=by
   intro i h1 h2 q hq hw
   have bW:i<ops.size:=aKz h2 I.Rc
   obtain⟨qi,_,lE⟩:=At.pair T h1 bW hp hq
   unfold Hl at lE
   rw[mJ,hw] at lE
   simp only at lE
   rw[Bp h1] at lE
   exact A.desc i bW (I.before i q h2 hq hw) lE
  have F2:∀b,b<(st (k+1)).2.length→(st c).2[b]? = (st (k+1)).2[b]? := T.same hkc I.Rc fun i h1 h2 q hq=>abQ i h1 h2 q hq
  have hs0:∀b,b<(st k).2.length→(st c).2[b]? = (st k).2[b]? := T.same (aLe hkc) I.Rc fun i h1 h2 q hq=>by
   rcases aKA k i with h | h
   ·exact abQ i h h2 q hq
   ·have:i=k:=by omega
    subst this
    rw[hp] at hq
    cases hq
    rw[mJ]
    exact fun h=>by cases h
  have aGD:=T.len (i:=k+1) (j:=c) hkc I.Rc
  refine Su ho G3 (fun _=>mJ) hv YU (I.rel.restrict hs0) dR (aKy Co aBn) hfk qL fun m' rv w' XT hR hT => ?_
  have hq:pi.quiet=true:=by rw[hdr.quiet,mJ]
  rw[hq] at hT
  simp only[if_true] at hT
  have tT:∀rb,rb<w.heap.size→w'.heap[rb]? = w.heap[rb]? := fun rb Bo=>hT.dC rb Bo fun b l hb _ hl=>absurd hl (JN hb)
  have pT:∀b l,m' b=some l→m b=none→((st k).2.length≤b∧b<(st (k+1)).2.length)∧(w.heap.size≤l.rb∨¬Live (st (k+1)).2 b):=by
   intro b l h1 h2
   obtain⟨h3,h4⟩:=hT.new b l h1 h2
   refine⟨h3,?_⟩
   rcases h4 with h4 | h4 | ⟨b0,l0,g1,_,g3,_⟩
   ·exact .inl h4
   ·exact .inr h4
   ·exact absurd g3 (JN g1)
  have aBT:∀b l,m b=some l→l.rb<w.heap.size:=by
   intro b l hb
   obtain⟨arr,e,fz,h1,_⟩:=I.rel.valid b l hb
   exact(aKG.1 h1).1
  have Y3:∀rb j,rb<w.heap.size→w'.cell? ⟨rb,j,none⟩=w.cell? ⟨rb,j,none⟩:=by
   intro rb j Bo
   unfold World.cell?
   simp only[tT rb Bo]
  have Ec:∀b l,m' b=some l→(st (k+1)).2.length≤b→m b=some l:=by
   intro b l hb h
   cases hm:m b with
   | some l'=>have:=hT.ext b l' hm;rw[hb] at this;exact this.symm
   | none=>have:=(pT b l hb hm).1.2;omega
  refine hK m' c _ w' ⟨by rw[Jb];exact I.J9,by rw[JQ];exact I.defs,I.aiQ A hr,I.Rx T A hT.ext XT he,I.Rc,fun i q h1 h2 h3 => .inr (I.before i q h1 h2 h3),?_,⟨hR.valid,?_,?_,?_⟩,?_,?_⟩
  ·intro h
   obtain⟨h1,q,h2,h3⟩:=I.atc h
   exact⟨fun hS=>hS.elim (fun e=>by omega) h1,q,h2,h3⟩
  ·intro b l cs e pp hm hb
   rcases aKA b (st (k+1)).2.length with h | h
   ·exact hR.row b l cs e pp hm (by rw[←F2 b h];exact hb)
   ·have hmo:=Ec b l hm h
    obtain⟨h1,h2,h3,h4⟩:=I.rel.row b l cs e pp hmo hb
    refine⟨h1,h2,h3,fun i hi => ?_⟩
    obtain⟨rv',g1,g2,g3⟩:=h4 i hi
    exact⟨rv',by rw[Y3 _ _ (aBT b l hmo)];exact g1,g2.mono hT.ext,g3⟩
  ·intro b1 b2 l1 l2 GX h1 h2 CQ IQ Bo
   have fresh:∀b b' l l',m' b=some l→m b=none→m b'=some l'→Live (st c).2 b→l.rb=l'.rb→False:=by
    intro b b' l l' g1 g2 g3 g4 g5
    obtain⟨⟨_,g6⟩,g7⟩:=pT b l g1 g2
    rcases g7 with g7 | g7
    ·have:=aBT b' l' g3;omega
    ·exact g7 ((kL (F2 b g6)).1 g4)
   cases Qe:m b1 with
   |
    some l1' =>
    cases XR:m b2 with
    |
     some l2' =>
     have e1:l1'=l1:=by have:=hT.ext b1 l1' Qe;rw[h1] at this;injection this with this;exact this.symm
     have e2:l2'=l2:=by have:=hT.ext b2 l2' XR;rw[h2] at this;injection this with this;exact this.symm
     subst e1 e2
     exact I.rel.inj b1 b2 _ _ GX Qe XR CQ IQ Bo
    |
     none =>
     have e1:l1'=l1:=by have:=hT.ext b1 l1' Qe;rw[h1] at this;injection this with this;exact this.symm
     subst e1
     exact(fresh b2 b1 _ _ h2 XR Qe IQ Bo.symm).elim
   |
    none =>
    cases XR:m b2 with
    |
     some l2' =>
     have e2:l2'=l2:=by have:=hT.ext b2 l2' XR;rw[h2] at this;injection this with this;exact this.symm
     subst e2
     exact(fresh b1 b2 _ _ h1 Qe XR CQ Bo).elim
    |
     none =>
     have g1:=(pT b1 l1 h1 Qe).1.2
     have g2:=(pT b2 l2 h2 XR).1.2
     exact hR.inj b1 b2 l1 l2 GX h1 h2 ((kL (F2 b1 g1)).1 CQ) ((kL (F2 b2 g2)).1 IQ) Bo
  ·intro x hx
   refine⟨(hR.Fu x hx).1,fun b l hb hm hl => ?_⟩
   obtain⟨⟨e0,fz0,q1⟩,q2⟩:=I.rel.Fu x hx
   cases Qe:m b with
   |
    some l' =>
    have e1:l'=l:=by have:=hT.ext b l' Qe;rw[hm] at this;injection this with this;exact this.symm
    subst e1
    exact q2 b l' hb Qe hl
   |
    none =>
    obtain⟨⟨_,g6⟩,g7⟩:=pT b l hm Qe
    rcases g7 with g7 | g7
    ·have:=(aKG.1 q1).1
     omega
    ·exact(g7 ((kL (F2 b g6)).1 hl)).elim
  ·refine⟨fun b l hb=>hT.ext b l (I.tr.ext b l hb),fun b l hb hn => ?_,aKy I.tr.size hT.size,fun rb Bo hk => ?_,hT.same.1.trans I.tr.same.1,hT.same.2.1.trans I.tr.same.2.1,hT.same.2.2.trans I.tr.same.2.2⟩
   ·cases hm:m b with
    |
     some l' =>
     have e1:l'=l:=by have:=hT.ext b l' hm;rw[hb] at this;injection this with this;exact this.symm
     subst e1
     exact I.tr.new b l' hm hn
    |
     none =>
     obtain⟨⟨g1,g2⟩,g3⟩:=pT b l hb hm
     refine⟨⟨by omega,by omega⟩,?_⟩
     rcases g3 with g3 | g3
     ·exact .inl (aKy I.tr.size g3)
     ·exact .inr (.inl fun hl=>g3 ((kL (F2 b g2)).1 hl))
   ·rw[tT rb (aKz Bo I.tr.size),I.tr.dC rb Bo hk]
  ·intro b l hb
   cases hm:m b with
   | some l'=>exact(I.dom b l' hm).imp id fun⟨i,h1,h2⟩=>⟨i,.inr h1,h2⟩
   | none=>exact .inr ⟨k,.inl rfl,bH,(pT b l hb hm).1⟩
 | pure=>exact Uc (.inl mJ)
 | look=>exact Uc (.inr mJ)
end
end Go.PM
namespace Go.PM
section
variable {P:Program} {E:C9} {n:Nat} {call:iC} {lo L0:Nat}
theorem Trans.fresh {m m':dM} {H H1 H2:aI} {w w':World} (h:Trans lo m H w m' H1 w') (h1:H.length≤H1.length) (hf:∀b,H.length≤b→b<H2.length→m b=none):∀b,H1.length≤b→b<H2.length→m' b=none:=by
 intro b GX hb2
 cases hm:m' b with
 | none=>rfl
 |
  some l =>
  exfalso
  have hn:=hf b (by omega) hb2
  have:=(h.new b l hm hn).1
  omega
structure KI (n L0:Nat) (m:dM) (ρ:Env) (H:aI) (a:Act) (w:World):Prop where
 J9:a.tmps.size=n
 defs:a.defers=[]
 env:∀t,RV m (ρ t) (a.tmps.getD t undef)
 rel:Rel m L0 H w
theorem Sd {p q:Nat→Bool}:∀ {l:List Nat} {i:Nat},(∀x∈l,q x=true→p x=true)→i∈l→p i=true→q i=false→l.countP q<l.countP p
 |
  x::l,i,h,hi,hp,hq=>by
  rw[List.countP_cons,List.countP_cons]
  have hle:l.countP q≤l.countP p:=List.countP_mono_left fun x hx=>h x (aK6 _ hx)
  rcases List.mem_cons.1 hi with rfl | hi
  ·rw[if_neg (by simp[hq]),if_pos hp];omega
  ·have:=Sd (fun x hx=>h x (aK6 _ hx)) hi hp hq
   have:(if q x=true then 1 else 0)≤(if p x=true then 1 else 0):=by
    by_cases hqx:q x=true
    ·rw[if_pos hqx,if_pos (h x aK7 hqx)];omega
    ·rw[if_neg hqx];omega
   omega
theorem OX {listed:Array Bool} {k i:Nat} (hk:k<listed.size):(listed.setIfInBounds k true).getD i false=true↔(i=k∨listed.getD i false=true):=by
 rcases aKA i listed.size with h | h
 ·by_cases e:i=k
  ·subst e;simp[h]
  ·simp[h,e,Ne.symm e]
 ·have:i≠k:=by omega
  simp[h,this]
theorem atM {ops:Array Oper} {xC:List PI} {ps:List qE} {M:List Nat} {st:Nat→Env×aI} {m0:dM} {w0:World} (T:Text P E n ops xC ps M call lo st) (qL:AM P L0 call) (dR:L0≤lo) (Co:L0≤(st 0).2.length)
  (Ej:∀b,(st 0).2.length≤b→b<(st ops.size).2.length→m0 b=none) {Q:Exit→Act→World→Prop}
  (hQ:∀m' a' w',KI n L0 m' (st ops.size).1 (st ops.size).2 a' w'→Trans lo m0 (st 0).2 w0 m' (st ops.size).2 w'→Q .normal a' w') :
  ∀(fuel:Nat) (listed:Array Bool) (m:dM) (c:Nat) (a:Act) (w:World),listed.size=ops.size→((aKt ops.size).countP fun i => !listed.getD i false)≤fuel →
  wP E n ops ps lo L0 st m0 w0 [] (fun i=>listed.getD i false=true) m c a w→wpAny P .any ops Q fuel listed a w:=by
 have fin:∀(listed:Array Bool) (m:dM) (c:Nat) (a:Act) (w:World),listed.size=ops.size→(Region.ready .any ops listed=[])→wP E n ops ps lo L0 st m0 w0 [] (fun i=>listed.getD i false=true) m c a w→Q .normal a w:=by
  intro listed m c a w hs hr I
  have all:∀i,i<ops.size→listed.getD i false=true:=by
   intro i
   induction i using Nat.strongRecOn with
   |
    _ i ih =>
    intro hi
    cases hl:listed.getD i false with
    | true=>rfl
    |
     false =>
     exfalso
     obtain⟨o,p,pi,ho,_,_,_,hdr,_⟩:=T.at hi
     have:i∈Region.ready .any ops listed:=by
      rw[mem_ready]
      refine⟨?_,o,ho,fun e he hb => ?_⟩
      ·have YV:i<listed.size:=by omega
       simpa[YV] using hl
      ·have:=hdr.back e (by simpa using he) hb
       exact ih e.on this (by omega)
     rw[hr] at this
     cases this
  have hcN:c=ops.size:=by
   rcases aKA c ops.size with h | h
   ·exact absurd (all c h) (I.atc h).1
   ·have:=I.Rc;omega
  subst hcN
  exact hQ m a w ⟨I.J9,I.defs,fun t=>I.tm t ops.size (aKx _) fun i o hi _=>⟨fun _=>IL hi,fun h=>all i h⟩,I.rel⟩ I.tr
 intro fuel
 induction fuel with
 |
  zero =>
  intro listed m c a w hs hc I
  have hr:Region.ready .any ops listed=[]:=by
   rw[List.eq_nil_iff_forall_not_mem]
   intro i hi
   have qI:=mem_ready.1 hi
   obtain⟨h1,o,ho,_⟩:=qI
   have bH:i<ops.size:=(aKG.1 ho).1
   have h0:((aKt ops.size).countP fun i => !listed.getD i false)=0:=by omega
   rw[List.countP_eq_zero] at h0
   have:=h0 i (aK8.2 bH)
   have YV:i<listed.size:=by omega
   simp[YV] at this h1
   rw[h1] at this
   cases this
  exact⟨hr,fin listed m c a w hs hr I⟩
 |
  succ fuel ih =>
  intro listed m c a w hs hc I
  refine⟨fun hr=>fin listed m c a w hs hr I,fun k hk => ?_⟩
  obtain⟨h1,o,ho,hb⟩:=mem_ready.1 hk
  have bH:k<ops.size:=(aKG.1 ho).1
  have hkl:k<listed.size:=by omega
  have hkf:listed.getD k false=false:=by simpa[hkl] using h1
  refine ajM T qL dR Co Ej I ho (by rw[hkf];exact fun h=>by cases h) (fun e he hbd=>hb e (by simpa using he) hbd) fun m' c' a' w' I'=>ih _ m' c' a' w' (by simpa using hs) ?_ ?_
  ·have:((aKt ops.size).countP fun i => !(listed.setIfInBounds k true).getD i false)<((aKt ops.size).countP fun i => !listed.getD i false):=by
    refine Sd (i:=k) (fun x _ hx => ?_) (aK8.2 bH) (by rw[hkf];rfl) ?_
    ·cases hlx:listed.getD x false with
     | false=>rfl
     |
      true =>
      have:=(OX (i:=x) hkl).2 (.inr hlx)
      rw[this] at hx
      cases hx
    ·rw[(OX hkl).2 (.inl rfl)];rfl
   omega
  ·have e:(fun i=>(listed.setIfInBounds k true).getD i false=true)=fun i=>i=k∨listed.getD i false=true:=by
    funext i
    exact propext (OX hkl)
   rw[e]
   exact I'
theorem Rel.drew {m:dM} {H:aI} {w w':World} (h:Rel m L0 H w) (hw:w'.heap=w.heap):Rel m L0 H w':=by
 have hc:∀x,w'.cell? x=w.cell? x:=fun x=>by unfold World.cell?;rw[hw]
 refine⟨fun b l hb=>by rw[hw];exact h.valid b l hb,fun b l cs e p hm hb => ?_,h.inj,fun x hx=>⟨by rw[hw];exact(h.Fu x hx).1,(h.Fu x hx).2⟩⟩
 obtain⟨h1,h2,h3,h4⟩:=h.row b l cs e p hm hb
 refine⟨h1,h2,h3,fun i hi => ?_⟩
 rw[hc]
 exact h4 i hi
theorem YI {id:Nat} {ops:Array Oper} {draw:Bool} {xC:List PI} (F5:P.follows .mixedOrders=true) (qL:AM P L0 call) (uP:vB call) (hp:Bm P E n ops draw=some xC) {ρ aQ:Env} {H H':aI}
  (hv:jC call lo xC ρ H=some (aQ,H')) {m:dM} {a:Act} {w:World} (h:KI n L0 m ρ H a w) (dR:L0≤lo) (hlen:L0≤H.length) (hf:∀b,H.length≤b→b<H'.length→m b=none) {Q:Exit→Act→World→Prop}
  (hQ:∀m' a' w',KI n L0 m' aQ H' a' w'→Trans lo m H w m' H' w'→Q .normal a' w'):(Code.region id ops draw).wp P Q a w:=by
 obtain⟨ps,M,G3⟩:=MN hp
 obtain⟨st,hs0,hsn,vZ⟩:=JU hv
 have hN:xC.length=ops.size:=by rw[G3.aEi];simp
 rw[hN] at hsn
 cases draw with
 |
  true =>
  have T:Text P E n ops xC ps M call lo st:=⟨G3,uP,vZ⟩
  apply wp_region_any F5
  have e0:(st 0).1=ρ:=by rw[hs0]
  have e1:(st 0).2=H:=by rw[hs0]
  have e2:(st ops.size).1=aQ:=by rw[hsn]
  have e3:(st ops.size).2=H':=by rw[hsn]
  obtain⟨c,hc1,hc2,hc3,hc4⟩:=Il (fun i=>∃q,ps[i]? = some q∧gW E q = .write) _ 0 ops.size rfl (aK1 _)
  have RN:=T.same hc1 hc2 fun i h1 h2 q hq hw=>hc3 i h1 h2 ⟨q,hq,hw⟩
  have aCe:=T.len hc1 hc2
  have aCf:=T.len (i:=c) (j:=ops.size) hc2 (aKx _)
  have W7:=h.rel.grow (by rw[←e1];exact RN) (fun b h1 h2=>hf b h1 (by rw[←e3];omega))
  have alK:∀i,(Array.replicate ops.size false).getD i false=true→False:=by
   intro i hi
   rcases aKA i ops.size with h | h<;>simp[h] at hi
  refine atM (m0:=m) (w0:=w) T qL dR (by rw[e1];exact hlen) (by rw[e1,e3];exact hf) (by rw[e1,e2,e3];exact hQ) ops.size _ m c a _ (by simp) (aKy List.countP_le_length (by simp)) ?_
  refine⟨h.J9,h.defs,fun i o _ hi=>(alK i hi).elim,fun t j hj hw => ?_,hc2,fun i q hi hq hw=>absurd ⟨q,hq,hw⟩ (hc3 i (aK1 _) hi),fun hc=>⟨fun h=>alK _ h,hc4 hc⟩,W7.drew rfl,?_,fun b l hb => .inl (by rw[hb];exact fun h=>by cases h)⟩
  ·have e:(st j).1 t=ρ t:=by
    rw[←e0]
    refine T.Sq (aK1 _) hj fun i oi _ uU hoi hd => ?_
    have VO:ops.toList[i]? = some oi:=by simpa using hoi
    exact(alK i ((hw i oi VO hd).2 uU)).elim
   rw[e]
   exact h.env t
  ·rw[e1]
   refine⟨fun _ _ h=>h,fun b l hb hn=>(by rw[hb] at hn;cases hn),aKx _,fun _ _ _=>rfl,rfl,rfl,rfl⟩
 |
  false =>
  apply wp_region
  have key:∀d i,ops.size-i=d→i≤ops.size→∀m1 a1 w1,KI n L0 m1 (st i).1 (st i).2 a1 w1→L0≤(st i).2.length→(∀b,(st i).2.length≤b→b<H'.length→m1 b=none) →
    (∀m' a' w',KI n L0 m' aQ H' a' w'→Trans lo m1 (st i).2 w1 m' H' w'→Q .normal a' w')→wpOps P ops Q ((aKt ops.size).drop i) a1 w1:=by
   intro d
   induction d with
   |
    zero =>
    intro i hd hi m1 a1 w1 h1 _ _ hQ1
    have:i=ops.size:=by omega
    subst this
    rw[List.drop_eq_nil_of_le (by simp)]
    rw[hsn] at h1 hQ1
    exact hQ1 m1 a1 w1 h1 (Trans.refl _ _ _ _)
   |
    succ d ih =>
    intro i hd hi m1 a1 w1 h1 CQ hf1 hQ1
    have bH:i<ops.size:=by omega
    rw[List.drop_eq_getElem_cons (by simpa using bH),wpOps_cons]
    have ho:ops.toList[i]? = some ops[i]:=by simp[bH]
    obtain⟨p,pi,hp1,hp2,axC,_,hdr⟩:=G3.each i _ ho
    have B3:=vZ i pi hp2
    obtain⟨v,hv1,hv2⟩:=BG B3
    have hq:pi.quiet=false:=(hdr rfl).1
    have hE1:=KU uP B3
    have hE2:Ext lo (st (i+1)).2 H':=by
     have:∀d j,ops.size-j=d→j≤ops.size→Ext lo (st j).2 H':=by
      intro d
      induction d with
      | zero =>
        intro j hd hj;have:j=ops.size:=by omega
        subst this;rw[hsn];exact Ext.refl _ _
      |
       succ d ih =>
       intro j hd hj
       have hjl:j<xC.length:=by omega
       exact(KU uP (vZ j xC[j] (aKE hjl))).trans (ih (j+1) (by omega) (by omega))
     exact this _ (i+1) rfl bH
    have Hj:(aKt ops.size)[i]'(by simpa using bH)=i:=by simp
    rw[Hj]
    refine Su (by simp[bH]) axC (fun h=>by rw[hq] at h;cases h) hv1 (fun t _=>h1.env t) h1.rel dR CQ (fun b GX hb2=>hf1 b GX (aKz hb2 hE2.len)) qL fun m' rv w' XT hR hT => ?_
    rw[hq] at hT
    simp only[aK9,if_false] at hT
    refine ih (i+1) (by omega) bH m' _ w' ⟨by rw[Jb];exact h1.J9,by rw[JQ];exact h1.defs,fun t => ?_,hR⟩ (aKy CQ hE1.len) (hT.fresh hE1.len hf1) fun m2 a2 w2 h2 Q9=>hQ1 m2 a2 w2 h2 (Trans.trans hf1 hE1 hE2 hT Q9)
    rw[hv2,axC.dst]
    cases hd:ops[i].dst with
    | none=>exact(h1.env t).mono hT.ext
    |
     some d =>
     rw[US (by rw[h1.J9];exact axC.bound d hd)]
     show RV m' (if t=d then v else (st i).1 t) _
     by_cases e:t=d
     ·rw[if_pos e,if_pos e];exact XT
     ·rw[if_neg e,if_neg e];exact(h1.env t).mono hT.ext
  have:=key ops.size 0 (by omega) (aK1 _) m a w (by rw[hs0];exact h) (by rw[hs0];exact hlen) (by rw[hs0];exact hf) (by rw[hs0];exact hQ)
  simpa using this
end
end Go.PM