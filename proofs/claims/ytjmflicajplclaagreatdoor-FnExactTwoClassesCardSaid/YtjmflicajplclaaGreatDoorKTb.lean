/- Texts of a claim, in one: part 2. -/
import Derived.LoopN
import Derived.Test.YtjmflicajplclaaGreatDoorKTa
set_option linter.unusedSimpArgs false
set_option linter.unusedVariables false
namespace Go.PM
section
variable {P:Program} {m:dO} {L0:Nat} {H:aE} {w:World}
theorem RL.const {zs:List Value} (h:zs.all kM=true):RL m zs zs :=
 ⟨rfl,fun j hj=>by
  have:=RV.const (m:=m) (List.all_eq_true.1 h _ (List.getElem_mem hj))
  simpa[List.getD_eq_getElem?_getD,List.getElem?_eq_getElem hj] using this⟩
theorem uJ (n:Nat) (zs:List Value):(cZ n zs).length=n*zs.length:=by simp[cZ]
theorem wF (n:Nat) {zs:List Value} (h:zs.all kM=true) (h0:1≤zs.length):RL m (cZ n zs) (cZ n zs):=by
 refine⟨rfl,fun i hi => ?_⟩
 rw[uJ] at hi
 have bF:i % zs.length<zs.length:=Nat.mod_lt _ h0
 have e:(cZ n zs).getD i undef=zs.getD (i % zs.length) undef:=by simp[cZ,List.getD_eq_getElem?_getD,hi]
 rw[e]
 exact(RL.const h).2 _ bF
theorem RH (n:Nat) {zs:List Value} (h:zs.all fS=true) (h0:1≤zs.length):(cZ n zs).all fS=true:=by
 rw[List.all_eq_true]
 intro x hx
 obtain⟨i,_,rfl⟩:=List.mem_map.1 hx
 have bF:i % zs.length<zs.length:=Nat.mod_lt _ h0
 have:=List.all_eq_true.1 h _ (List.getElem_mem bF)
 simpa[List.getD_eq_getElem?_getD,List.getElem?_eq_getElem bF] using this
theorem JI (z:Array Value) (n:Nat) (h0:1≤z.size):(madeCells z (n*z.size)).toList=cZ n z.toList:=by
 apply List.ext_getElem
 ·simp[madeCells,cZ]
 ·intro i h1 h2
  have bF:i % z.size<z.size:=Nat.mod_lt _ h0
  simp[madeCells,cZ,bF]
theorem F6 (z:Array Value) (n:Nat) (h0:1≤z.size):(Builtin.zeroCells z n).toList=cZ n z.toList:=by
 apply List.ext_getElem
 ·simp[Builtin.zeroCells,cZ]
 ·intro i h1 h2
  have bF:i % z.size<z.size:=Nat.mod_lt _ h0
  simp[Builtin.zeroCells,cZ,bF]
theorem ZE {t:TypeId} {agg:Bool} {size nb lo:Nat} {z:List Value} (ht:mA P t=some (agg,size,z,nb)) (Hs:z.all fS=true) (Tp:z.all kM=true) (hR:Rel m L0 H w) (hf:m H.length=none) :
  cR P (do pure (.value (←Instr.alloc t true (.tuple #[])))) L0 lo m H w (.pointer (some ⟨H.length,0,none⟩)) (H++[.row z z.length false]):=by
 obtain⟨i,d,zz,hi,hd,HJ,rfl,rfl,rfl,rfl⟩:=iQ ht
 have oP:(Instr.alloc t true (.tuple #[])).run P w = .ok (.pointer (some ⟨w.heap.size,0,none⟩)) (w.alloc (.cells zz.cells t)):=by
  simp[Instr.alloc,zeroValue,typeInfo,hi,HJ,newVar,newRow]
 have hA:=wL hR hf (w':=w.alloc (.cells zz.cells t)) (arr:=zz.cells) (e:=t) (fz:=(0,0)) rfl ⟨rfl,rfl,rfl⟩ (cs:=aO zz) (kJ:=(aO zz).length) (Sw:=false)
  (by rw[eZ];exact Nat.le_refl _) (fun i hi=>by
   have:=(RL.const (m:=m) Tp).2 i hi
   rwa [←yW,fV]) Hs (fun j _ h=>by simp at h)
 exact cR.value oP (.ptr _ 0 _ (cE m _ _)) hA.1 (hA.2 lo)
theorem ZF {t:TypeId} {v r:Value} {lo:Nat} (hv:RV m v r) (hs:(aO v).all fS=true) (hR:Rel m L0 H w) (hf:m H.length=none) :
  cR P (do pure (.value (←Instr.box t r))) L0 lo m H w (.pointer (some ⟨H.length,0,none⟩)) (H++[.row (aO v) (aO v).length false]):=by
 have oP:(Instr.box t r).run P w = .ok (.pointer (some ⟨w.heap.size,0,none⟩)) (w.alloc (.cells r.cells t)):=by
  simp[Instr.box,newVar,newRow]
 have hA:=wL hR hf (w':=w.alloc (.cells r.cells t)) (arr:=r.cells) (e:=t) (fz:=(0,0)) rfl ⟨rfl,rfl,rfl⟩ (cs:=aO v) (kJ:=(aO v).length) (Sw:=false)
  (by rw[eZ,hv.aO.1];exact Nat.le_refl _) (fun i hi=>by
   have:=hv.aO.2 i hi
   rwa [←yW,fV]) hs (fun j _ h=>by simp at h)
 exact cR.value oP (.ptr _ 0 _ (cE m _ _)) hA.1 (hA.2 lo)
theorem YC {t:TypeId} {agg:Bool} {size nb lo:Nat} {z:List Value} {kl kc:IntKind} {l c:Int} (ht:jX P t=some (agg,size,z,nb)) (Hs:z.all fS=true) (Tp:z.all kM=true) (WY:size=z.length) (D9:1≤size)
  (hl:0≤l) (hlc:l≤c) (hb:c*nb≤281474976710656) (hc:c≤9223372036854775807) (hR:Rel m L0 H w) (hf:m H.length=none) :
  cR P (do pure (.value (←Instr.makeSlice t (.int kl l) (.int kc c)))) L0 lo m H w (.slice (some ⟨H.length,0,none⟩) l.toNat c.toNat) (H++[.row (cZ c.toNat z) z.length false]):=by
 obtain⟨e,hu,Jv⟩:=jI ht
 obtain⟨i,d,zz,hi,hd,HJ,rfl,rfl,rfl,rfl⟩:=iQ Jv
 have oP:=run_make (P:=P) w t e i zz hu hi HJ kl kc l c hl hlc (by rw[Int.mul_comm];exact hb) hc
 have BH:i.size=zz.cells.size:=by rw[WY,eZ]
 rw[BH] at oP D9
 have Ud:(madeCells zz.cells (c.toNat*zz.cells.size)).toList=cZ c.toNat (aO zz):=by rw[JI _ _ D9,fV]
 have asV:(madeCells zz.cells (c.toNat*zz.cells.size)).size=c.toNat*(aO zz).length:=by rw[size_madeCells,eZ]
 have Yx:1≤(aO zz).length:=by rw[←eZ];exact D9
 have hA:=wL hR hf (w':=w.alloc (.cells (madeCells zz.cells (c.toNat*zz.cells.size)) e)) (arr:=madeCells zz.cells (c.toNat*zz.cells.size)) (e:=e) (fz:=(0,0)) rfl ⟨rfl,rfl,rfl⟩
  (cs:=cZ c.toNat (aO zz)) (kJ:=(aO zz).length) (Sw:=false) (by rw[asV,uJ];exact Nat.le_refl _) (fun j hj=>by
   have:=(wF (m:=m) c.toNat Tp Yx).2 j hj
   rwa [←yW,Ud]) (RH _ Hs Yx) (fun j _ h=>by simp at h)
 refine cR.value oP ?_ hA.1 (hA.2 lo)
 exact .slice _ 0 _ _ _ _ _ (cE m _ _) (by omega) (Nat.le_refl _) (fun _=>rfl) (.inr ⟨rfl,by simp only[asV];omega⟩)
theorem ZI {t:TypeId} {agg:Bool} {size nb lo n:Nat} {z cs:List Value} {parts:List (Nat×Operand)} {ρ:Env} {a:Act} (ht:jX P t=some (agg,size,z,nb)) (Hs:z.all fS=true) (Tp:z.all kM=true) (WY:size=z.length) (D9:1≤size) (hn:n*size≤16777216)
  (akA:vO ((List.range n).map fun i=>(i*z.length,z.length)) (cZ n z) (parts.map fun(i,x)=>(i,ev ρ x))=some cs) (uW:cs.all fS=true) (hr:∀p∈parts,RV m (ev ρ p.2) (a.eval p.2))
  (hR:Rel m L0 H w) (hf:m H.length=none) :
  cR P (do pure (.value (←Instr.buildSlice t n (parts.toArray.map fun(i,x)=>(i,a.eval x))))) L0 lo m H w (.slice (some ⟨H.length,0,none⟩) n n) (H++[.row cs z.length false]):=by
 obtain⟨e,hu,Jv⟩:=jI ht
 obtain⟨i,d,zz,hi,hd,HJ,rfl,rfl,rfl,rfl⟩:=iQ Jv
 have BH:i.size=zz.cells.size:=by rw[WY,eZ]
 have Yx:1≤(aO zz).length:=by rw[←eZ,←BH];exact D9
 have Tm:∀j q,((List.range n).map fun i=>(i*(aO zz).length,(aO zz).length))[j]? = some q→(fun i'=>some (i'*i.size,i.size):Nat→Option (Nat×Nat)) j=some q:=by
  intro j q hj
  simp only[List.getElem?_map,Option.map_eq_some_iff] at hj
  obtain⟨k,hk,rfl⟩:=hj
  have hk':=(List.getElem?_eq_some_iff.1 hk)
  obtain⟨hk1,hk2⟩:=hk'
  simp at hk2
  subst hk2
  rw[←WY]
 have hz:RL m (cZ n (aO zz)) ((Array.range (n*i.size)).map (zz.cells[· % zz.cells.size]!)).toList:=by
  have:=wF (m:=m) n Tp Yx
  rw[BH]
  have e1:=JI zz.cells n (by rw[←BH];exact D9)
  rw[fV] at e1
  show RL m _ (madeCells zz.cells (n*zz.cells.size)).toList
  rw[e1]
  exact this
 obtain⟨Lf,h1,h2⟩:=Sn (m:=m) _ _ Tm (parts.map fun(i,x)=>(i,ev ρ x)) (parts.map fun(i,x)=>(i,a.eval x)) _ _ cs
  (by simp[Function.comp_def]) (by simpa[Function.comp_def] using RL.map (l:=parts) (f:=fun p=>ev ρ p.2) (g:=fun p=>a.eval p.2) hr) hz akA
 have hlen:cs.length=n*(aO zz).length:=by rw[Qo _ _ _ _ akA,uJ]
 have emap:(Array.map (fun x:Nat×Operand=>(x.1,a.eval x.2)) parts.toArray).toList=parts.map fun(i,x)=>(i,a.eval x):=by simp
 have aiJ:¬(2^24<n*i.size):=by omega
 have oP:(Instr.buildSlice t n (parts.toArray.map fun(i,x)=>(i,a.eval x))).run P w = .ok (.slice (some ⟨w.heap.size,0,none⟩) n n) (w.alloc (.cells Lf e)):=by
  have XD:Instr.fill (fun i'=>some (i'*i.size,i.size)) ((Array.range (n*i.size)).map (zz.cells[· % zz.cells.size]!)) (Array.map (fun x:Nat×Operand=>(x.1,a.eval x.2)) parts.toArray).toList=some Lf:=by rw[emap];exact h1
  by_cases hn0:n*i.size=0
  ·rw[hn0] at XD
   simp only[show ∀f:Nat→Value,(Array.range 0).map f = #[] from fun f=>by simp] at XD
   unfold Instr.buildSlice
   simp only[Sem.run_bind,run_underlying hu,Result.andThen_ok,run_sizeOf e i hi,hn0,if_true,Sem.run_pure,show ¬(0>2^24) by omega,if_false]
   rw[show ∀f:Nat→Value,(Array.range 0).map f = #[] from fun f=>by simp]
   simp only[XD]
   simp[newRow]
  ·unfold Instr.buildSlice
   simp only[Sem.run_bind,run_underlying hu,Result.andThen_ok,run_sizeOf e i hi,hn0,if_false,Sem.run_pure,gt_iff_lt,aiJ,zeroValue,typeInfo,run_program,hi,HJ]
   simp only[XD]
   simp[newRow]
 have KA:Lf.size=n*(aO zz).length:=by rw[←hlen];simpa using h2.1.symm
 have hA:=wL hR hf (w':=w.alloc (.cells Lf e)) (arr:=Lf) (e:=e) (fz:=(0,0)) rfl ⟨rfl,rfl,rfl⟩ (cs:=cs) (kJ:=(aO zz).length) (Sw:=false)
  (by rw[hlen,KA];exact Nat.le_refl _) (fun j hj=>by rw[←yW];exact h2.2 j hj) uW (fun j _ h=>by simp at h)
 refine cR.value oP ?_ hA.1 (hA.2 lo)
 exact .slice _ 0 _ _ _ _ _ (cE m _ _) (Nat.le_refl _) (Nat.le_refl _) (fun _=>rfl) (.inr ⟨rfl,by simp only[KA];omega⟩)
theorem UQ (g:Value→ByteArray→Sem (ForInStep ByteArray)) (hg:∀n s,g (.int .u8 n) s=pure (ForInStep.yield (s.push (UInt8.ofNat n.toNat)))):∀(cs rs:List Value) (bs:List UInt8) (acc:ByteArray),RL m cs rs→tF cs=some bs→∀w,
  (forIn rs acc g).run P w = .ok ⟨(acc.data.toList++bs).toArray⟩ w:=by
 intro cs
 induction cs with
 |
  nil =>
  intro rs bs acc hr hb w
  have e0:rs=[]:=List.eq_nil_of_length_eq_zero hr.1.symm
  subst e0
  cases hb
  simp
 |
  cons c cs ih =>
  intro rs bs acc hr hb w
  cases rs with
  | nil=>exact absurd hr.1 (by simp)
  |
   cons r rs =>
   obtain⟨hc,X3⟩:=hr.jU
   unfold tF at hb
   split at hb
   ·rename_i heq;cases heq
   ·rename_i n rest heq
    cases heq
    cases hc
    cases h2:tF cs with
    | none=>rw[h2] at hb;cases hb
    |
     some bs' =>
     rw[h2] at hb
     cases hb
     simp only[List.forIn_cons,hg,Sem.run_bind,Sem.run_pure,Result.andThen_ok]
     rw[ih rs bs' _ X3 h2 w]
     simp[ByteArray.push]
   ·cases hb
theorem aeB {s d e:TypeId} {rp:Value} {lo n b off c:Nat} {cs:List Value} {bs:List UInt8} (hs:P.underlying s=some (.slice e)) (hd:P.underlying d=some .string) (he:P.underlying e=some (.int .u8))
  (W1:H.read b off n=some cs) (hb:tF cs=some bs) (hR:Rel m L0 H w) (hp:RV m (.slice (some ⟨b,off,none⟩) n c) rp) :
  cR P (do pure (.value (←convert s d rp))) L0 lo m H w (.string ⟨bs.toArray⟩) H:=by
 cases hp with
 |
  slice _ _ _ _ l ra rc hm hn hc hx ha =>
  obtain⟨rs,h1,h2,_,h3⟩:=xO hR hm W1
  have asS:(loadCells ra n).run P w = .ok rs.toArray w:=by
   rcases ha with ha | ⟨rfl,ha⟩
   ·have h0:n=0:=by omega
    subst h0
    have e0:rs=[]:=List.eq_nil_of_length_eq_zero h2
    subst e0
    rfl
   ·rw[←h2]
    exact run_loadCells_list w _ rs h3
  refine cR.value (rv := .string ⟨bs.toArray⟩) (w':=w) (m':=m) ?_ (.str _) hR (Trans.refl lo m H w)
  simp only[convert,Sem.run_bind,run_underlying hs,run_underlying hd,Result.andThen_ok,run_underlying he,Conv.bytesToString,asS,←Array.forIn_toList]
  rw[UQ (P:=P) (m:=m) _ (fun n s=>rfl) cs rs bs ByteArray.empty h1 hb w]
  simp
theorem NR {t e:TypeId} {i:TypeInfo} (hu:P.underlying t=some (.slice e)) (hi:P.info? e=some i) {a:Option Addr} {n c:Nat} {lo kX mx:Option Value} {l h k:Nat}
  (hb:(Instr.sliceBounds true n c lo kX mx).run P w = .ok (l,h,k) w) :
  (Instr.sliceAt t (.slice a n c) lo kX mx).run P w = .ok (.slice (if k=l then a else a.map (·.add (l*i.size))) (h-l) (k-l)) w:=by
 have h1:(Instr.sliceAt t (.slice a n c) lo kX mx).run P w=(Instr.slice t (.slice a n c) lo kX mx).run P w:=by
  unfold Instr.sliceAt
  rw[Sem.run_bind,run_underlying hu,Result.andThen_ok]
 rw[h1]
 unfold Instr.slice
 rw[Sem.run_bind,run_underlying hu,Result.andThen_ok]
 simp[hb,run_sizeOf e i hi]
theorem aaL {t e:TypeId} {i:TypeInfo} {lo:Nat} {x rx v:Value} {l h mx l' h' mx':Option Value} {H':aE} (hu:P.underlying t=some (.slice e)) (hi:P.info? e=some i)
  (hs:CA i.size x l h mx H=some (v,H')) (hx:RV m x rx) (hl:RO m l l') (hh:RO m h h') (hm:RO m mx mx') (hR:Rel m L0 H w) (hf:∀b,H.length≤b→b<H'.length→m b=none) :
  cR P (do pure (.value (←Instr.sliceAt t rx l' h' mx'))) L0 lo m H w v H':=by
 unfold CA at hs
 split at hs
 ·rename_i n c
  split at hs
  ·rename_i h0
   obtain⟨rfl,rfl⟩:=h0
   cases hx
   split at hs
   ·cases hs
   ·rename_i M hM
    split at hs
    ·cases hs
    ·rename_i hb hhb
     split at hs
     ·cases hs
     ·rename_i lb Ep
      cases hs
      have key:∃k1 k2 k3,(Instr.sliceBounds true 0 0 l' h' mx').run P w = .ok (k1,k2,k3) w∧k1=0∧k2=0∧k3=0:=by
       rcases oK (P:=P) hM hm with⟨rfl,rfl,e1⟩ | ⟨_,r1,rfl,rfl,q1,e1⟩<;>rcases oK (P:=P) hhb hh with⟨_,rfl,e2⟩ | ⟨_,r2,_,rfl,q2,e2⟩<;>rcases oK (P:=P) Ep hl with⟨_,rfl,e3⟩ | ⟨_,r3,_,rfl,q3,e3⟩
       ·cases e1;cases e2;cases e3
        exact⟨0,0,0,rfl,rfl,rfl,rfl⟩
       ·cases e1;cases e2
        exact⟨lb,0,0,by simp[Instr.sliceBounds,e3 0 (Nat.le_refl _)],by omega,rfl,rfl⟩
       ·cases e1;cases e3
        exact⟨0,hb,0,by simp[Instr.sliceBounds,e2 0 (Nat.le_refl _)],rfl,by omega,rfl⟩
       ·cases e1
        exact⟨lb,hb,0,by simp[Instr.sliceBounds,e2 0 (Nat.le_refl _),e3 hb (Nat.le_refl _)],by omega,by omega,rfl⟩
       ·cases e2
       ·cases e2
       ·cases e3
        exact⟨0,hb,M,by simp[Instr.sliceBounds,e1 0 (Nat.le_refl _),e2 M (Nat.le_refl _)],rfl,by omega,by omega⟩
       ·exact⟨lb,hb,M,by simp[Instr.sliceBounds,e1 0 (Nat.le_refl _),e2 M (Nat.le_refl _),e3 hb (Nat.le_refl _)],by omega,by omega,by omega⟩
      obtain⟨k1,k2,k3,hk,rfl,rfl,rfl⟩:=key
      exact cR.value (NR hu hi hk) (by simpa using RV.R5) hR (Trans.refl lo m H w)
  ·cases hs
 ·rename_i b o n c
  cases hx with
  |
   slice _ _ _ _ lc ra rc TV hnc hcr hxp ha =>
   split at hs
   ·rename_i cells es p VO
    obtain⟨g1,g2,g3,g4⟩:=hR.row b lc cells es p TV VO
    split at hs
    ·rename_i M4
     subst M4
     split at hs
     ·cases hs
     ·rename_i M hM
      split at hs
      ·cases hs
      ·rename_i hb hhb
       split at hs
       ·cases hs
       ·rename_i lb Ep
        have key:∃k3,(Instr.sliceBounds true n rc l' h' mx').run P w = .ok (lb,hb,k3) w∧lb≤hb∧hb≤M∧M≤c∧((mx=none∧k3=rc∧M=c)∨(mx.isSome=true∧k3=M)):=by
         rcases oK (P:=P) hM hm with⟨rfl,rfl,e1⟩ | ⟨_,r1,rfl,rfl,q1,e1⟩<;>rcases oK (P:=P) hhb hh with⟨_,rfl,e2⟩ | ⟨_,r2,_,rfl,q2,e2⟩<;>rcases oK (P:=P) Ep hl with⟨_,rfl,e3⟩ | ⟨_,r3,_,rfl,q3,e3⟩
         ·cases e1;cases e2;cases e3
          exact⟨rc,rfl,Nat.zero_le _,hnc,Nat.le_refl _,.inl ⟨rfl,rfl,rfl⟩⟩
         ·cases e1;cases e2
          exact⟨rc,by simp[Instr.sliceBounds,e3 n (Nat.le_refl _)],q3,hnc,Nat.le_refl _,.inl ⟨rfl,rfl,rfl⟩⟩
         ·cases e1;cases e3
          exact⟨rc,by simp[Instr.sliceBounds,e2 rc hcr],Nat.zero_le _,q2,Nat.le_refl _,.inl ⟨rfl,rfl,rfl⟩⟩
         ·cases e1
          exact⟨rc,by simp[Instr.sliceBounds,e2 rc hcr,e3 hb (Nat.le_refl _)],q3,q2,Nat.le_refl _,.inl ⟨rfl,rfl,rfl⟩⟩
         ·cases e2
         ·cases e2
         ·cases e3
          exact⟨M,by simp[Instr.sliceBounds,e1 rc hcr,e2 M (Nat.le_refl _)],Nat.zero_le _,q2,q1,.inr ⟨rfl,rfl⟩⟩
         ·exact⟨M,by simp[Instr.sliceBounds,e1 rc hcr,e2 M (Nat.le_refl _),e3 hb (Nat.le_refl _)],q3,q2,q1,.inr ⟨rfl,rfl⟩⟩
        obtain⟨k3,hk,hlh,hhM,hMc,K1⟩:=key
        have oP:=NR (a:=some ra) hu hi hk
        have place:k3-lb=0∨((if k3=lb then some ra else (some ra).map (·.add (lb*i.size)))=some (⟨lc.rb,lc.base+(o+lb*i.size),none⟩:Addr)∧lc.base+(o+lb*i.size)+(k3-lb)*lc.kJ≤lc.Pw):=by
         by_cases hz:k3-lb=0
         ·exact .inl hz
         ·right
          have hk3:k3≤rc:=by rcases K1 with⟨_,rfl,_⟩ | ⟨_,rfl⟩<;>omega
          rcases ha with ha | ⟨rfl,ha⟩
          ·omega
          ·rw[if_neg (by omega)]
           refine⟨by simp[Addr.add_lit,Nat.add_assoc],?_⟩
           rw[g1] at ha ⊢
           have e1:(k3-lb)*i.size=k3*i.size-lb*i.size:=Nat.sub_mul _ _ _
           have e2:lb*i.size≤k3*i.size:=Nat.mul_le_mul_right _ (by omega)
           have e3:k3*i.size≤rc*i.size:=Nat.mul_le_mul_right _ hk3
           omega
        obtain⟨ra',asI⟩:∃ra',(if k3=lb then some ra else (some ra).map (·.add (lb*i.size)))=some ra':=by split<;>exact⟨_,rfl⟩
        rw[asI] at oP
        have aoE:k3-lb=0∨(ra'=⟨lc.rb,lc.base+(o+lb*i.size),none⟩∧lc.base+(o+lb*i.size)+(k3-lb)*lc.kJ≤lc.Pw):=by
         rcases place with hp | ⟨hp1,Kq⟩
         ·exact .inl hp
         ·rw[asI] at hp1
          exact .inr ⟨by injection hp1,Kq⟩
        split at hs
        ·rename_i axD
         cases hs
         obtain⟨aqM,hMl⟩:=axD
         rcases K1 with⟨rfl,_⟩ | ⟨_,rfl⟩
         ·cases aqM
         ·have hA:=Yq hR (hf H.length (Nat.le_refl _) (by simp)) TV i.size
          refine cR.value (rv := .slice (some ra') 0 0) (by rw[oP];congr 2<;>omega) ?_ hA.1 (hA.2 lo)
          exact .slice _ 0 0 0 _ _ 0 (cE m _ _) (Nat.le_refl _) (Nat.le_refl _) (fun _=>rfl) (.inl rfl)
        ·cases hs
         refine cR.value oP ?_ hR (Trans.refl lo m H w)
         refine .slice b _ _ _ lc _ _ TV (by omega) ?_ ?_ aoE
         ·rcases K1 with⟨_,rfl,rfl⟩ | ⟨_,rfl⟩<;>omega
         ·intro ho
          have:=hxp ho
          rcases K1 with⟨_,rfl,rfl⟩ | ⟨_,rfl⟩<;>omega
    ·cases hs
   ·cases hs
 ·cases hs
end
end Go.PM
namespace Go.PM
section
variable {P:Program} {m:dO} {L0:Nat} {H:aE} {w:World}
theorem UB {t:TypeId} {i:TypeInfo} {lo b o:Nat} {v r rp:Value} {H':aE} (hi:P.info? t=some i) (hp:RV m (.pointer (some ⟨b,o,none⟩)) rp) (hv:RV m v r) (hs:(aO v).length=i.size)
  (hw:H.write lo b o (aO v)=some H') (hR:Rel m L0 H w) (dK:L0≤lo) :
  cR P (do Instr.storeAt t rp r;pure .skip) L0 lo m H w undef H':=by
 cases hp with
 |
  ptr _ _ l hm =>
  obtain⟨w',s1,s2,s3⟩:=DS P hR dK hm hw hv.aO
  refine⟨undef,w',m,.inr ⟨?_,rfl⟩,RV.undef m,s2,s3⟩
  have BH:r.cells.size=i.size:=by rw[eZ,←hv.aO.1,hs]
  have h1:(Instr.storeAt t (.pointer (some ⟨l.rb,l.base+o,none⟩)) r).run P w = .ok () w':=by
   show (storeVar t ⟨l.rb,l.base+o,none⟩ r).run P w=_
   unfold storeVar
   simp only[Sem.run_bind,run_sizeOf t i hi,Result.andThen_ok,BH,ne_eq,not_true_eq_false,if_false,fV]
   exact s1
  rw[Sem.run_bind,h1]
  rfl
theorem HO {pv rv:Value} {k:Nat} (h:rY pv=some k) (hr:RV m pv rv):Builtin.lenOf rv=pure k:=by
 unfold rY at h
 split at h
 ·cases h;cases hr<;>rfl
 ·cases h;cases hr;rfl
 ·cases h
theorem B0 (a b:Array Value) (xs:List Value) (h:a.toList=xs) (i:Nat) (hi:i<xs.length):(a++b).getD i undef=xs.getD i undef:=by
 subst h
 have:i<a.size:=by simpa using hi
 simp[Array.getD_eq_getD_getElem?,Array.getElem?_append_left this,List.getD_eq_getElem?_getD]
theorem adS {t u ty:TypeId} {agg:Bool} {size bytes lo k:Nat} {z:List Value} {d:TypeDesc} {x y rx ry v:Value} {new:List Value} {H':aE} (ht:jX P t=some (agg,size,z,bytes)) (hu:P.underlying u=some d) (hd:Lg d=true)
  (hk:rY y=some k) (AL:jD H size k y=some new) (rL:eO lo size bytes x k new H=some (v,H')) (hx:RV m x rx) (hy:RV m y ry) (WY:size=z.length)
  (hR:Rel m L0 H w) (dK:L0≤lo) (hf:∀b,H.length≤b→b<H'.length→m b=none) :
  cR P (do pure (.value (←Builtin.append_ #[t,u] ty #[rx,ry]))) L0 lo m H w v H':=by
 obtain⟨e,Jv,Qg⟩:=jI ht
 obtain⟨i,de,zz,hi,_,HJ,rfl,rfl,rfl,rfl⟩:=iQ Qg
 obtain⟨pS,h1,h2,h3⟩:=JE AL hk (Nat.le_refl _) hR hy
 have hl:=HO hk hy
 have CB:1≤i.bytes:=by
  unfold eO at rL
  split at rL
  ·rename_i h;exact h.1
  ·cases rL
 have hnl:new.length=k*i.size:=by
  unfold eO at rL
  split at rL
  ·rename_i h;exact h.2.2.2
  ·cases rL
 obtain⟨rv,w',m',g1,g2,g3,g4⟩:=JH (P:=P) (s:=Builtin.append_ #[t,u] ty #[rx,ry]) (e:=e) rL hR dK hx h1 hf
  (fun a n c w' Ga B9 E5=>by
   subst Ga
   exact Pt Jv hu hd hi hl (h3 w rfl) B9 E5)
  (fun Ga hk0=>by
   subst Ga
   subst hk0
   exact RD Jv hu hd hi hl (h3 w rfl))
  (fun base n c Cr Ga Zn jL hg hb=>by
   subst Ga
   refine⟨grownCap w (n+k) c e,_,grownCap_ge w _ _ _,Qq Jv hu hd hi HJ hl Zn (h3 w.drew rfl) hg CB hb,?_,?_⟩
   ·have EN:=grownCap_ge w (n+k) c e
    have yS:pS.length=k*i.size:=by rw[←h1.1,hnl]
    simp only[Array.size_append,List.size_toArray,size_zeroCells,jL,yS]
    rw[←eZ] at WY
    rw[←WY,←Nat.add_mul,←Nat.add_mul]
    congr 1
    omega
   ·intro j hj
    exact B0 _ _ _ (by simp) j hj)
 exact cR.value g1 g2 g3 g4
section
variable {t u ty e:TypeId} {ku:IntKind} {i:TypeInfo} {zz:Value} {k:Nat}
theorem GV {k:Nat} (h:k≤140737488355328):IntKind.i64.wrap (k:Int)=(k:Int):=by rw[IntKind.wrap_i64];omega
theorem M0 (ht:P.underlying t=some (.slice e)) (hu:P.underlying u=some (.int ku)) (hi:P.info? e=some i) (HJ:i.zero=some zz) (hk:k≤140737488355328) (Hv:k*i.bytes≤140737488355328)
  {a:Addr} {n c:Nat} {w':World} (B9:n+k≤c) (hz:k*i.size=0→Builtin.zeroCells zz.cells k = #[]) (E5:(storeCells (a.add (n*i.size)) (Builtin.zeroCells zz.cells k).toList).run P w = .ok () w') :
  (Builtin.append_ #[t,u] ty #[.slice (some a) n c,.int .i64 k]).run P w = .ok (.slice (some a) (n+k) c) w':=by
 have h0:¬((k:Int)<0):=by omega
 have hb:¬(281474976710656<(k:Int)*(i.bytes:Int)):=by rw[←Int.natCast_mul];omega
 by_cases D9:k*i.size=0
 ·rw[hz D9] at E5
  simp[Builtin.append_,run_underlying ht,run_underlying hu,run_sizeOf e i hi,asInt,asIntOf,GV hk,typeInfo,hi,h0,hb,B9,D9,E5]
 ·simp[Builtin.append_,run_underlying ht,run_underlying hu,run_sizeOf e i hi,asInt,asIntOf,GV hk,typeInfo,hi,h0,hb,B9,D9,zeroValue,HJ,E5]
theorem Px (ht:P.underlying t=some (.slice e)) (hu:P.underlying u=some (.int ku)) (hi:P.info? e=some i) :
  (Builtin.append_ #[t,u] ty #[.slice none 0 0,.int .i64 (0:Nat)]).run P w = .ok (.slice none 0 0) w:=by
 have hw:IntKind.i64.wrap 0=0:=rfl
 simp[Builtin.append_,run_underlying ht,run_underlying hu,run_sizeOf e i hi,asInt,asIntOf,hw,typeInfo,hi]
theorem M3 (ht:P.underlying t=some (.slice e)) (hu:P.underlying u=some (.int ku)) (hi:P.info? e=some i) (HJ:i.zero=some zz) (hk:k≤140737488355328) (Hv:k*i.bytes≤140737488355328)
  {base:Option Addr} {n c:Nat} {Cr:List Value} (Zn:(Builtin.firstCells i.size n (.slice base n c)).run P w.drew = .ok Cr.toArray w.drew) (hz:k*i.size=0→Builtin.zeroCells zz.cells k = #[])
  (hg:c<n+k) (CB:1≤i.bytes) (Lj:(n+k)*i.bytes≤140737488355328) :
  (Builtin.append_ #[t,u] ty #[.slice base n c,.int .i64 k]).run P w = .ok (.slice (some ⟨w.heap.size,0,none⟩) (n+k) (grownCap w (n+k) c e))
   (w.drew.alloc (.cells (Cr.toArray++Builtin.zeroCells zz.cells k++Builtin.zeroCells zz.cells (grownCap w (n+k) c e-(n+k))) e)):=by
 have sZ:=growslice_fits (bytes:=i.bytes) hg Lj
 have h0:¬((k:Int)<0):=by omega
 have hb:¬(281474976710656<(k:Int)*(i.bytes:Int)):=by rw[←Int.natCast_mul];omega
 have h1:¬(n+k≤c):=by omega
 have h2:¬(281474976710656<Builtin.nextslicecap (n+k) c*i.bytes):=by omega
 have h4:n+k≤140737488355328:=Nat.le_trans (Nat.le_mul_of_pos_right _ CB) Lj
 have h3:¬(9223372036854775807<(n:Int)+(k:Int)):=by omega
 by_cases D9:k*i.size=0
 ·have e0:=hz D9
  simp[Builtin.append_,run_underlying ht,run_underlying hu,run_sizeOf e i hi,asInt,asIntOf,GV hk,typeInfo,hi,h0,hb,h1,h2,h3,e0,zeroValue,HJ,Question.forced,Zn,newRow,grownCap]
 ·simp[Builtin.append_,run_underlying ht,run_underlying hu,run_sizeOf e i hi,asInt,asIntOf,GV hk,typeInfo,hi,h0,hb,h1,h2,h3,D9,zeroValue,HJ,Question.forced,Zn,newRow,grownCap]
end
theorem Xl {t u ty:TypeId} {agg:Bool} {size bytes lo:Nat} {z:List Value} {ku:IntKind} {n:Int} {x rx v:Value} {H':aE} (ht:jX P t=some (agg,size,z,bytes)) (hu:P.underlying u=some (.int ku))
  (hn:0≤n∧n*bytes≤140737488355328) (rL:eO lo z.length bytes x n.toNat (cZ n.toNat z) H=some (v,H')) (hx:RV m x rx) (WY:size=z.length) (Hs:z.all fS=true) (Tp:z.all kM=true) (D9:1≤z.length)
  (hR:Rel m L0 H w) (dK:L0≤lo) (hf:∀b,H.length≤b→b<H'.length→m b=none) :
  cR P (do pure (.value (←Builtin.append_ #[t,u] ty #[rx,.int .i64 n]))) L0 lo m H w v H':=by
 obtain⟨e,Jv,Qg⟩:=jI ht
 obtain⟨i,de,zz,hi,_,HJ,rfl,rfl,rfl,rfl⟩:=iQ Qg
 obtain⟨k,rfl⟩:=Int.eq_ofNat_of_zero_le hn.1
 simp only[Int.toNat_natCast] at rL
 have CB:1≤i.bytes:=by
  unfold eO at rL
  split at rL
  ·rename_i h;exact h.1
  ·cases rL
 have Hv:k*i.bytes≤140737488355328:=by have:=hn.2;omega
 have hk:k≤140737488355328:=Nat.le_trans (Nat.le_mul_of_pos_right _ CB) Hv
 have BH:i.size=zz.cells.size:=by rw[WY,eZ]
 have Yx:1≤zz.cells.size:=by rw[eZ];exact D9
 have sH:(Builtin.zeroCells zz.cells k).toList=cZ k (aO zz):=by rw[F6 _ _ Yx,fV]
 have apX:k*i.size=0→Builtin.zeroCells zz.cells k = #[]:=by
  intro h0
  apply Array.ext'
  rw[sH]
  exact List.eq_nil_of_length_eq_zero (by rw[uJ,←WY];exact h0)
 obtain⟨rv,w',m',g1,g2,g3,g4⟩:=JH (P:=P) (s:=Builtin.append_ #[t,u] ty #[rx,.int .i64 k]) (e:=e) (pS:=cZ k (aO zz)) rL hR dK hx (wF k Tp D9) hf
  (fun a n c w' Ga B9 E5=>by
   subst Ga
   exact M0 Jv hu hi HJ hk Hv B9 apX (by rw[sH,WY];exact E5))
  (fun Ga hk0=>by
   subst Ga
   subst hk0
   exact Px Jv hu hi)
  (fun base n c Cr Ga Zn jL hg hb=>by
   subst Ga
   refine⟨grownCap w (n+k) c e,_,grownCap_ge w _ _ _,M3 Jv hu hi HJ hk Hv (by rw[WY];exact Zn) apX hg CB hb,?_,?_⟩
   ·have EN:=grownCap_ge w (n+k) c e
    simp only[Array.size_append,List.size_toArray,size_zeroCells,jL,eZ]
    rw[←Nat.add_mul,←Nat.add_mul]
    congr 1
    omega
   ·intro j hj
    exact B0 _ _ _ (by simp[sH]) j hj)
 exact cR.value g1 g2 g3 g4
theorem Xd {t ty:TypeId} {ts:List TypeId} {agg:Bool} {size bytes lo b o d c k:Nat} {z new:List Value} {y rx ry:Value} {H':aE} (ht:jX P t=some (agg,size,z,bytes))
  (hk:rY y=some k) (AL:jD H size (Nat.min k d) y=some new) (hw:H.write lo b o new=some H') (hx:RV m (.slice (some ⟨b,o,none⟩) d c) rx) (hy:RV m y ry)
  (hR:Rel m L0 H w) (dK:L0≤lo) :
  cR P (do pure (.value (←Builtin.copy_ (t::ts).toArray ty #[rx,ry]))) L0 lo m H w (.int .i64 (Nat.min k d)) H':=by
 obtain⟨e,Jv,Qg⟩:=jI ht
 obtain⟨i,de,zz,hi,_,HJ,rfl,rfl,rfl,rfl⟩:=iQ Qg
 obtain⟨pS,h1,h2,h3⟩:=JE (P:=P) AL hk (Nat.min_le_left _ _) hR hy
 have hl:=HO hk hy
 cases hx with
 |
  slice _ _ _ _ l ra rc hm hn hc hxp ha =>
  rcases ha with ha | ⟨rfl,ha⟩
  ·have Dp:d=0:=by omega
   subst Dp
   have JZ:Nat.min k 0=0:=Nat.min_zero k
   rw[JZ] at AL h3 ⊢
   have sH:new=[]:=by
    have:pS.length=new.length:=h1.1.symm
    unfold jD at AL
    split at AL
    ·obtain⟨_,_,_,_,_,_,hlen⟩:=Oj AL
     exact List.eq_nil_of_length_eq_zero (by simpa using hlen)
    ·split at AL
     ·cases AL;rfl
     ·cases AL
    ·split at AL
     ·cases AL;simp
     ·cases AL
    ·cases AL
   subst sH
   have hrn:pS=[]:=List.eq_nil_of_length_eq_zero h1.1.symm
   subst hrn
   have hHH:H'=H:=by
    obtain⟨cs,e',p',q1,q2,q3,q4,rfl⟩:=Bs hw
    apply List.ext_getElem?
    intro j
    by_cases hj:b=j
    ·subst hj
     rw[List.getElem?_set_self (List.getElem?_eq_some_iff.1 q1).1,q1]
     simp[iT]
    ·rw[List.getElem?_set_ne hj]
   rw[hHH]
   refine cR.value (rv := .int .i64 0) (w':=w) ?_ (.int _ _) hR (Trans.refl lo m _ w)
   have hf0:=h3 w rfl
   simp[Builtin.copy_,run_underlying Jv,hl,run_sizeOf e i hi,goInt,hf0,storeCells]
  ·obtain⟨w',s1,s2,s3⟩:=DS P hR dK hm hw h1
   refine cR.value (rv := .int .i64 (Nat.min k d)) ?_ (.int _ _) s2 s3
   have hf0:=h3 w rfl
   unfold Builtin.copy_
   simp only[List.getElem?_toArray,List.getElem?_cons_zero,List.getElem?_cons_succ,Sem.run_bind,run_underlying Jv,Result.andThen_ok,hl,Sem.run_pure,run_sizeOf e i hi]
   rw[hf0]
   simp only[Result.andThen_ok,s1,goInt]
theorem UJ {t ty e:TypeId} {ts:List TypeId} {i:TypeInfo} {zz:Value} {lo b o n c:Nat} {rx:Value} {H':aE} (Jv:P.underlying t=some (.slice e)) (hi:P.info? e=some i) (HJ:i.zero=some zz)
  (hn0:n≠0) (hw:H.write lo b o (cZ n (aO zz))=some H') (hx:RV m (.slice (some ⟨b,o,none⟩) n c) rx) (Tp:(aO zz).all kM=true) (D9:1≤(aO zz).length) (hR:Rel m L0 H w) (dK:L0≤lo) :
  cR P (do pure (.value (←Builtin.clear_ (t::ts).toArray ty #[rx]))) L0 lo m H w undef H':=by
 cases hx with
 |
  slice _ _ _ _ l ra rc hm hn hc hxp ha =>
  rcases ha with ha | ⟨rfl,ha⟩
  ·omega
  ·obtain⟨w',s1,s2,s3⟩:=DS P hR dK hm hw (wF n Tp D9)
   have sH:(Builtin.zeroCells zz.cells n).toList=cZ n (aO zz):=by rw[F6 _ _ (by rw[eZ];exact D9),fV]
   refine cR.value (rv:=undef) ?_ (RV.undef m) s2 s3
   rw[←sH] at s1
   obtain⟨n',rfl⟩:∃n',n=n'+1:=⟨n-1,by omega⟩
   simp[Builtin.clear_,run_underlying Jv,zeroValue,typeInfo,hi,HJ,s1,undef]
theorem JF {t ty e:TypeId} {ts:List TypeId} {lo c:Nat} {a:Option Addr} {rx:Value} (Jv:P.underlying t=some (.slice e)) (hx:RV m (.slice a 0 c) rx) (hR:Rel m L0 H w) :
  cR P (do pure (.value (←Builtin.clear_ (t::ts).toArray ty #[rx]))) L0 lo m H w undef H:=by
 refine cR.value (rv:=undef) (w':=w) ?_ (RV.undef m) hR (Trans.refl lo m _ w)
 cases hx<;>simp[Builtin.clear_,run_underlying Jv,undef]
end
end Go.PM
namespace Go.PM
section
variable {P:Program} {m:dO} {L0:Nat} {H:aE} {w:World}
theorem C7 {po:nK} {ρ:Env} {v:Value} {H':aE} (h:(iM po ρ).map (Out.val · H)=some (.val v H')):iM po ρ=some v∧H'=H:=by
 cases hp:iM po ρ with
 | none=>rw[hp] at h;cases h
 | some u=>rw[hp] at h;cases h;exact⟨rfl,rfl⟩
def tQ:nK→Bool
 | .load .. | .sub .. | .b2s _ | .new _ | .box _ | .make .. | .lit .. | .call .. | .store .. | .app .. | .appz .. | .copy .. | .clear .. | .callv .. => false
 | _=>true
theorem yH {lo:Nat} {po:nK} {ρ:Env} (h:tQ po=true):pop lo po ρ H=(iM po ρ).map (.val · H):=by
 cases po<;>first | rfl | cases h
theorem Q8 {pv rv:Value} {k:Nat} (size:Nat) (h:rY pv=some k) (hr:RV m pv rv):(Builtin.firstCells size 0 rv).run P w = .ok #[] w:=by
 unfold rY at h
 split at h
 ·cases hr
  ·rfl
  ·simp only[Builtin.firstCells,Nat.zero_mul]
   rfl
 ·cases hr
  simp[Builtin.firstCells]
 ·cases h
theorem Vm {o:Oper} {po:nK} {ρ:Env} {a:Act} {lo:Nat} {v:Value} {H':aE} (hp:pK P o.op=some po) (hv:pop lo po ρ H=some (.val v H')) (hr:∀x∈o.op.operands,RV m (ev ρ x) (a.eval x))
  (hR:Rel m L0 H w) (dK:L0≤lo) (hf:∀b,H.length≤b→b<H'.length→m b=none):cR P (execOp a.eval o) L0 lo m H w v H':=by
 by_cases iY:tQ po=true
 ·rw[yH iY] at hv
  obtain⟨h1,rfl⟩:=C7 hv
  obtain⟨rv,h2,h3⟩:=adZ hp h1 hr
  exact⟨rv,w,m,.inl (h3 w),h2,hR,Trans.refl lo m _ w⟩
 obtain⟨dst,op,type,pos,after,guard⟩:=o
 unfold pK at hp
 simp only at hp hr ⊢
 split at hp
 case isFalse=>cases hp
 cases op with
 | move x=>cases hp;exact absurd rfl iY
 | assign x=>cases hp;exact absurd rfl iY
 | pick c x y=>cases hp;exact absurd rfl iY
 |
  binOp op t x y yt =>
  unfold BO at hp
  simp only at hp
  split at hp
  ·cases hp;exact absurd rfl iY
  ·cases hp;exact absurd rfl iY
  ·split at hp<;>first | (cases hp;done) | (cases hp;exact absurd rfl iY)
  ·split at hp<;>first | (cases hp;done) | (split at hp<;>first | (cases hp;done) | (cases hp;exact absurd rfl iY))
  ·split at hp<;>first | (cases hp;done) | (cases hp;exact absurd rfl iY)
  ·cases hp
 | unOp op t x=>cases hp;exact absurd rfl iY
 | extract x i=>cases hp;exact absurd rfl iY
 |
  convert s d x =>
  have hx:=hr x (by simp[Op.operands])
  simp only at hp
  split at hp
  ·cases hp;exact absurd rfl iY
  ·cases hp;exact absurd rfl iY
  ·rename_i e hs hd
   split at hp
   ·rename_i he
    cases hp
    simp only[pop] at hv
    split at hv
    ·rename_i n c YT
     cases hv
     rw[YT] at hx
     show cR P (do pure (.value (←convert s d (a.eval x)))) L0 lo m H w _ H
     generalize a.eval x=rx at hx ⊢
     cases hx
     refine cR.value (rv := .string ByteArray.empty) ?_ (.str _) hR (Trans.refl lo m _ w)
     simp[convert,run_underlying hs,run_underlying hd,run_underlying he,Conv.bytesToString]
    ·rename_i b o n c YT
     split at hv
     ·rename_i cs X3
      cases hb:tF cs with
      | none=>rw[hb] at hv;cases hv
      |
       some bs =>
       rw[hb] at hv
       cases hv
       rw[YT] at hx
       exact aeB hs hd he X3 hb hR hx
     ·cases hv
    ·cases hv
   ·cases hp
  ·cases hp
 |
  field t x i =>
  simp only at hp
  split at hp
  ·split at hp
   ·rename_i f hf'
    cases ht:mA P f.type with
    | none=>rw[ht] at hp;cases hp
    | some q=>rw[ht] at hp;cases hp;exact absurd rfl iY
   ·cases hp
  ·cases hp
 |
  build t parts =>
  simp only at hp
  split at hp
  ·split at hp
   ·split at hp
    ·cases hp;exact absurd rfl iY
    ·cases hp
   ·cases hp
  ·cases hp
 | nilCheck x=>cases hp;exact absurd rfl iY
 |
  fieldAddr t x i =>
  simp only at hp
  split at hp
  ·split at hp
   ·split at hp
    ·split at hp
     ·cases hp
     ·cases hp;exact absurd rfl iY
    ·cases hp
   ·cases hp
  ·cases hp
 |
  indexAddr t x i =>
  simp only at hp
  cases ht:jX P t with
  | none=>rw[ht] at hp;cases hp
  | some q=>rw[ht] at hp;cases hp;exact absurd rfl iY
 |
  index t x i =>
  simp only at hp
  split at hp
  ·cases hp;exact absurd rfl iY
  ·cases hp
 |
  slice t x gO hi mx =>
  have hx:=hr x (by simp[Op.operands])
  simp only at hp
  split at hp
  ·split at hp
   ·cases hp;exact absurd rfl iY
   ·cases hp
  ·rename_i e hu
   cases ht:mA P e with
   | none=>rw[ht] at hp;cases hp
   |
    some q =>
    obtain⟨agg,size,z,nb⟩:=q
    rw[ht] at hp
    cases hp
    obtain⟨i,d,zz,kX,_,_,rfl,rfl,rfl,rfl⟩:=iQ ht
    simp only[pop] at hv
    cases hs:CA i.size (ev ρ x) (gO.map (ev ρ)) (hi.map (ev ρ)) (mx.map (ev ρ)) H with
    | none=>rw[hs] at hv;cases hv
    |
     some q =>
     obtain⟨u,H1⟩:=q
     rw[hs] at hv
     cases hv
     exact aaL hu kX hs hx (RO.map fun y hy=>hr y (by simp[Op.operands,hy])) (RO.map fun y hy=>hr y (by simp[Op.operands,hy])) (RO.map fun y hy=>hr y (by simp[Op.operands,hy])) hR hf
  ·cases hp
 |
  makeFunc fn first fT =>
  cases fn with
  |
   func f =>
   simp only at hp
   split at hp
   ·cases hp;exact absurd rfl iY
   ·cases hp
  | _=>cases hp
 | makeInterface t x=>cases hp;exact absurd rfl iY
 | panic x=>cases hp;exact absurd rfl iY
 |
  load t p =>
  have hx:=hr p (by simp[Op.operands])
  simp only at hp
  cases ht:mA P t with
  | none=>rw[ht] at hp;cases hp
  |
   some q =>
   obtain⟨agg,size,z,nb⟩:=q
   rw[ht] at hp
   cases hp
   simp only[pop] at hv
   cases hl:nS agg size (ev ρ p) H with
   | none=>rw[hl] at hv;cases hv
   |
    some u =>
    rw[hl] at hv
    cases hv
    obtain⟨rv,h1,h2⟩:=ON ht hl hR hx
    exact cR.value h2 h1 hR (Trans.refl lo m _ w)
 |
  store t p x =>
  have hpp:=hr p (by simp[Op.operands])
  have hx:=hr x (by simp[Op.operands])
  simp only at hp
  cases ht:P.info? t with
  | none=>rw[ht] at hp;cases hp
  |
   some i =>
   rw[ht] at hp
   cases hp
   simp only[pop] at hv
   split at hv
   ·rename_i b o hpo
    split at hv
    ·rename_i hs
     cases hw:H.write lo b o (aO (ev ρ x)) with
     | none=>rw[hw] at hv;cases hv
     |
      some H1 =>
      rw[hw] at hv
      cases hv
      rw[hpo] at hpp
      exact UB ht hpp hx hs hw hR dK
    ·cases hv
   ·cases hv
 |
  alloc t =>
  simp only at hp
  split at hp
  ·rename_i agg size z nb ht
   split at hp
   ·rename_i hz
    cases hp
    simp only[Bool.and_eq_true] at hz
    cases hv
    exact ZE ht hz.1 hz.2 hR (hf _ (Nat.le_refl _) (by simp))
   ·cases hp
  ·cases hp
 |
  box t x =>
  have hx:=hr x (by simp[Op.operands])
  cases hp
  simp only[pop] at hv
  split at hv
  ·rename_i hs
   cases hv
   exact ZF hx hs hR (hf _ (Nat.le_refl _) (by simp))
  ·cases hv
 |
  makeSlice t l c =>
  have hl:=hr l (by simp[Op.operands])
  have hc:=hr c (by simp[Op.operands])
  simp only at hp
  split at hp
  ·rename_i agg size z nb ht
   split at hp
   ·rename_i hz
    cases hp
    simp only[Bool.and_eq_true,beq_iff_eq,decide_eq_true_eq] at hz
    obtain⟨⟨⟨z1,z2⟩,z3⟩,z4⟩:=hz
    simp only[pop] at hv
    split at hv
    ·rename_i l' c' BV T1
     split at hv
     ·rename_i hb
      cases hv
      rw[BV] at hl
      rw[T1] at hc
      show cR P (do pure (.value (←Instr.makeSlice t (a.eval l) (a.eval c)))) L0 lo m H w _ _
      generalize a.eval l=rl at hl ⊢
      generalize a.eval c=rc at hc ⊢
      cases hl
      cases hc
      exact YC ht z1 z2 z3 z4 hb.1 hb.2.1 hb.2.2.1 hb.2.2.2 hR (hf _ (Nat.le_refl _) (by simp))
     ·cases hv
    ·cases hv
   ·cases hp
  ·cases hp
 |
  buildSlice t n parts =>
  simp only at hp
  split at hp
  ·rename_i agg size z nb ht
   split at hp
   ·rename_i hz
    cases hp
    simp only[Bool.and_eq_true,beq_iff_eq,decide_eq_true_eq] at hz
    obtain⟨⟨⟨⟨z1,z2⟩,z3⟩,z4⟩,z5⟩:=hz
    simp only[pop] at hv
    split at hv
    ·rename_i cs X3
     split at hv
     ·rename_i uW
      cases hv
      have:=ZI (P:=P) (w:=w) (lo:=lo) (a:=a) ht z1 z2 z3 z4 z5 X3 uW (fun p hpm=>hr p.2 (by simp only[Op.operands];simp;exact⟨p.1,by simpa using hpm⟩)) hR (hf _ (Nat.le_refl _) (by simp))
      rw[Array.toArray_toList] at this
      exact this
     ·cases hv
    ·cases hv
   ·cases hp
  ·cases hp
 |
  call c =>
  obtain⟨callee,args,ts⟩:=c
  cases callee with
  |
   builtin b =>
   have Tn:∀x∈args,RV m (ev ρ x) (a.eval x):=fun x hx=>hr x (by simpa[Op.operands,Call.operands] using hx)
   simp only at hp
   unfold oN at hp
   split at hp
   ·split at hp<;>first | (cases hp;done) | (cases hp;exact absurd rfl iY)
   ·split at hp<;>first | (cases hp;done) | (cases hp;exact absurd rfl iY)
   ·cases hp;exact absurd rfl iY
   ·cases hp;exact absurd rfl iY
   ·rename_i x y t u Da xC hts _
    have ea:args = #[x,y]:=Array.toList_inj.1 (by simpa using xC)
    subst ea
    have hx:=Tn x (by simp)
    have hy:=Tn y (by simp)
    have axU:∃tr,ts=(t::u::tr).toArray:=⟨Da,Array.toList_inj.1 (by simpa using hts)⟩
    obtain⟨tr,rfl⟩:=axU
    show cR P (do pure (.value (←Builtin.append_ (t::u::tr).toArray type ((#[x,y]:Array Operand).map a.eval)))) L0 lo m H w v H'
    rw[Kj]
    have avZ:∀r1 r2,Builtin.append_ (t::u::tr).toArray type #[r1,r2]=Builtin.append_ #[t,u] type #[r1,r2]:=fun r1 r2=>by simp[Builtin.append_]
    rw[avZ]
    split at hp
    ·rename_i agg size zero bytes ku ht hu
     split at hp
     ·rename_i hz
      cases hp
      simp only[Bool.and_eq_true,beq_iff_eq,decide_eq_true_eq] at hz
      obtain⟨⟨⟨z1,z2⟩,z3⟩,z4⟩:=hz
      simp only[pop] at hv
      split at hv
      ·rename_i n hn
       split at hv
       ·rename_i hb
        cases rL:eO lo zero.length bytes (ev ρ x) n.toNat (cZ n.toNat zero) H with
        | none=>rw[rL] at hv;cases hv
        |
         some q =>
         obtain⟨u',H1⟩:=q
         rw[rL] at hv
         cases hv
         rw[hn] at hy
         generalize a.eval y=ry at hy ⊢
         cases hy
         exact Xl ht hu hb rL hx z4 z1 z2 z3 hR dK hf
       ·cases hv
      ·cases hv
     ·cases hp
    ·rename_i agg size zero bytes d _ ht hu
     split at hp
     ·rename_i hd
      split at hp
      ·rename_i WY
       cases hp
       simp only[pop] at hv
       split at hv
       ·rename_i k hk
        split at hv
        ·rename_i new sH
         cases rL:eO lo size bytes (ev ρ x) k new H with
         | none=>rw[rL] at hv;cases hv
         |
          some q =>
          obtain⟨u',H1⟩:=q
          rw[rL] at hv
          cases hv
          exact adS ht hu hd hk sH rL hx hy (by simpa using WY) hR dK hf
        ·cases hv
       ·cases hv
      ·cases hp
     ·cases hp
    ·cases hp
   ·rename_i x y t Da xC hts _
    have ea:args = #[x,y]:=Array.toList_inj.1 (by simpa using xC)
    have et:ts=(t::Da).toArray:=Array.toList_inj.1 (by simpa using hts)
    subst ea;subst et
    have hx:=Tn x (by simp)
    have hy:=Tn y (by simp)
    show cR P (do pure (.value (←Builtin.copy_ (t::Da).toArray type ((#[x,y]:Array Operand).map a.eval)))) L0 lo m H w v H'
    rw[Kj]
    split at hp
    ·rename_i agg size zero bytes ht
     cases hp
     simp only[pop] at hv
     split at hv
     ·rename_i n c k YT hk
      cases hv
      rw[YT] at hx
      generalize a.eval x=rx at hx ⊢
      cases hx
      obtain⟨e,Jv,Qg⟩:=jI ht
      obtain⟨i,de,zz,hi,_,HJ,_,_,_,_⟩:=iQ Qg
      refine cR.value (rv := .int .i64 0) (w':=w) ?_ (.int _ _) hR (Trans.refl lo m _ w)
      have hl:=HO hk hy
      have hf0:=Q8 (P:=P) (w:=w) i.size hk hy
      simp[Builtin.copy_,run_underlying Jv,hl,run_sizeOf e i hi,goInt,hf0]
     ·rename_i b o d c k YT hk
      split at hv
      ·rename_i new sH
       cases hw:H.write lo b o new with
       | none=>rw[hw] at hv;cases hv
       |
        some H1 =>
        rw[hw] at hv
        cases hv
        rw[YT] at hx
        exact Xd ht hk sH hw hx hy hR dK
      ·cases hv
     ·cases hv
    ·cases hp
   ·rename_i x t Da xC hts _
    have ea:args = #[x]:=Array.toList_inj.1 (by simpa using xC)
    have et:ts=(t::Da).toArray:=Array.toList_inj.1 (by simpa using hts)
    subst ea;subst et
    have hx:=Tn x (by simp)
    show cR P (do pure (.value (←Builtin.clear_ (t::Da).toArray type ((#[x]:Array Operand).map a.eval)))) L0 lo m H w v H'
    rw[Pf]
    split at hp
    ·rename_i agg size zero bytes ht
     split at hp
     ·rename_i hz
      cases hp
      simp only[Bool.and_eq_true,beq_iff_eq,decide_eq_true_eq] at hz
      obtain⟨⟨⟨z1,z2⟩,z3⟩,z4⟩:=hz
      obtain⟨e,Jv,Qg⟩:=jI ht
      obtain⟨i,de,zz,hi,_,HJ,rfl,rfl,rfl,rfl⟩:=iQ Qg
      simp only[pop] at hv
      split at hv
      ·rename_i n c YT
       cases hv
       rw[YT] at hx
       generalize a.eval x=rx at hx ⊢
       cases hx
       exact JF Jv .R5 hR
      ·rename_i b o n c YT
       rw[YT] at hx
       split at hv
       ·rename_i hn0
        cases hv
        subst hn0
        exact JF Jv hx hR
       ·rename_i hn0
        cases hw:H.write lo b o (cZ n (aO zz)) with
        | none=>rw[hw] at hv;cases hv
        |
         some H1 =>
         rw[hw] at hv
         cases hv
         exact UJ Jv hi HJ hn0 hw hx z2 z4 hR dK
      ·cases hv
     ·cases hp
    ·cases hp
   ·cases hp
  |
   value f =>
   cases f with
   | func g=>cases hp;cases hv
   |
    tmp t =>
    cases hp
    simp only[pop] at hv
    split at hv<;>cases hv
   | const c=>cases hp
   | global g=>cases hp
  | invoke r s=>cases hp
 | _=>cases hp
def KP (P:Program) (f:Nat):Prop:=∃fn,P.funcs[f]? = some fn∧(fn.name == "runtime.NumGoroutine")=false∧fn.body.isNone=false
theorem GZ {f:Nat} {args:Array Value} (h:KP P f):(callFunc f args).run P w = .ok (.enter f args) w:=by
 obtain⟨fn,h1,h2,h3⟩:=h
 unfold callFunc
 rw[Sem.run_bind,run_program,Result.andThen_ok,h1]
 simp[h2,h3]
theorem map_none {α β:Type} {o:Option α} {f:α→β} {x:β} (h:o.map f=some x) (hf:∀y,f y≠x):False:=by
 cases o with
 | none=>cases h
 | some y=>injection h with h;exact hf y h
theorem Xu {op:Op} {g:Nat} {as:List Operand} (h:pK P op=some (.call g as)):∃args ts,op = .call ⟨.value (.func g),args,ts⟩∧as=args.toList:=by
 unfold pK at h
 split at h
 case isFalse=>cases h
 cases op with
 |
  call c =>
  obtain⟨callee,args,ts⟩:=c
  cases callee with
  |
   builtin b =>
   exfalso
   simp only[oN] at h
   repeat' (split at h)
   all_goals cases h
  |
   value f =>
   cases f with
   | func g'=>cases h;exact⟨args,ts,rfl,rfl⟩
   | _=>cases h
  | invoke r s=>cases h
 |
  _ =>
  exfalso
  dsimp only at h
  try unfold BO at h
  repeat' (split at h)
  all_goals first
   | contradiction
   | (cases h;done)
   | exact map_none h (by intro y h;cases h)
theorem TH {op:Op} {fv:Operand} {as:List Operand} (h:pK P op=some (.callv fv as)):∃args ts,op = .call ⟨.value fv,args,ts⟩∧as=args.toList:=by
 unfold pK at h
 split at h
 case isFalse=>cases h
 cases op with
 |
  call c =>
  obtain⟨callee,args,ts⟩:=c
  cases callee with
  |
   builtin b =>
   exfalso
   simp only[oN] at h
   repeat' (split at h)
   all_goals cases h
  |
   value f =>
   cases f with
   | tmp g'=>cases h;exact⟨args,ts,rfl,rfl⟩
   | _=>cases h
  | invoke r s=>cases h
 |
  _ =>
  exfalso
  dsimp only at h
  try unfold BO at h
  repeat' (split at h)
  all_goals first
   | contradiction
   | (cases h;done)
   | exact map_none h (by intro y h;cases h)
theorem sQ {po:nK} {ρ:Env} {lo f:Nat} {args:List Value} (hv:pop lo po ρ H=some (.call f args)):(∃g as,po = .call g as)∨(∃g as,po = .callv g as):=by
 by_cases iY:tQ po=true
 ·rw[yH iY] at hv
  cases hpp:iM po ρ with
  | none=>rw[hpp] at hv;cases hv
  | some u=>rw[hpp] at hv;cases hv
 cases po<;>first | exact absurd rfl iY | exact .inl ⟨_,_,rfl⟩ | exact .inr ⟨_,_,rfl⟩ | skip
 all_goals
  exfalso
  simp only[pop] at hv
  repeat' (split at hv)
  all_goals first
   | (cases hv;done)
   | (revert hv;generalize aE.write _ _ _ _ _=q;cases q<;>intro hv<;>cases hv)
   | (revert hv;generalize nS _ _ _ _=q;cases q<;>intro hv<;>cases hv)
   | (revert hv;generalize CA _ _ _ _ _ _=q;cases q<;>intro hv<;>cases hv)
   | (revert hv;generalize eO _ _ _ _ _ _ _=q;cases q<;>intro hv<;>cases hv)
   | (revert hv;generalize tF _=q;cases q<;>intro hv<;>cases hv)
theorem X7 {o:Oper} {po:nK} {ρ:Env} {a:Act} {lo f:Nat} {args:List Value} (hp:pK P o.op=some po) (hv:pop lo po ρ H=some (.call f args)) (hr:∀x∈o.op.operands,RV m (ev ρ x) (a.eval x)) :
  ∃gQ,RL m args gQ∧(KP P f→∀w,(execOp a.eval o).run P w = .ok (.enter f gQ.toArray) w):=by
 have key:=sQ hv
 obtain⟨dst,op,type,pos,after,guard⟩:=o
 simp only at hp hr ⊢
 rcases key with⟨g,as,rfl⟩ | ⟨g,as,rfl⟩
 ·obtain⟨B2,ts,rfl,rfl⟩:=Xu hp
  cases hv
  refine⟨B2.toList.map a.eval,RL.map fun x hx=>hr x (by simp[Op.operands,Call.operands];right;simpa using hx),fun hc w => ?_⟩
  have e1:(B2.toList.map a.eval).toArray=B2.map a.eval:=Array.toList_inj.1 (by rw[Array.toList_map])
  rw[e1]
  have e2:execOp a.eval ⟨dst,.call ⟨.value (.func f),B2,ts⟩,type,pos,after,guard⟩=callFunc f ((#[]++B2.map a.eval) ++ #[]):=rfl
  rw[e2,GZ hc]
  simp
 ·obtain⟨B2,ts,rfl,rfl⟩:=TH hp
  have hg:=hr g (by simp[Op.operands,Call.operands])
  simp only[pop] at hv
  split at hv
  ·rename_i f' first fT hfv
   cases hv
   rw[hfv] at hg
   generalize hrg:a.eval g=rg at hg
   cases hg with
   |
    func fn f1 g1 c1 d1 h1 h2 h3 h4 =>
    refine⟨g1.toList++B2.toList.map a.eval++d1.toList,((RL.arr h1 h2).append (RL.map fun x hx=>hr x (by simp[Op.operands,Call.operands];right;simpa using hx))).append (RL.arr h3 h4),fun hc w => ?_⟩
    have e1:(g1.toList++B2.toList.map a.eval++d1.toList).toArray=(g1++B2.map a.eval)++d1:=by
     apply Array.ext'
     simp
    rw[e1]
    have e2:(execOp a.eval ⟨dst,.call ⟨.value g,B2,ts⟩,type,pos,after,guard⟩)=(do let d ←Deferred.ofValue (a.eval g) (B2.map a.eval);invoke d.target d.args):=rfl
    rw[e2,hrg]
    show (callFunc f ((g1++B2.map a.eval)++d1)).run P w=_
    exact GZ hc
  ·cases hv
end
end Go.PM
namespace Go.PM
section
variable {H:aE}
theorem Xn {lo:Nat} {H':aE} (h:Ext H.length H H'):Ext lo H H' :=
 ⟨h.len,fun b _ hl=>h.low b hl hl,h.liv⟩
theorem IY {lo size bytes add:Nat} {x v:Value} {new:List Value} {H':aE} (h:eO lo size bytes x add new H=some (v,H')):Ext lo H H':=by
 unfold eO at h
 split at h
 case isFalse=>cases h
 split at h
 ·split at h
  ·split at h
   ·cases h;exact Ext.refl _ _
   ·split at h
    ·cases h;exact pI _ _ _
    ·cases h
  ·cases h
 ·split at h
  ·split at h
   ·split at h
    ·split at h
     ·cases h;exact Ext.refl _ _
     ·cases hw:aE.write H lo _ _ new with
      | none=>rw[hw] at h;cases h
      | some H1=>rw[hw] at h;cases h;exact DH hw
    ·split at h
     ·split at h
      ·split at h
       ·rename_i Ep
        cases h
        exact Xp Ep
       ·cases h
      ·cases h;exact pI _ _ _
     ·cases h
   ·cases h
  ·cases h
 ·cases h
theorem abP {lo size:Nat} {x v:Value} {l h' mx:Option Value} {H':aE} (h:CA size x l h' mx H=some (v,H')):Ext lo H H':=by
 unfold CA at h
 repeat' (split at h)
 all_goals first
  | (cases h;done)
  | (cases h;exact Ext.refl _ _)
  | (cases h;exact pI _ _ _)
theorem Vo {lo:Nat} {po:nK} {ρ:Env} {v:Value} {H':aE} (h:pop lo po ρ H=some (.val v H')):Ext lo H H':=by
 by_cases iY:tQ po=true
 ·rw[yH iY] at h
  obtain⟨_,rfl⟩:=C7 h
  exact Ext.refl _ _
 cases po<;>first | exact absurd rfl iY | skip
 case load agg size p =>
  simp only[pop] at h
  cases hl:nS agg size (ev ρ p) H with
  | none=>rw[hl] at h;cases h
  | some u=>rw[hl] at h;cases h;exact Ext.refl _ _
 case sub size x l hh mx =>
  simp only[pop] at h
  cases hs:CA size (ev ρ x) (l.map (ev ρ)) (hh.map (ev ρ)) (mx.map (ev ρ)) H with
  | none=>rw[hs] at h;cases h
  |
   some q =>
   obtain⟨u,H1⟩:=q
   rw[hs] at h;cases h;exact abP hs
 case b2s x =>
  simp only[pop] at h
  split at h
  ·cases h;exact Ext.refl _ _
  ·split at h
   ·rename_i cs _
    cases hb:tF cs with
    | none=>rw[hb] at h;cases h
    | some bs=>rw[hb] at h;cases h;exact Ext.refl _ _
   ·cases h
  ·cases h
 case new z=>cases h;exact pI _ _ _
 case box x =>
  simp only[pop] at h
  split at h
  ·cases h;exact pI _ _ _
  ·cases h
 case make z b l c =>
  simp only[pop] at h
  split at h
  ·split at h
   ·cases h;exact pI _ _ _
   ·cases h
  ·cases h
 case lit z n parts =>
  simp only[pop] at h
  split at h
  ·split at h
   ·cases h;exact pI _ _ _
   ·cases h
  ·cases h
 case call f args=>cases h
 case callv f args =>
  simp only[pop] at h
  split at h<;>cases h
 case store size p x =>
  simp only[pop] at h
  split at h
  ·rename_i b o _
   split at h
   ·cases hw:H.write lo b o (aO (ev ρ x)) with
    | none=>rw[hw] at h;cases h
    | some H1=>rw[hw] at h;cases h;exact DH hw
   ·cases h
  ·cases h
 case app size bytes x y =>
  simp only[pop] at h
  split at h
  ·rename_i n _
   split at h
   ·rename_i new _
    cases ha:eO lo size bytes (ev ρ x) n new H with
    | none=>rw[ha] at h;cases h
    |
     some q =>
     obtain⟨u,H1⟩:=q
     rw[ha] at h;cases h;exact IY ha
   ·cases h
  ·cases h
 case appz z bytes x n =>
  simp only[pop] at h
  split at h
  ·rename_i k _
   split at h
   ·cases ha:eO lo z.length bytes (ev ρ x) k.toNat (cZ k.toNat z) H with
    | none=>rw[ha] at h;cases h
    |
     some q =>
     obtain⟨u,H1⟩:=q
     rw[ha] at h;cases h;exact IY ha
   ·cases h
  ·cases h
 case copy size x y =>
  simp only[pop] at h
  split at h
  ·cases h;exact Ext.refl _ _
  ·rename_i b o d _ s _ _
   split at h
   ·rename_i new _
    cases hw:H.write lo b o new with
    | none=>rw[hw] at h;cases h
    | some H1=>rw[hw] at h;cases h;exact DH hw
   ·cases h
  ·cases h
 case clear z x =>
  simp only[pop] at h
  split at h
  ·cases h;exact Ext.refl _ _
  ·rename_i b o n _ _
   split at h
   ·cases h;exact Ext.refl _ _
   ·cases hw:H.write lo b o (cZ n z) with
    | none=>rw[hw] at h;cases h
    | some H1=>rw[hw] at h;cases h;exact DH hw
  ·cases h
def rB (call:gG):Prop:=∀f args lo H v H',call f args lo H=some (v,H')→Ext lo H H'
theorem LD {call:gG} (hc:rB call) {lo:Nat} {i:PI} {ρ:Env} {v:Value} {H':aE} (h:yR call lo i ρ H=some (v,H')):Ext lo H H':=by
 unfold yR at h
 split at h
 ·cases h
 ·cases h;exact Ext.refl _ _
 ·split at h
  ·split at h
   ·rename_i hp
    cases h
    exact Vo hp
   ·rename_i f args _
    have:=hc _ _ _ _ _ _ h
    split at this
    ·exact Xn this
    ·exact this
   ·cases h
  ·cases h
theorem xF {call:gG} {lo:Nat} {i:PI} {ρ bI:Env} {H':aE} (h:yO call lo i ρ H=some (bI,H')):∃v,yR call lo i ρ H=some (v,H')∧bI=put ρ i.dst v:=by
 unfold yO at h
 split at h
 ·rename_i v H1 hv
  cases h
  exact⟨v,hv,rfl⟩
 ·cases h
theorem Ig {call:gG} (hc:rB call) {lo:Nat} {i:PI} {ρ bI:Env} {H':aE} (h:yO call lo i ρ H=some (bI,H')):Ext lo H H':=by
 obtain⟨v,h1,_⟩:=xF h
 exact LD hc h1
theorem Ma {call:gG} (hc:rB call) {lo:Nat}:∀(is:List PI) {ρ bI:Env} {H H':aE},gT call lo is ρ H=some (bI,H')→Ext lo H H'
 | [],ρ,bI,H,H',h=>by cases h;exact Ext.refl _ _
 |
  i::is,ρ,bI,H,H',h=>by
  rw[gT] at h
  split at h
  ·rename_i h1
   exact(Ig hc h1).trans (Ma hc is h)
  ·cases h
theorem IM {lo:Nat} {body:Env→aE→Option (Ex×Env×aE)} (hb:∀ρ H x bI H',body ρ H=some (x,bI,H')→Ext lo H H'):∀(n:Nat) {ρ bI:Env} {H H':aE} {x:Ex},wW body n ρ H=some (x,bI,H')→Ext lo H H'
 | 0,_,_,_,_,_,h=>by cases h
 |
  n+1,ρ,bI,H,H',x,h=>by
  rw[wW] at h
  split at h
  ·rename_i h1
   exact(hb _ _ _ _ _ h1).trans (IM hb n h)
  ·exact hb _ _ _ _ _ h
theorem jM {call:gG} (hc:rB call) {lo n:Nat}:∀(c:aD) {ρ bI:Env} {H H':aE} {x:Ex},dL call lo n c ρ H=some (x,bI,H')→Ext lo H H'
 | .skip,_,_,_,_,_,h=>by cases h;exact Ext.refl _ _
 |
  .dC ops,ρ,bI,H,H',x,h=>by
  rw[dL] at h
  cases hp:gT call lo ops ρ H with
  | none=>rw[hp] at h;cases h
  |
   some q =>
   obtain⟨wP,H1⟩:=q
   rw[hp] at h;cases h
   exact Ma hc ops hp
 |
  .seq a b,ρ,bI,H,H',x,h=>by
  rw[dL] at h
  split at h
  ·rename_i h1
   exact(jM hc a h1).trans (jM hc b h)
  ·exact jM hc a h
 |
  .cond c a b,ρ,bI,H,H',x,h=>by
  rw[dL] at h
  split at h
  ·split at h
   ·exact jM hc a h
   ·exact jM hc b h
  ·cases h
 |
  .block id a,ρ,bI,H,H',x,h=>by
  rw[dL] at h
  split at h
  ·rename_i h1
   split at h<;>(cases h;exact jM hc a h1)
  ·exact jM hc a h
 |
  .loop a,ρ,bI,H,H',x,h=>by
  rw[dL] at h
  exact IM (fun ρ H x bI H' h=>jM hc a h) n h
 | .exit id,_,_,_,_,_,h=>by cases h;exact Ext.refl _ _
 | .ret,_,_,_,_,_,h=>by cases h;exact Ext.refl _ _
theorem DX (E:AX) (T:Zl):∀n,rB (mB E T n)
 | 0=>fun _ _ _ _ _ _ h=>by cases h
 |
  n+1=>fun f args lo H v H' h=>by
  rw[mB] at h
  split at h
  ·rename_i p _
   cases hp:p args H with
   | none=>rw[hp] at h;cases h
   | some u=>rw[hp] at h;cases h;exact Ext.refl _ _
  ·split at h
   ·cases h
   ·rename_i pf _
    split at h
    ·split at h
     ·rename_i wP H1 h1
      cases hr:qH pf.res wP H1 with
      | none=>rw[hr] at h;cases h
      | some u=>rw[hr] at h;cases h;exact jM (DX E T n) _ h1
     ·rename_i wP H1 h1
      cases hr:qH pf.res wP H1 with
      | none=>rw[hr] at h;cases h
      | some u=>rw[hr] at h;cases h;exact jM (DX E T n) _ h1
     ·cases h
    ·cases h
end
end Go.PM
namespace Go.PM
theorem DZ {α β:Type} {f:α→Option β}:∀ {l:List α} {ys:List β},l.mapM f=some ys→ys.length=l.length∧∀i (h:i<l.length),f l[i]=ys[i]?
 |
  [],ys,h=>by
  simp at h
  subst h
  exact⟨rfl,fun i h=>absurd h (by simp)⟩
 |
  x::l,ys,h=>by
  simp only[List.mapM_cons,Option.pure_def,Option.bind_eq_bind] at h
  cases h1:f x with
  | none=>rw[h1] at h;cases h
  |
   some y =>
   rw[h1] at h
   cases h2:l.mapM f with
   | none=>rw[h2] at h;cases h
   |
    some zs =>
    rw[h2] at h
    cases h
    obtain⟨k1,k2⟩:=DZ h2
    refine⟨by simp[k1],fun i hi => ?_⟩
    cases i with
    | zero=>simpa using h1
    | succ i=>simpa using k2 i (by simpa using hi)
theorem St {α β:Type} {f:α→Option β} {l:List α} {ys:List β} (h:l.mapM f=some ys) {i:Nat} {x:α} (hx:l[i]? = some x):∃y,ys[i]? = some y∧f x=some y:=by
 obtain⟨h1,h2⟩:=DZ h
 obtain⟨bF,rfl⟩:=List.getElem?_eq_some_iff.1 hx
 have Lv:i<ys.length:=by omega
 refine⟨ys[i],List.getElem?_eq_getElem Lv,?_⟩
 rw[h2 i bF,List.getElem?_eq_getElem Lv]
def D8 (E:AX) (ops:List Oper) (M:List Nat) (i j:Nat) (pi pj:nK) (l:List (Operand×Operand)):Prop :=
 match fU E pi,fU E pj with
 | .look,.write | .write,.look=>ahead M i j=true∨∃a b,EC pi=some a∧EC pj=some b∧D2 ops i j a=true∧(a,b)∈l
 | .write,.write | .quiet,.write | .write,.quiet=>ahead M i j=true
 | _,_=>True
theorem D8.mono {E:AX} {ops:List Oper} {M:List Nat} {i j:Nat} {pi pj:nK} {l l':List (Operand×Operand)} (h:D8 E ops M i j pi pj l) (hl:∀x∈l,x∈l'):D8 E ops M i j pi pj l':=by
 unfold D8 at h ⊢
 split at h
 all_goals first
  | exact h
  | exact h.imp id fun⟨a,b,h1,h2,h3,h4⟩=>⟨a,b,h1,h2,h3,hl _ h4⟩
theorem Mq {E:AX} {ops:List Oper} {ps:List nK} {M:List Nat} {j:Nat} {pj:nK} {l:List (Operand×Operand)} (h:conflicts E ops ps M j pj=some l) :
  ∀i,i<j→∀pi,ps[i]? = some pi→D8 E ops M i j pi pj l:=by
 have key:∀(is:List Nat) (l:List (Operand×Operand)),(is.foldr (fun i acc=>match acc,ps[i]? with
  |
   some l,some pi =>
   match fU E pi,fU E pj with
   |
    .look,.write | .write,.look =>
    if ahead M i j then some l
    else match EC pi,EC pj with
     | some a,some b=>if D2 ops i j a then some ((a,b)::l) else none
     | _,_=>none
   | .write,.write | .quiet,.write | .write,.quiet=>if ahead M i j then some l else none
   | _,_=>some l
  | _,_=>none) (some []))=some l→∀i∈is,∀pi,ps[i]? = some pi→D8 E ops M i j pi pj l:=by
  intro is
  induction is with
  | nil=>intro l _ i hi;cases hi
  |
   cons i0 is ih =>
   intro l h i hi pi XR
   rw[List.foldr_cons] at h
   revert h
   generalize avT:is.foldr _ (some [])=acc
   intro h
   cases acc with
   | none=>cases h
   |
    some l0 =>
    have ih':=ih l0 avT
    cases hp0:ps[i0]? with
    | none=>rw[hp0] at h;cases h
    |
     some p0 =>
     rw[hp0] at h
     simp only at h
     have step:(∀x∈l0,x∈l)∧D8 E ops M i0 j p0 pj l:=by
      unfold D8
      split at h
      ·rename_i c1 c2
       try rw[c1,c2]
       split at h
       ·rename_i ha;cases h;exact⟨fun x hx=>hx,.inl ha⟩
       ·split at h
        ·rename_i a b ta tb
         split at h
         ·rename_i hu;cases h;exact⟨fun x hx=>List.mem_cons_of_mem _ hx,.inr ⟨a,b,ta,tb,hu,List.mem_cons_self⟩⟩
         ·cases h
        ·cases h
      ·rename_i c1 c2
       try rw[c1,c2]
       split at h
       ·rename_i ha;cases h;exact⟨fun x hx=>hx,.inl ha⟩
       ·split at h
        ·rename_i a b ta tb
         split at h
         ·rename_i hu;cases h;exact⟨fun x hx=>List.mem_cons_of_mem _ hx,.inr ⟨a,b,ta,tb,hu,List.mem_cons_self⟩⟩
         ·cases h
        ·cases h
      ·rename_i c1 c2
       try rw[c1,c2]
       split at h
       ·rename_i ha;cases h;exact⟨fun x hx=>hx,ha⟩
       ·cases h
      ·rename_i c1 c2
       try rw[c1,c2]
       split at h
       ·rename_i ha;cases h;exact⟨fun x hx=>hx,ha⟩
       ·cases h
      ·rename_i c1 c2
       try rw[c1,c2]
       split at h
       ·rename_i ha;cases h;exact⟨fun x hx=>hx,ha⟩
       ·cases h
      ·cases h
       refine⟨fun x hx=>hx,?_⟩
       first | trivial | (split<;>first | trivial | (simp_all;done)) | (simp_all;done)
     rcases List.mem_cons.1 hi with rfl | hi
     ·rw[hp0] at XR
      cases XR
      exact step.2
     ·exact(ih' i hi pi XR).mono step.1
 exact fun i hi pi XR=>key _ l h i (List.mem_range.2 hi) pi XR
structure aeH (P:Program) (E:AX) (n:Nat) (ops:List Oper) (i:Nat) (o:Oper) (p:nK) (pi:PI):Prop where
 YI:pK P o.op=some p
 dst:pi.dst=o.dst
 op:pi.op=p
 guard:guardOf ops i o=some pi.g
 bound:∀d,o.dst=some d→d<n
structure Pl (E:AX) (ops:List Oper) (ps:List nK) (M:List Nat) (i:Nat) (o:Oper) (p:nK) (pi:PI):Prop where
 back:∀e∈o.after.toList,Region.binds .any e=true→e.on<i
 guard:∀j w,o.guard=some (j,w)→(M.getD i 0).testBit j=true
 OH:∀t∈o.dst.toList++wD ops o,∀k ok,ops[k]? = some ok→ok.dst=some t→k=i∨ahead M i k=true
 mask:M.getD i 0=wO o M
 quiet:pi.quiet=(match fU E p with | .quiet=>true | _=>false)
 atX:∀k,k<i→∀pk,ps[k]? = some pk→D8 E ops M k i pk p pi.cf
theorem SJ {P:Program} {E:AX} {n:Nat} {ops:List Oper} {ps:List nK} {M:List Nat} {draw:Bool} {i:Nat} {pi:PI} (h:TD E ops ps M n draw i=some pi) {o:Oper} {p:nK} (ho:ops[i]? = some o) (hp:ps[i]? = some p)
  (VN:pK P o.op=some p):aeH P E n ops i o p pi∧(draw=true→Pl E ops ps M i o p pi)∧(draw=false→pi.quiet=false∧pi.cf=[]):=by
 unfold TD at h
 rw[ho,hp] at h
 simp only at h
 split at h
 case isFalse=>cases h
 rename_i hb
 have hbound:∀d,o.dst=some d→d<n:=by
  intro d hd
  rw[hd] at hb
  simpa[ajH] using hb
 split at h
 ·cases h
 ·rename_i g hg
  cases draw with
  |
   false =>
   simp only[Bool.false_eq_true,if_false] at h
   cases h
   exact⟨⟨VN,rfl,rfl,hg,hbound⟩,(fun h=>by cases h),fun _=>⟨rfl,rfl⟩⟩
  |
   true =>
   simp only[if_true] at h
   split at h
   case isFalse=>cases h
   rename_i hc
   simp only[Bool.and_eq_true,beq_iff_eq] at hc
   obtain⟨⟨⟨c1,c2⟩,c3⟩,c4⟩:=hc
   cases Qv:conflicts E ops ps M i p with
   | none=>rw[Qv] at h;cases h
   |
    some cf =>
    rw[Qv] at h
    cases h
    refine⟨⟨VN,rfl,rfl,hg,hbound⟩,fun _=>⟨fun e he hbd => ?_,fun j w hj => ?_,fun t ht k ok hk hkd => ?_,c4,rfl,Mq Qv⟩,(fun h=>by cases h)⟩
    ·have:=List.all_eq_true.1 c1 e he
     simpa[hbd] using this
    ·rw[hj] at c2
     exact c2
    ·have h1:=List.all_eq_true.1 c3 t ht
     have hk':k<ops.length:=(List.getElem?_eq_some_iff.1 hk).1
     have h2:=List.all_eq_true.1 h1 k (List.mem_range.2 hk')
     rw[hk] at h2
     simp only[Bool.or_eq_true,bne_iff_ne,ne_eq,beq_iff_eq] at h2
     rcases h2 with(h2 | h2) | h2
     ·exact absurd hkd h2
     ·exact .inl h2
     ·exact .inr h2
structure ajM (P:Program) (E:AX) (n:Nat) (ops:List Oper) (draw:Bool) (sY:List PI) (ps:List nK) (M:List Nat):Prop where
 Ek:ps.length=ops.length
 azM:sY.length=ops.length
 each:∀i o,ops[i]? = some o→∃p pi,ps[i]? = some p∧sY[i]? = some pi∧aeH P E n ops i o p pi∧(draw=true→Pl E ops ps M i o p pi)∧(draw=false→pi.quiet=false∧pi.cf=[])
theorem JR {P:Program} {E:AX} {n:Nat} {ops:Array Oper} {draw:Bool} {sY:List PI} (h:xZ P E n ops draw=some sY):∃ps M,ajM P E n ops.toList draw sY ps M:=by
 unfold xZ at h
 split at h
 ·rename_i ps hps
  simp only at h
  generalize (if draw=true then PX ops.toList [] else [])=M at h
  obtain⟨h1,h2⟩:=DZ hps
  obtain⟨h3,h4⟩:=DZ h
  refine⟨ps,M,h1,by simpa using h3,fun i o ho => ?_⟩
  have bF:=(List.getElem?_eq_some_iff.1 ho).1
  obtain⟨p,hp,VN⟩:=St hps ho
  have hr:(List.range ops.size)[i]? = some i:=by rw[List.getElem?_range];simpa using bF
  obtain⟨pi,XR,hpp⟩:=St h hr
  exact⟨p,pi,hp,XR,SJ hpp ho hp VN⟩
 ·cases h
theorem NB {o:Oper} {M:List Nat} {i:Nat} (h:(wO o M).testBit i=true):∃e∈o.after.toList,Region.binds .any e=true∧(e.on=i∨(M.getD e.on 0).testBit i=true):=by
 unfold wO at h
 revert h
 generalize o.after.toList=es
 induction es with
 | nil=>intro h;simp at h
 |
  cons e es ih =>
  intro h
  rw[List.foldr_cons] at h
  split at h
  ·rename_i hb
   rw[Nat.testBit_or,Nat.testBit_or,Bool.or_eq_true,Bool.or_eq_true] at h
   rcases h with(h | h) | h
   ·obtain⟨e',h1,h2⟩:=ih h
    exact⟨e',List.mem_cons_of_mem _ h1,h2⟩
   ·refine⟨e,List.mem_cons_self,hb,.inl ?_⟩
    rw[Nat.testBit_two_pow] at h
    simpa using h
   ·exact⟨e,List.mem_cons_self,hb,.inr h⟩
  ·obtain⟨e',h1,h2⟩:=ih h
   exact⟨e',List.mem_cons_of_mem _ h1,h2⟩
theorem UZ {ops:List Oper} {M:List Nat} {S:Nat→Prop} (hb:∀i o,ops[i]? = some o→∀e∈o.after.toList,Region.binds .any e=true→e.on<i) (hm:∀i o,ops[i]? = some o→M.getD i 0=wO o M)
  (hS:∀i o,ops[i]? = some o→S i→∀e∈o.after.toList,Region.binds .any e=true→S e.on):∀j o,ops[j]? = some o→(∀e∈o.after.toList,Region.binds .any e=true→S e.on)→∀i,(M.getD j 0).testBit i=true→S i:=by
 intro j
 induction j using Nat.strongRecOn with
 |
  _ j ih =>
  intro o ho hj i hi
  rw[hm j o ho] at hi
  obtain⟨e,he,hbd,h1⟩:=NB hi
  rcases h1 with rfl | h1
  ·exact hj e he hbd
  ·have bF:=hb j o ho e he hbd
   have hjl:=(List.getElem?_eq_some_iff.1 ho).1
   have VC:e.on<ops.length:=by omega
   exact ih e.on bF ops[e.on] (List.getElem?_eq_getElem VC) (hS e.on _ (List.getElem?_eq_getElem VC) (hj e he hbd)) i h1
end Go.PM
namespace Go.PM
def wQ (P:Program) (L0:Nat) (call:gG):Prop :=
 ∀f args lo H v H',call f args lo H=some (v,H')→∀m w gQ,Rel m L0 H w→L0≤lo→L0≤H.length→RL m args gQ→(∀b,H.length≤b→b<H'.length→m b=none) →
  KP P f∧Calls P f gQ.toArray w fun e w'=>∃m' rv,e = .returned rv∧RV m' v rv∧Rel m' L0 H' w'∧Trans lo m H w m' H' w'
section
variable {P:Program} {m:dO} {L0:Nat} {H:aE} {w:World}
theorem tI {call:gG} {lo:Nat} {i:PI} {ρ:Env} {v:Value} {H':aE} (h:yR call lo i ρ H=some (v,H')) :
  (zP i.g ρ=some false∧v=undef∧H'=H) ∨
  (zP i.g ρ=some true∧i.cf.all (AR ρ)=true∧(pop lo i.op ρ H=some (.val v H') ∨
   ∃f args,pop lo i.op ρ H=some (.call f args)∧call f args (if i.quiet then H.length else lo) H=some (v,H'))):=by
 unfold yR at h
 split at h
 ·cases h
 ·rename_i hw;cases h;exact .inl ⟨hw,rfl,rfl⟩
 ·rename_i hw
  split at h
  ·rename_i Qv
   refine .inr ⟨hw,Qv,?_⟩
   split at h
   ·rename_i hp;cases h;exact .inl hp
   ·rename_i f args hp;exact .inr ⟨f,args,hp,h⟩
   ·cases h
  ·cases h
theorem XH {t:Array Value} {d:Nat} {b:Bool} (h:t.getD d undef = .bool b):t[d]? = some (.bool b):=by
 rcases Nat.lt_or_ge d t.size with hd | hd
 ·simp[hd] at h ⊢
  exact h
 ·simp[Array.getElem?_eq_none hd,undef] at h
theorem Fq {ops:Array Oper} {i:Nat} {o:Oper} {g:Option (Nat×Bool)} {ρ:Env} {a:Act} {t:Bool} (hg:guardOf ops.toList i o=some g) (hw:zP g ρ=some t)
  (hr:∀d∈wD ops.toList o,RV m (ρ d) (a.tmps.getD d undef)):Region.wanted o (yielded ops a.tmps)=t:=by
 unfold guardOf at hg
 unfold Region.wanted
 cases hgd:o.guard with
 |
  none =>
  rw[hgd] at hg
  cases hg
  cases hw
  rfl
 |
  some jw =>
  obtain⟨j,want⟩:=jw
  rw[hgd] at hg
  simp only at hg
  split at hg
  ·split at hg
   ·rename_i d hd
    cases hg
    have Lc:d∈wD ops.toList o:=by
     unfold wD
     rw[hgd]
     simp only[List.mem_append]
     right
     rw[hd]
     simp
    have W1:=hr d Lc
    simp only[zP] at hw
    split at hw
    ·rename_i b hb
     cases hw
     rw[hb] at W1
     generalize hx:a.tmps.getD d undef=x at W1
     cases W1
     have hy:yielded ops a.tmps j=some b:=by
      unfold yielded
      have YQ:(ops[j]?).bind (·.dst)=some d:=by simpa using hd
      rw[YQ,Option.bind_some,XH hx]
     simp only[hy]
     cases b<;>cases want<;>rfl
    ·rename_i vs hb
     cases hw
     rw[hb] at W1
     generalize hx:a.tmps.getD d undef=x at W1
     obtain⟨ws,rfl⟩:∃ws,x = .tuple ws:=by cases W1;exact⟨_,rfl⟩
     have YQ:(ops[j]?).bind (·.dst)=some d:=by simpa using hd
     have hy:yielded ops a.tmps j=none:=by
      unfold yielded
      rw[YQ,Option.bind_some]
      rcases Nat.lt_or_ge d a.tmps.size with bF | bF
      ·have:a.tmps[d]? = some (.tuple ws):=by rw[←hx];simp[bF]
       rw[this]
      ·rw[Array.getElem?_eq_none bF]
     simp only[hy]
     rfl
    ·cases hw
   ·cases hg
  ·cases hg
theorem abD {E:AX} {p:nK} {lo gO:Nat} {ρ:Env} (h:fU E p = .quiet):pop lo p ρ H=pop gO p ρ H:=by
 cases p<;>first | rfl | (simp[fU] at h;done)
theorem EA {ops:List Oper} {o:Oper} {t:Nat} (h:Operand.tmp t∈o.op.operands):t∈wD ops o:=by
 unfold wD tmpsOf
 rw[List.mem_append]
 left
 rw[List.mem_filterMap]
 exact⟨.tmp t,by simpa using h,rfl⟩
theorem KT {op:Op} {p:nK} (h:pK P op=some p):∀x∈op.operands,PC x=true:=by
 intro x hx
 unfold pK at h
 split at h
 ·rename_i lF
  obtain⟨i,hi,rfl⟩:=Array.getElem_of_mem hx
  exact Array.all_eq_true.1 lF i hi
 ·cases h
theorem Qf {E:AX} {n lo k:Nat} {ops:Array Oper} {o:Oper} {p:nK} {pi:PI} {call:gG} {ρ:Env} {v:Value} {H':aE} {a:Act} {K:Act→World→Prop} {Q:Exit→Act→World→Prop} (ho:ops[k]? = some o) (DY:aeH P E n ops.toList k o p pi)
  (hq:pi.quiet=true→fU E p = .quiet) (hv:yR call lo pi ρ H=some (v,H')) (hr:∀t∈wD ops.toList o,RV m (ρ t) (a.tmps.getD t undef)) (hR:Rel m L0 H w) (dK:L0≤lo) (hlen:L0≤H.length)
  (hf:∀b,H.length≤b→b<H'.length→m b=none) (nP:wQ P L0 call)
  (hK:∀m' rv w',RV m' v rv→Rel m' L0 H' w'→Trans (if pi.quiet then H.length else lo) m H w m' H' w'→K (a.put o.dst rv) w'):wpOp P ops Q k K a w:=by
 have hro:∀x∈o.op.operands,RV m (ev ρ x) (a.eval x):=fun x hx=>UX (KT DY.YI x hx) fun t ht=>hr t (EA (ht▸hx))
 unfold wpOp
 rw[ho]
 simp only
 rcases tI hv with⟨hw,rfl,rfl⟩ | ⟨hw,_,hp | ⟨f,args,hp,hc⟩⟩
 ·rw[Fq DY.guard hw hr]
  simp only[Bool.false_eq_true,if_false]
  exact hK m undef w (RV.undef m) hR (Trans.refl _ m _ w)
 ·rw[Fq DY.guard hw hr]
  simp only[if_true]
  left
  rw[DY.op] at hp
  have hs:cR P (execOp a.eval o) L0 (if pi.quiet then H.length else lo) m H w v H':=by
   split
   ·rename_i hqq
    rw[abD (gO:=H.length) (hq hqq)] at hp
    exact Vm DY.YI hp hro hR hlen hf
   ·exact Vm DY.YI hp hro hR dK hf
  obtain⟨rv,w',m',oP,h1,h2,h3⟩:=hs
  unfold Oper.wp
  rcases oP with oP | ⟨oP,rfl⟩
  ·rw[oP]
   exact hK m' rv w' h1 h2 h3
  ·rw[oP]
   exact hK m' undef w' h1 h2 h3
 ·rw[Fq DY.guard hw hr]
  simp only[if_true]
  left
  rw[DY.op] at hp
  have asK:L0≤(if pi.quiet then H.length else lo):=by split<;>assumption
  obtain⟨gQ,Tn,aqK⟩:=X7 DY.YI hp hro
  have oP:=aqK (nP f args _ H v H' hc m w gQ hR asK hlen Tn hf).1
  unfold Oper.wp
  rw[oP w]
  show Calls P f gQ.toArray w _
  refine(nP f args _ H v H' hc m w gQ hR asK hlen Tn hf).2.mono ?_
  rintro e w' ⟨m',rv,rfl,h1,h2,h3⟩
  exact hK m' rv w' h1 h2 h3
end
end Go.PM
namespace Go.PM
theorem GC {call:gG} {lo:Nat}:∀ {sY:List PI} {ρ bI:Env} {H H':aE},gT call lo sY ρ H=some (bI,H') →
  ∃st:Nat→Env×aE,st 0=(ρ,H)∧st sY.length=(bI,H')∧∀i pi,sY[i]? = some pi→yO call lo pi (st i).1 (st i).2=some (st (i+1))
 |
  [],ρ,bI,H,H',h=>by
  cases h
  exact⟨fun _=>(ρ,H),rfl,rfl,fun i pi hi=>by simp at hi⟩
 |
  x::sY,ρ,bI,H,H',h=>by
  rw[gT] at h
  split at h
  ·rename_i wP H1 h1
   obtain⟨st,h2,h3,h4⟩:=GC h
   refine⟨fun i=>match i with | 0=>(ρ,H) | i+1=>st i,rfl,h3,fun i pi hi => ?_⟩
   cases i with
   |
    zero =>
    simp at hi
    subst hi
    show yO call lo x ρ H=some (st 0)
    rw[h1,h2]
   | succ i=>exact h4 i pi (by simpa using hi)
  ·cases h
theorem iP {H1 H2:aE} {b:Nat} (h:H2[b]? = H1[b]?):Live H2 b↔Live H1 b:=by
 unfold Live
 rw[h]
theorem Rel.restrict {m:dO} {L0:Nat} {H1 H2:aE} {w:World} (h:Rel m L0 H2 w) (hs:∀b,b<H1.length→H2[b]? = H1[b]?):Rel m L0 H1 w:=by
 refine⟨h.valid,fun b l cs e p hm hb=>h.row b l cs e p hm ?_,fun b1 b2 l1 l2 hb h1 h2 Cz E4=>h.inj b1 b2 l1 l2 hb h1 h2 ((iP (hs b1 Cz.lt)).2 Cz) ((iP (hs b2 E4.lt)).2 E4),fun x hx=>⟨(h.Dw x hx).1,fun b l hb hm hl=>(h.Dw x hx).2 b l hb hm ((iP (hs b hl.lt)).2 hl)⟩⟩
 rw[hs b (List.getElem?_eq_some_iff.1 hb).1]
 exact hb
theorem Rel.grow {m:dO} {L0:Nat} {H1 H2:aE} {w:World} (h:Rel m L0 H1 w) (hs:∀b,b<H1.length→H2[b]? = H1[b]?) (hd:∀b,H1.length≤b→b<H2.length→m b=none):Rel m L0 H2 w:=by
 have lt:∀b l,m b=some l→b<H2.length→b<H1.length:=fun b l hm hb=>by
  rcases Nat.lt_or_ge b H1.length with h | h
  ·exact h
  ·rw[hd b h hb] at hm;cases hm
 refine⟨h.valid,fun b l cs e p hm hb=>h.row b l cs e p hm ?_,fun b1 b2 l1 l2 hb h1 h2 Cz E4=>h.inj b1 b2 l1 l2 hb h1 h2 ((iP (hs b1 (lt b1 l1 h1 Cz.lt))).1 Cz) ((iP (hs b2 (lt b2 l2 h2 E4.lt))).1 E4),fun x hx=>⟨(h.Dw x hx).1,fun b l hb hm hl=>(h.Dw x hx).2 b l hb hm ((iP (hs b (lt b l hm hl.lt))).1 hl)⟩⟩
 rw[←hs b (lt b l hm (List.getElem?_eq_some_iff.1 hb).1)]
 exact hb
structure Text (P:Program) (E:AX) (n:Nat) (ops:Array Oper) (sY:List PI) (ps:List nK) (M:List Nat) (call:gG) (lo:Nat) (st:Nat→Env×aE):Prop where
 ok:ajM P E n ops.toList true sY ps M
 ext:rB call
 step:∀i pi,sY[i]? = some pi→yO call lo pi (st i).1 (st i).2=some (st (i+1))
section
variable {P:Program} {E:AX} {n:Nat} {ops:Array Oper} {sY:List PI} {ps:List nK} {M:List Nat} {call:gG} {lo:Nat} {st:Nat→Env×aE}
theorem Text.at (T:Text P E n ops sY ps M call lo st) {i:Nat} (hi:i<ops.size):∃o p pi,ops[i]? = some o∧ps[i]? = some p∧sY[i]? = some pi∧aeH P E n ops.toList i o p pi∧Pl E ops.toList ps M i o p pi ∧
  ∃v,yR call lo pi (st i).1 (st i).2=some (v,(st (i+1)).2)∧(st (i+1)).1=put (st i).1 o.dst v:=by
 have ho:ops.toList[i]? = some ops[i]:=by simp[hi]
 obtain⟨p,pi,h1,h2,h3,h4,_⟩:=T.ok.each i _ ho
 obtain⟨v,h5,h6⟩:=xF (T.step i pi h2)
 exact⟨ops[i],p,pi,by simp[hi],h1,h2,h3,h4 rfl,v,h5,by rw[h6,h3.dst]⟩
theorem Text.asB (T:Text P E n ops sY ps M call lo st) {i:Nat} (hi:i<ops.size):(st i).2.length≤(st (i+1)).2.length:=by
 obtain⟨o,p,pi,_,_,_,_,_,v,hv,_⟩:=T.at hi
 exact(LD T.ext hv).len
theorem Text.len (T:Text P E n ops sY ps M call lo st) {i:Nat}:∀ {j:Nat},i≤j→j≤ops.size→(st i).2.length≤(st j).2.length:=by
 intro j PJ
 induction j with
 | zero =>
    intro _;have:i=0:=by omega
    subst this;exact Nat.le_refl _
 |
  succ j ih =>
  intro hj
  rcases Nat.lt_or_ge i (j+1) with h | h
  ·exact Nat.le_trans (ih (by omega) (by omega)) (T.asB (by omega))
  ·have:i=j+1:=by omega
   subst this;exact Nat.le_refl _
theorem Text.aqY (T:Text P E n ops sY ps M call lo st) {i:Nat} {p:nK} (hi:i<ops.size) (hp:ps[i]? = some p) (hw:fU E p ≠ .write):∀b,b<(st i).2.length→(st (i+1)).2[b]? = (st i).2[b]? := by
 intro b hb
 obtain⟨o,p',pi,_,Cu,_,DY,XE,v,hv,_⟩:=T.at hi
 rw[hp] at Cu
 cases Cu
 rcases tI hv with⟨_,_,h⟩ | ⟨_,_,h | ⟨f,args,h1,h2⟩⟩
 ·rw[h]
 ·rw[DY.op] at h
  by_cases hq:fU E p = .quiet
  ·rw[abD (gO:=(st i).2.length) hq] at h
   exact(Vo h).low b hb hb
  ·
   have:(st (i+1)).2=(st i).2:=by
    cases p<;>first
     | (exact absurd rfl hw)
     | (exact absurd rfl hq)
     | (rw[yH rfl] at h;exact(C7 h).2)
     | skip
    case load agg size q =>
     simp only[pop] at h
     cases hl:nS agg size (ev (st i).1 q) (st i).2 with
     | none=>rw[hl] at h;cases h
     | some u=>rw[hl] at h;injection h with h;injection h with _ h;exact h.symm
    case b2s x =>
     simp only[pop] at h
     split at h
     ·injection h with h;injection h with _ h;exact h.symm
     ·split at h
      ·rename_i cs _
       cases hb:tF cs with
       | none=>rw[hb] at h;cases h
       | some bs=>rw[hb] at h;injection h with h;injection h with _ h;exact h.symm
      ·cases h
     ·cases h
    case sub size x l hh mx =>
     simp only[pop] at h
     cases mx with
     | some mx=>exact absurd rfl hq
     |
      none =>
      cases hs:CA size (ev (st i).1 x) (l.map (ev (st i).1)) (hh.map (ev (st i).1)) ((none:Option Operand).map (ev (st i).1)) (st i).2 with
      | none=>rw[hs] at h;cases h
      |
       some q =>
       obtain⟨u,H1⟩:=q
       rw[hs] at h
       injection h with h;injection h with _ h
       subst h
       unfold CA at hs
       simp only[Option.map_none,Option.isSome_none,Bool.false_eq_true,false_and,if_false] at hs
       repeat' (split at hs)
       all_goals first
        | (cases hs;done)
        | (injection hs with hs;injection hs with _ hs;exact hs.symm)
    case call f args=>cases h
   rw[this]
 ·rw[DY.op] at h1
  have hq:pi.quiet=true:=by
   rw[XE.quiet]
   rcases sQ h1 with⟨g,as,rfl⟩ | ⟨g,as,rfl⟩
   ·simp only[fU] at hw ⊢
    split at hw
    ·exact absurd rfl hw
    ·rename_i h;rw[if_neg h]
   ·rfl
  rw[hq] at h2
  exact(T.ext _ _ _ _ _ _ h2).low b hb hb
end
end Go.PM
namespace Go.PM
theorem D7 {H H':aE} {lo b o:Nat} {new:List Value} (h:H.write lo b o new=some H') {b':Nat} (hb:b'≠b):H'[b']? = H[b']? := by
 obtain⟨cs,e,p,h1,h2,h3,h4,rfl⟩:=Bs h
 exact List.getElem?_set_ne (Ne.symm hb)
theorem JC {H H':aE} {lo size bytes add:Nat} {x v:Value} {new:List Value} (h:eO lo size bytes x add new H=some (v,H')) {b':Nat} (hb:iX x≠some b') (bF:b'<H.length):H'[b']? = H[b']? := by
 unfold eO at h
 split at h
 case isFalse=>cases h
 split at h
 ·split at h
  ·split at h
   ·cases h;rfl
   ·split at h
    ·cases h;exact List.getElem?_append_left bF
    ·cases h
  ·cases h
 ·rename_i b o n c
  have fC:b'≠b:=fun e=>hb (by rw[e];rfl)
  split at h
  ·split at h
   ·split at h
    ·split at h
     ·cases h;rfl
     ·cases hw:aE.write H lo b (o+n*size) new with
      | none=>rw[hw] at h;cases h
      | some H1=>rw[hw] at h;cases h;exact D7 hw fC
    ·split at h
     ·split at h
      ·split at h
       ·cases h
        rw[List.getElem?_append_left (by simpa using bF)]
        exact List.getElem?_set_ne (Ne.symm fC)
       ·cases h
      ·cases h;exact List.getElem?_append_left bF
     ·cases h
   ·cases h
  ·cases h
 ·cases h
theorem afT {E:AX} {lo:Nat} {p:nK} {ρ:Env} {H H':aE} {v:Value} {x:Operand} (h:pop lo p ρ H=some (.val v H')) (hw:fU E p = .write) (ht:EC p=some x) {b':Nat} (hb:iX (ev ρ x)≠some b') (bF:b'<H.length):H'[b']? = H[b']? := by
 cases p<;>first | (cases ht;done) | (cases hw;done) | skip
 case sub size y l hh mx=>cases mx<;>cases hw
 case store size q y =>
  cases ht
  simp only[pop] at h
  split at h
  ·rename_i b o he
   rw[he] at hb
   have fC:b'≠b:=fun e=>hb (by rw[e];rfl)
   split at h
   ·cases hw:H.write lo b o (aO (ev ρ y)) with
    | none=>rw[hw] at h;cases h
    | some H1=>rw[hw] at h;cases h;exact D7 hw fC
   ·cases h
  ·cases h
 case app size bytes y z =>
  cases ht
  simp only[pop] at h
  split at h
  ·rename_i n _
   split at h
   ·rename_i new _
    cases ha:eO lo size bytes (ev ρ x) n new H with
    | none=>rw[ha] at h;cases h
    |
     some q =>
     obtain⟨u,H1⟩:=q
     rw[ha] at h;cases h;exact JC ha hb bF
   ·cases h
  ·cases h
 case appz z bytes y n =>
  cases ht
  simp only[pop] at h
  split at h
  ·rename_i k _
   split at h
   ·cases ha:eO lo z.length bytes (ev ρ x) k.toNat (cZ k.toNat z) H with
    | none=>rw[ha] at h;cases h
    |
     some q =>
     obtain⟨u,H1⟩:=q
     rw[ha] at h;cases h;exact JC ha hb bF
   ·cases h
  ·cases h
 case copy size y z =>
  cases ht
  simp only[pop] at h
  split at h
  ·cases h;rfl
  ·rename_i b o d _ s he _
   rw[he] at hb
   have fC:b'≠b:=fun e=>hb (by rw[e];rfl)
   split at h
   ·rename_i new _
    cases hw:H.write lo b o new with
    | none=>rw[hw] at h;cases h
    | some H1=>rw[hw] at h;cases h;exact D7 hw fC
   ·cases h
  ·cases h
 case clear z y =>
  cases ht
  simp only[pop] at h
  split at h
  ·cases h;rfl
  ·rename_i b o n _ he
   rw[he] at hb
   have fC:b'≠b:=fun e=>hb (by rw[e];rfl)
   split at h
   ·cases h;rfl
   ·cases hw:H.write lo b o (cZ n z) with
    | none=>rw[hw] at h;cases h
    | some H1=>rw[hw] at h;cases h;exact D7 hw fC
  ·cases h
theorem Qi {H:aE} {b o n:Nat} {cs:List Value} (h:H.read b o n=some cs):b<H.length:=by
 unfold aE.read at h
 split at h
 ·rename_i hb;exact(List.getElem?_eq_some_iff.1 hb).1
 ·cases h
theorem FL {H H2:aE} {b o n:Nat} (h:H2[b]? = H[b]?):H2.read b o n=H.read b o n:=by
 unfold aE.read
 rw[h]
theorem UE {agg:Bool} {size:Nat} {x v:Value} {H H2:aE} (h:nS agg size x H=some v) (hb:∀b,iX x=some b→b<H.length→H2[b]? = H[b]?):nS agg size x H2=some v:=by
 unfold nS at h ⊢
 split at h
 ·rename_i b o
  have bF:b<H.length:=by
   split at h
   ·cases hr:H.read b o size with
    | none=>rw[hr] at h;cases h
    | some cs=>exact Qi hr
   ·cases hr:H.read b o 1 with
    | none=>rw[hr] at h;cases h
    | some cs=>exact Qi hr
  have e:=hb b rfl bF
  simp only[FL e]
  exact h
 ·cases h
theorem So {E:AX} {lo:Nat} {p:nK} {ρ:Env} {H H' H2:aE} {v:Value} (h:pop lo p ρ H=some (.val v H')) (hc:fU E p = .look) (hb:∀x,EC p=some x→∀b,iX (ev ρ x)=some b→b<H.length→H2[b]? = H[b]?) :
  H'=H∧pop lo p ρ H2=some (.val v H2):=by
 cases p<;>first | (cases hc;done) | skip
 case call f args=>simp only[fU] at hc;split at hc<;>cases hc
 case load agg size q =>
  simp only[pop] at h ⊢
  cases hl:nS agg size (ev ρ q) H with
  | none=>rw[hl] at h;cases h
  |
   some u =>
   rw[hl] at h
   cases h
   refine⟨rfl,?_⟩
   rw[UE hl (hb q rfl)]
   rfl
 case b2s x =>
  simp only[pop] at h ⊢
  split at h
  ·cases h;exact⟨rfl,rfl⟩
  ·rename_i b o n _ he
   split at h
   ·rename_i cs hr
    cases hbs:tF cs with
    | none=>rw[hbs] at h;cases h
    |
     some bs =>
     rw[hbs] at h
     cases h
     refine⟨rfl,?_⟩
     have e:=hb x rfl b (by rw[he];rfl) (Qi hr)
     rw[FL e,hr]
     simp only[hbs]
     rfl
   ·cases h
  ·cases h
 case sub size x l hh mx =>
  cases mx with
  | some mx=>cases hc
  |
   none =>
   simp only[pop] at h ⊢
   cases hs:CA size (ev ρ x) (l.map (ev ρ)) (hh.map (ev ρ)) ((none:Option Operand).map (ev ρ)) H with
   | none=>rw[hs] at h;cases h
   |
    some q =>
    obtain⟨u,H1⟩:=q
    rw[hs] at h
    cases h
    have uC:=hb x rfl
    generalize ev ρ x=xv at hs uC
    have key:H1=H∧CA size xv (l.map (ev ρ)) (hh.map (ev ρ)) ((none:Option Operand).map (ev ρ)) H2=some (u,H2):=by
     unfold CA at hs ⊢
     simp only[Option.map_none,Option.isSome_none,Bool.false_eq_true,false_and,if_false] at hs ⊢
     split at hs
     ·repeat' (split at hs)
      all_goals first | (cases hs;done) | skip
      cases hs
      simp_all
     ·rename_i b o n c
      split at hs
      ·rename_i cs e p kC
       have e1:=uC b rfl (List.getElem?_eq_some_iff.1 kC).1
       rw[e1,kC]
       simp only
       repeat' (split at hs)
       all_goals first | (cases hs;done) | skip
       cases hs
       simp_all
      ·cases hs
     ·cases hs
    rw[key.2]
    exact⟨key.1,rfl⟩
section
variable {P:Program} {E:AX} {n:Nat} {ops:Array Oper} {sY:List PI} {ps:List nK} {M:List Nat} {call:gG} {lo:Nat} {st:Nat→Env×aE}
theorem Text.aaC (T:Text P E n ops sY ps M call lo st) {i:Nat}:∀ {j:Nat},i≤j→j≤ops.size→Ext lo (st i).2 (st j).2:=by
 intro j PJ
 induction j with
 | zero =>
    intro _;have:i=0:=by omega
    subst this;exact Ext.refl _ _
 |
  succ j ih =>
  intro hj
  rcases Nat.lt_or_ge i (j+1) with h | h
  ·obtain⟨o,p,pi,_,_,_,_,_,v,hv,_⟩:=T.at (i:=j) (by omega)
   exact(ih (by omega) (by omega)).trans (LD T.ext hv)
  ·have:i=j+1:=by omega
   subst this;exact Ext.refl _ _
theorem Text.aaJ (T:Text P E n ops sY ps M call lo st) {i:Nat}:∀ {j:Nat},i≤j→j≤ops.size→∀b,b<(st i).2.length →
  (∀k,i≤k→k<j→∀p pi,ps[k]? = some p→sY[k]? = some pi→fU E p = .write→zP pi.g (st k).1=some true→∃x,EC p=some x∧iX (ev (st k).1 x)≠some b) →
  (st j).2[b]? = (st i).2[b]? := by
 intro j PJ
 induction j with
 | zero =>
      intro _ b _ _;have:i=0:=by omega
      subst this;rfl
 |
  succ j ih =>
  intro hj b hb hk
  rcases Nat.lt_or_ge i (j+1) with h | h
  ·have bF:b<(st j).2.length:=Nat.lt_of_lt_of_le hb (T.len (by omega) (by omega))
   have h1:(st (j+1)).2[b]? = (st j).2[b]? := by
    obtain⟨o,p,pi,_,hp,XR,DY,_,v,hv,_⟩:=T.at (i:=j) (by omega)
    by_cases hw:fU E p = .write
    ·rcases tI hv with⟨_,_,h⟩ | ⟨hwt,_,h | ⟨f,args,h1,h2⟩⟩
     ·rw[h]
     ·rw[DY.op] at h
      obtain⟨x,hx,fC⟩:=hk j (by omega) (by omega) p pi hp XR hw hwt
      exact afT h hw hx fC bF
     ·rw[DY.op] at h1
      obtain⟨x,hx,fC⟩:=hk j (by omega) (by omega) p pi hp XR hw hwt
      rcases sQ h1 with⟨g,as,rfl⟩ | ⟨g,as,rfl⟩<;>cases hx
    ·exact T.aqY (by omega) hp hw b bF
   rw[h1]
   exact ih (by omega) (by omega) b hb fun k hk1 hk2=>hk k hk1 (by omega)
  ·have:i=j+1:=by omega
   subst this;rfl
theorem Text.same (T:Text P E n ops sY ps M call lo st) {i j:Nat} (PJ:i≤j) (hj:j≤ops.size) (hk:∀k,i≤k→k<j→∀p,ps[k]? = some p→fU E p ≠ .write):∀b,b<(st i).2.length→(st j).2[b]? = (st i).2[b]? :=
 fun b hb=>T.aaJ PJ hj b hb fun k h1 h2 p _ hp _ hw _=>absurd hw (hk k h1 h2 p hp)
theorem Text.PQ (T:Text P E n ops sY ps M call lo st) {i t:Nat}:∀ {j:Nat},i≤j→j≤ops.size→(∀k o,i≤k→k<j→ops[k]? = some o→o.dst≠some t)→(st j).1 t=(st i).1 t:=by
 intro j PJ
 induction j with
 | zero =>
      intro _ _;have:i=0:=by omega
      subst this;rfl
 |
  succ j ih =>
  intro hj hk
  rcases Nat.lt_or_ge i (j+1) with h | h
  ·obtain⟨o,p,pi,ho,hp,XR,DY,_,v,hv,he⟩:=T.at (i:=j) (by omega)
   rw[he]
   have fC:=hk j o (by omega) (by omega) ho
   have h1:put (st j).1 o.dst v t=(st j).1 t:=by
    cases hd:o.dst with
    | none=>rfl
    |
     some d =>
     rw[hd] at fC
     show (if t=d then v else _)=_
     rw[if_neg (fun e=>fC (by rw[e]))]
   rw[h1]
   exact ih (by omega) (by omega) fun k o hk1 hk2=>hk k o hk1 (by omega)
  ·have:i=j+1:=by omega
   subst this;rfl
end
end Go.PM
namespace Go.PM
theorem xK {M:List Nat} {i j:Nat} (h:i<j):ahead M i j=(M.getD j 0).testBit i:=by
 unfold ahead
 have e1:Nat.max i j=j:=Nat.max_eq_right (by omega)
 have e2:Nat.min i j=i:=Nat.min_eq_left (by omega)
 rw[e1,e2]
theorem aaF {M:List Nat} {i j:Nat} (h:j<i):ahead M i j=(M.getD i 0).testBit j:=by
 unfold ahead
 have e1:Nat.max i j=i:=Nat.max_eq_left (by omega)
 have e2:Nat.min i j=j:=Nat.min_eq_right (by omega)
 rw[e1,e2]
theorem Ru {a:Act} {d t:Nat} {v:Value} (hd:d<a.tmps.size):(a.put (some d) v).tmps.getD t undef=if t=d then v else a.tmps.getD t undef:=by
 show (a.tmps.setIfInBounds d v).getD t undef=_
 rcases Nat.lt_or_ge t a.tmps.size with h | h
 ·by_cases e:t=d
  ·subst e;simp[h]
  ·simp[h,e,Ne.symm e]
 ·have:t≠d:=by omega
  simp[h,this]
theorem Hn (a:Act) (d:Option Nat) (v:Value):(a.put d v).tmps.size=a.tmps.size:=by
 cases d<;>simp[Act.put]
theorem GU (a:Act) (d:Option Nat) (v:Value):(a.put d v).defers=a.defers:=by
 cases d<;>rfl
section
variable {P:Program} {E:AX} {n:Nat} {ops:Array Oper} {sY:List PI} {ps:List nK} {M:List Nat} {call:gG} {lo L0:Nat} {st:Nat→Env×aE}
structure rK (E:AX) (n:Nat) (ops:Array Oper) (ps:List nK) (lo L0:Nat) (st:Nat→Env×aE) (m0:dO) (w0:World) (ds:List Deferred) (S:Nat→Prop) (m:dO) (c:Nat) (a:Act) (w:World):Prop where
 Gg:a.tmps.size=n
 defs:a.defers=ds
 back:∀i o,ops.toList[i]? = some o→S i→∀e∈o.after.toList,Region.binds .any e=true→S e.on
 tm:∀t j,j≤ops.size→(∀i o,ops.toList[i]? = some o→o.dst=some t→(S i↔i<j))→RV m ((st j).1 t) (a.tmps.getD t undef)
 OM:c≤ops.size
 before:∀i p,i<c→ps[i]? = some p→fU E p = .write→S i
 atc:c<ops.size→¬S c∧∃p,ps[c]? = some p∧fU E p = .write
 rel:Rel m L0 (st c).2 w
 tr:Trans lo m0 (st 0).2 w0 m (st c).2 w
 YV:∀b l,m b=some l→m0 b≠none∨∃i,S i∧i<ops.size∧(st i).2.length≤b∧b<(st (i+1)).2.length
theorem Text.anc (T:Text P E n ops sY ps M call lo st) {S:Nat→Prop} (hS:∀i o,ops.toList[i]? = some o→S i→∀e∈o.after.toList,Region.binds .any e=true→S e.on) {k:Nat} {o:Oper} (ho:ops.toList[k]? = some o)
  (hk:∀e∈o.after.toList,Region.binds .any e=true→S e.on) {i:Nat} (hi:(M.getD k 0).testBit i=true):S i :=
 UZ (fun i o hio=>by
   obtain⟨p,pi,_,_,_,hd,_⟩:=T.ok.each i o hio
   exact(hd rfl).back) (fun i o hio=>by
   obtain⟨p,pi,_,_,_,hd,_⟩:=T.ok.each i o hio
   exact(hd rfl).mask) hS k o ho hk i hi
theorem Text.V4 (T:Text P E n ops sY ps M call lo st) {i:Nat} {p:nK} (hi:i<ops.size) (hp:ps[i]? = some p) (h:fU E p = .pure∨fU E p = .look):(st (i+1)).2=(st i).2:=by
 obtain⟨o,p',pi,_,Cu,_,DY,XE,v,hv,_⟩:=T.at hi
 rw[hp] at Cu
 cases Cu
 rcases tI hv with⟨_,_,h'⟩ | ⟨_,_,h' | ⟨f,args,h1,h2⟩⟩
 ·exact h'
 ·rw[DY.op] at h'
  rcases h with h | h
  ·have:tQ p=true:=by
    cases p<;>first | rfl | (cases h;done) | skip
    case sub s x l hh mx=>cases mx<;>cases h
    case call f as=>simp only[fU] at h;split at h<;>cases h
   rw[yH this] at h'
   exact(C7 h').2
  ·exact(So h' h (fun _ _ _ _ _=>rfl)).1
 ·exfalso
  rw[DY.op] at h1
  rcases sQ h1 with⟨g,as,rfl⟩ | ⟨g,as,rfl⟩
  ·simp only[fU] at h
   split at h<;>rcases h with h | h<;>cases h
  ·rcases h with h | h<;>cases h
theorem Xv {op:Op} {p:nK} {x:Operand} (h:pK P op=some p) (ht:EC p=some x):x∈op.operands:=by
 unfold pK at h
 split at h
 case isFalse=>cases h
 cases op with
 |
  load t q =>
  dsimp only at h
  cases hi:mA P t with
  | none=>rw[hi] at h;cases h
  | some u=>rw[hi] at h;cases h;cases ht;simp[Op.operands]
 |
  store t q v =>
  dsimp only at h
  cases hi:P.info? t with
  | none=>rw[hi] at h;cases h
  | some u=>rw[hi] at h;cases h;cases ht;simp[Op.operands]
 |
  slice t y l hh mx =>
  dsimp only at h
  split at h
  ·split at h
   ·cases h;cases ht
   ·cases h
  ·rename_i e _
   cases hi:mA P e with
   | none=>rw[hi] at h;cases h
   | some u=>rw[hi] at h;cases h;cases ht;simp[Op.operands]
  ·cases h
 |
  convert s d y =>
  dsimp only at h
  repeat' (split at h)
  all_goals first
   | (cases h;done)
   | (cases h;cases ht;done)
   | (cases h;cases ht;simp[Op.operands])
 |
  call c =>
  obtain⟨callee,args,ts⟩:=c
  cases callee with
  |
   builtin b =>
   simp only[oN] at h
   repeat' (split at h)
   all_goals first
    | (cases h;done)
    | (cases h;cases ht;done)
    | skip
   all_goals
    cases h
    cases ht
    have hm:x∈args.toList:=by simp_all
    simpa[Op.operands,Call.operands] using hm
  |
   value f =>
   cases f with
   | tmp g'=>cases h;cases ht
   | func g'=>cases h;cases ht
   | _=>cases h
  | invoke r s=>cases h
 |
  _ =>
  exfalso
  dsimp only at h
  try unfold BO at h
  repeat' (split at h)
  all_goals first
   | contradiction
   | (cases h;done)
   | (cases h;cases ht;done)
   | exact map_none h (by intro y h;cases h;cases ht)
end
end Go.PM
namespace Go.PM
theorem Fs (p:Nat→Prop):∀(d c N:Nat),N-c=d→c≤N→∃c',c≤c'∧c'≤N∧(∀i,c≤i→i<c'→¬p i)∧(c'<N→p c')
 | 0,c,N,hd,hc=>⟨c,Nat.le_refl _,hc,fun i h1 h2=>by omega,fun h=>by omega⟩
 |
  d+1,c,N,hd,hc=>by
  by_cases hp:p c
  ·exact⟨c,Nat.le_refl _,hc,fun i h1 h2=>by omega,fun _=>hp⟩
  ·obtain⟨c',h1,h2,h3,h4⟩:=Fs p d (c+1) N (by omega) (by omega)
   refine⟨c',by omega,h2,fun i hi1 Ke => ?_,h4⟩
   rcases Nat.lt_or_ge c i with h | h
   ·exact h3 i h Ke
   ·have:i=c:=by omega
    subst this;exact hp
theorem aaH {m:dO} {v r:Value} {b:Nat} (h:RV m v r) (hb:iX v=some b):∃l,m b=some l:=by
 cases h<;>first | (cases hb;done) | (cases hb;exact⟨_,by assumption⟩)
section
variable {P:Program} {E:AX} {n:Nat} {ops:Array Oper} {sY:List PI} {ps:List nK} {M:List Nat} {call:gG} {lo L0:Nat} {st:Nat→Env×aE}
 {m0:dO} {w0:World} {ds:List Deferred} {S:Nat→Prop} {m:dO} {c:Nat} {a:Act} {w:World} {k:Nat} {o:Oper} {p:nK} {pi:PI}
structure At (P:Program) (E:AX) (n:Nat) (ops:Array Oper) (sY:List PI) (ps:List nK) (M:List Nat) (S:Nat→Prop) (k:Nat) (o:Oper) (p:nK) (pi:PI):Prop where
 lt:k<ops.size
 eo:ops[k]? = some o
 ep:ps[k]? = some p
 epi:sY[k]? = some pi
 ok:aeH P E n ops.toList k o p pi
 dr:Pl E ops.toList ps M k o p pi
 ayW:¬S k
 anc:∀i,(M.getD k 0).testBit i=true→S i
 desc:∀i,i<ops.size→S i→(M.getD i 0).testBit k=true→False
theorem At.ah (A:At P E n ops sY ps M S k o p pi) {i:Nat} (hi:i<ops.size) (h:i=k∨ahead M k i=true):S i↔i<k:=by
 rcases Nat.lt_trichotomy i k with h1 | h1 | h1
 ·refine⟨fun _=>h1,fun _ => ?_⟩
  rcases h with h | h
  ·omega
  ·rw[aaF h1] at h;exact A.anc i h
 ·subst h1
  exact⟨fun h=>absurd h A.ayW,fun h=>by omega⟩
 ·refine⟨fun hs => ?_,fun h=>by omega⟩
  rcases h with h | h
  ·omega
  ·rw[xK h1] at h;exact absurd h (fun h=>A.desc i hi hs h)
theorem FK {i:Nat} {oi:Oper} (h:ops.toList[i]? = some oi):i<ops.size:=by
 have:=(List.getElem?_eq_some_iff.1 h).1
 simpa using this
theorem At.reads (A:At P E n ops sY ps M S k o p pi) (I:rK E n ops ps lo L0 st m0 w0 ds S m c a w):∀t∈wD ops.toList o,RV m ((st k).1 t) (a.tmps.getD t undef):=by
 intro t ht
 refine I.tm t k (Nat.le_of_lt A.lt) fun i oi hi hd => ?_
 exact A.ah (FK hi) (A.dr.OH t (List.mem_append_right _ ht) i oi hi hd)
theorem At.operand (A:At P E n ops sY ps M S k o p pi) (I:rK E n ops ps lo L0 st m0 w0 ds S m c a w) {x:Operand} (hx:x∈o.op.operands):RV m (ev (st k).1 x) (a.eval x) :=
 UX (KT A.ok.YI x hx) fun t ht=>A.reads I t (EA (ht▸hx))
theorem At.pair (T:Text P E n ops sY ps M call lo st) {i j:Nat} {p q:nK} (PJ:i<j) (hj:j<ops.size) (hp:ps[i]? = some p) (hq:ps[j]? = some q):∃qi,sY[j]? = some qi∧D8 E ops.toList M i j p q qi.cf:=by
 obtain⟨o,q',qi,_,Nz,hqi,_,hd,_⟩:=T.at hj
 rw[hq] at Nz
 cases Nz
 exact⟨qi,hqi,hd.atX i PJ p hp⟩
theorem rK.late (T:Text P E n ops sY ps M call lo st) (I:rK E n ops ps lo L0 st m0 w0 ds S m c a w) {i:Nat} {q:nK} (hi:c<i) (hn:i<ops.size) (hS:S i) (hq:ps[i]? = some q):fU E q = .pure∨fU E q = .look:=by
 obtain⟨hcS,pc,hpc,TS⟩:=I.atc (by omega)
 obtain⟨qi,_,jF⟩:=At.pair T hi hn hpc hq
 unfold D8 at jF
 rw[TS] at jF
 obtain⟨oi,_,_,hoi,_⟩:=T.at hn
 have Rq:ops.toList[i]? = some oi:=by simpa using hoi
 have fin:ahead M c i=true→False:=fun h=>by
  rw[xK hi] at h
  exact hcS (T.anc I.back Rq (I.back i oi Rq hS) h)
 cases oO:fU E q with
 | pure=>exact .inl rfl
 | look=>exact .inr rfl
 | quiet=>rw[oO] at jF;exact absurd jF fin
 | write=>rw[oO] at jF;exact absurd jF fin
theorem rK.OH (T:Text P E n ops sY ps M call lo st) (I:rK E n ops ps lo L0 st m0 w0 ds S m c a w) (A:At P E n ops sY ps M S k o p pi) {m':dO} {v rv:Value} (hm:∀b l,m b=some l→m' b=some l) (hv:RV m' v rv)
  (he:(st (k+1)).1=put (st k).1 o.dst v):∀t j,j≤ops.size→(∀i o,ops.toList[i]? = some o→o.dst=some t→((i=k∨S i)↔i<j))→RV m' ((st j).1 t) ((a.put o.dst rv).tmps.getD t undef):=by
 intro t j hj hw
 have DY:ops.toList[k]? = some o:=by simpa using A.eo
 cases hd:o.dst with
 |
  none =>
  show RV m' _ (a.tmps.getD t undef)
  refine(I.tm t j hj fun i oi hi ZX => ?_).mono hm
  have fC:i≠k:=fun e=>by subst e;rw[DY] at hi;cases hi;rw[hd] at ZX;cases ZX
  rw[←hw i oi hi ZX]
  simp[fC]
 |
  some d =>
  rw[Ru (by rw[I.Gg];exact A.ok.bound d hd)]
  by_cases htd:t=d
  ·subst htd
   rw[if_pos rfl]
   have hkj:k<j:=(hw k o DY hd).1 (.inl rfl)
   have e1:(st j).1 t=(st (k+1)).1 t:=by
    refine T.PQ hkj hj fun i oi hi1 Ke hoi ZX => ?_
    have Rq:ops.toList[i]? = some oi:=by simpa using hoi
    have hS:=(hw i oi Rq ZX).2 Ke
    have hik:i≠k:=by omega
    have:=(A.ah (FK Rq) (A.dr.OH t (List.mem_append_left _ (by rw[hd];simp)) i oi Rq ZX)).1 (hS.resolve_left hik)
    omega
   rw[e1,he,hd]
   show RV m' (if t=t then v else _) rv
   rw[if_pos rfl]
   exact hv
  ·rw[if_neg htd]
   refine(I.tm t j hj fun i oi hi ZX => ?_).mono hm
   have fC:i≠k:=fun e=>by subst e;rw[DY] at hi;cases hi;rw[hd] at ZX;cases ZX;exact htd rfl
   rw[←hw i oi hi ZX]
   simp[fC]
theorem rK.acA (I:rK E n ops ps lo L0 st m0 w0 ds S m c a w) (A:At P E n ops sY ps M S k o p pi) (hr:∀e∈o.after.toList,Region.binds .any e=true→S e.on) :
  ∀i oi,ops.toList[i]? = some oi→(i=k∨S i)→∀e∈oi.after.toList,Region.binds .any e=true→(e.on=k∨S e.on):=by
 intro i oi hi hS e he hb
 rcases hS with rfl | hS
 ·have:ops.toList[i]? = some o:=by simpa using A.eo
  rw[this] at hi
  cases hi
  exact .inr (hr e he hb)
 ·exact .inr (I.back i oi hi hS e he hb)
theorem GN (T:Text P E n ops sY ps M call lo st) {i j:Nat} {x:Operand} (PJ:i≤j) (hj:j≤ops.size) (h:D2 ops.toList i j x=true):ev (st j).1 x=ev (st i).1 x:=by
 cases x with
 |
  tmp t =>
  refine T.PQ PJ hj fun q oq h1 h2 hoq hd => ?_
  have lF:=List.all_eq_true.1 h oq (by
   have axE:ops.toList[q]? = some oq:=by simpa using hoq
   rw[List.mem_iff_getElem?]
   refine⟨q-i,?_⟩
   rw[List.getElem?_drop,List.getElem?_take,show i+(q-i)=q by omega,if_pos h2,axE])
  simp[hd] at lF
 | const v=>rfl
 | global g=>rfl
 | func f=>rfl
theorem rK.look (T:Text P E n ops sY ps M call lo st) (I:rK E n ops ps lo L0 st m0 w0 ds S m c a w) (A:At P E n ops sY ps M S k o p pi) (BD:∀b,(st 0).2.length≤b→b<(st ops.size).2.length→m0 b=none)
  (oO:fU E p = .pure∨fU E p = .look) {v:Value} (hv:yR call lo pi (st k).1 (st k).2=some (v,(st (k+1)).2)):yR call lo pi (st k).1 (st c).2=some (v,(st c).2):=by
 rcases tI hv with⟨hw,rfl,_⟩ | ⟨hw,Qv,hp | ⟨f,args,hp,_⟩⟩
 ·unfold yR
  rw[hw]
 ·unfold yR
  rw[hw]
  simp only[Qv,if_true]
  have key:pop lo pi.op (st k).1 (st c).2=some (.val v (st c).2):=by
   rw[A.ok.op] at hp ⊢
   rcases oO with oO | oO
   ·have hlp:tQ p=true:=by
     cases p<;>first | rfl | (cases oO;done) | skip
     case sub s x l hh mx=>cases mx<;>cases oO
     case call f as=>simp only[fU] at oO;split at oO<;>cases oO
    rw[yH hlp] at hp ⊢
    rw[(C7 hp).1]
    rfl
   ·refine(So hp oO fun x hx b hb bF => ?_).2
    rcases Nat.lt_or_ge c k with hck | hck
    ·obtain⟨hcS,pc,hpc,TS⟩:=I.atc (Nat.lt_trans hck A.lt)
     have Lv:b<(st c).2.length:=by
      rcases Nat.lt_or_ge b (st c).2.length with h | h
      ·exact h
      ·exfalso
       obtain⟨l,hl⟩:=aaH (A.operand I (Xv A.ok.YI hx)) hb
       have h0:=T.len (i:=0) (j:=c) (Nat.zero_le _) I.OM
       have h1:=T.len (i:=k) (j:=ops.size) (Nat.le_of_lt A.lt) (Nat.le_refl _)
       rcases I.YV b l hl with h2 | ⟨i,hiS,dB,hi1,Ke⟩
       ·exact h2 (BD b (by omega) (by omega))
       ·rcases Nat.lt_trichotomy i c with h3 | h3 | h3
        ·have:=T.len (i:=i+1) (j:=c) h3 I.OM
         omega
        ·subst h3;exact hcS hiS
        ·obtain⟨oi,qi,pii,_,hqi,_⟩:=T.at dB
         have:=I.late T h3 dB hiS hqi
         rw[T.V4 dB hqi this] at Ke
         omega
     refine(T.aaJ (Nat.le_of_lt hck) (Nat.le_of_lt A.lt) b Lv fun j hj1 Y4 q qi hq hqi hqw ajE => ?_).symm
     obtain⟨pi',aqT,jF⟩:=At.pair T Y4 A.lt hq A.ep
     rw[A.epi] at aqT
     cases aqT
     unfold D8 at jF
     rw[hqw,oO] at jF
     rcases jF with h | ⟨xa,xb,ha,uC,hun,Lc⟩
     ·exfalso
      rw[xK Y4] at h
      have hjS:=A.anc j h
      rcases Nat.lt_or_ge c j with h3 | h3
      ·rcases I.late T h3 (Nat.lt_trans Y4 A.lt) hjS hq with h4 | h4<;>(rw[hqw] at h4;cases h4)
      ·have:j=c:=by omega
       subst this;exact hcS hjS
     ·rw[hx] at uC
      cases uC
      refine⟨xa,ha,fun e => ?_⟩
      have hk:=List.all_eq_true.1 Qv _ Lc
      unfold AR at hk
      rw[GN T (Nat.le_of_lt Y4) (Nat.le_of_lt A.lt) hun,e,hb] at hk
      simp at hk
    ·refine T.aaJ hck I.OM b bF fun j hj1 Y4 q qi hq hqi hqw ajE => ?_
     have XU:k<j:=by
      rcases Nat.lt_or_ge k j with h | h
      ·exact h
      ·have:j=k:=by omega
       subst this
       rw[A.ep] at hq
       cases hq
       rw[hqw] at oO
       cases oO
     have hjn:j<ops.size:=Nat.lt_of_lt_of_le Y4 I.OM
     obtain⟨oj,q',qi',hoj,Nz,adB,aDu,_,vj,hvj,_⟩:=T.at hjn
     rw[hq] at Nz
     cases Nz
     rw[hqi] at adB
     cases adB
     obtain⟨qi',adB,jF⟩:=At.pair T XU hjn A.ep hq
     rw[hqi] at adB
     cases adB
     unfold D8 at jF
     rw[hqw,oO] at jF
     rcases jF with h | ⟨xa,xb,ha,uC,hun,Lc⟩
     ·exfalso
      rw[xK XU] at h
      exact A.desc j hjn (I.before j q Y4 hq hqw) h
     ·rw[hx] at ha
      cases ha
      refine⟨xb,uC,fun e => ?_⟩
      have azJ:qi.cf.all (AR (st j).1)=true:=by
       rcases tI hvj with⟨h,_⟩ | ⟨_,h,_⟩
       ·rw[ajE] at h;cases h
       ·exact h
      have hk:=List.all_eq_true.1 azJ _ Lc
      unfold AR at hk
      rw[GN T (Nat.le_of_lt XU) (Nat.le_of_lt hjn) hun,e,hb] at hk
      simp at hk
  rw[key]
 ·exfalso
  rw[A.ok.op] at hp
  rcases sQ hp with⟨g,as,rfl⟩ | ⟨g,as,rfl⟩
  ·simp only[fU] at oO
   split at oO<;>rcases oO with h | h<;>cases h
  ·rcases oO with h | h<;>cases h
end
end Go.PM
namespace Go.PM
section
variable {P:Program} {E:AX} {n:Nat} {ops:Array Oper} {sY:List PI} {ps:List nK} {M:List Nat} {call:gG} {lo L0:Nat} {st:Nat→Env×aE}
 {m0:dO} {w0:World} {ds:List Deferred}
theorem F0 {H:aE} {b:Nat} (h:H.length≤b):¬Live H b:=fun hl=>by have:=hl.lt;omega
theorem abF {S:Nat→Prop} {m:dO} {c:Nat} {a:Act} {w:World} {k:Nat} {o:Oper} (T:Text P E n ops sY ps M call lo st) (nP:wQ P L0 call) (dK:L0≤lo) (Bi:L0≤(st 0).2.length)
  (BD:∀b,(st 0).2.length≤b→b<(st ops.size).2.length→m0 b=none) (I:rK E n ops ps lo L0 st m0 w0 ds S m c a w) (ho:ops[k]? = some o) (hkS:¬S k)
  (hr:∀e∈o.after.toList,Region.binds .any e=true→S e.on) {K:Act→World→Prop} {Q:Exit→Act→World→Prop}
  (hK:∀m' c' a' w',rK E n ops ps lo L0 st m0 w0 ds (fun i=>i=k∨S i) m' c' a' w'→K a' w'):wpOp P ops Q k K a w:=by
 have bF:k<ops.size:=(Array.getElem?_eq_some_iff.1 ho).1
 obtain⟨o',p,pi,ho',hp,XR,DY,XE,v,hv,he⟩:=T.at bF
 rw[ho] at ho'
 cases ho'
 have ho2:ops.toList[k]? = some o:=by simpa using ho
 have A:At P E n ops sY ps M S k o p pi:=⟨bF,ho,hp,XR,DY,XE,hkS,fun i hi=>T.anc I.back ho2 hr hi,fun i hi hS hb=>by
  have hio:ops.toList[i]? = some ops[i]:=by simp[hi]
  exact hkS (T.anc I.back hio (I.back i _ hio hS) hb)⟩
 have U9:=A.reads I
 have ajA:=T.len (i:=0) (j:=c) (Nat.zero_le _) I.OM
 have aqG:=T.len (i:=c) (j:=ops.size) I.OM (Nat.le_refl _)
 have asT:=T.len (i:=0) (j:=k) (Nat.zero_le _) (Nat.le_of_lt bF)
 have axO:=T.len (i:=k+1) (j:=ops.size) bF (Nat.le_refl _)
 have awF:=T.asB bF
 have hfk:∀b,(st k).2.length≤b→b<(st (k+1)).2.length→m b=none:=by
  intro b h1 h2
  cases hm:m b with
  | none=>rfl
  |
   some l =>
   exfalso
   rcases I.YV b l hm with h3 | ⟨i,hiS,dB,hi1,Ke⟩
   ·exact h3 (BD b (by omega) (by omega))
   ·rcases Nat.lt_trichotomy i k with h3 | h3 | h3
    ·have:=T.len (i:=i+1) (j:=k) h3 (Nat.le_of_lt bF)
     omega
    ·subst h3;exact hkS hiS
    ·have:=T.len (i:=k+1) (j:=i) h3 (Nat.le_of_lt dB)
     omega
 have Rh:(fU E p = .pure∨fU E p = .look)→wpOp P ops Q k K a w:=by
  intro oO
  have hq:pi.quiet=false:=by
   rw[XE.quiet]
   rcases oO with h | h<;>rw[h]
  have hw:fU E p ≠ .write:=by rcases oO with h | h<;>(rw[h];exact fun h=>by cases h)
  refine Qf ho DY (fun h=>by rw[hq] at h;cases h) (I.look T A BD oO hv) U9 I.rel dK (Nat.le_trans Bi ajA) (fun b h1 h2=>by omega) nP fun m' rv w' Va hR hT => ?_
  rw[hq] at hT
  simp only[Bool.false_eq_true,if_false] at hT
  have hmm:m'=m:=by
   funext b
   cases hm:m b with
   | some l=>exact hT.ext b l hm
   |
    none =>
    cases hm':m' b with
    | none=>rfl
    | some l=>have:=(hT.new b l hm' hm).1;omega
  subst hmm
  refine hK m' c _ w' ⟨by rw[Hn];exact I.Gg,by rw[GU];exact I.defs,I.acA A hr,I.OH T A (fun _ _ h=>h) Va he,I.OM,fun i q h1 h2 h3 => .inr (I.before i q h1 h2 h3),?_,hR,?_,?_⟩
  ·intro h
   obtain⟨h1,q,h2,h3⟩:=I.atc h
   refine⟨fun hS=>hS.elim (fun e => ?_) h1,q,h2,h3⟩
   subst e
   rw[hp] at h2
   cases h2
   exact hw h3
  ·exact Trans.trans (fun b h1 h2=>BD b h1 (by omega)) (T.aaC (Nat.zero_le _) I.OM) (Ext.refl _ _) I.tr hT
  ·intro b l hb
   exact(I.YV b l hb).imp id fun⟨i,h1,h2⟩=>⟨i,.inr h1,h2⟩
 cases oO:fU E p with
 |
  write =>
  have hkc:k=c:=by
   rcases Nat.lt_trichotomy k c with h | h | h
   ·exact absurd (I.before k p h hp oO) hkS
   ·exact h
   ·exfalso
    obtain⟨hcS,pc,hpc,TS⟩:=I.atc (by omega)
    obtain⟨qi,_,jF⟩:=At.pair T h bF hpc hp
    unfold D8 at jF
    rw[TS,oO] at jF
    simp only at jF
    rw[xK h] at jF
    exact hcS (A.anc c jF)
  subst hkc
  refine Qf ho DY (fun hq=>by rw[XE.quiet,oO] at hq;cases hq) hv U9 I.rel dK (Nat.le_trans Bi ajA) hfk nP fun m' rv w' Va hR hT => ?_
  have hq:pi.quiet=false:=by rw[XE.quiet,oO]
  rw[hq] at hT
  simp only[Bool.false_eq_true,if_false] at hT
  obtain⟨c',hc1,hc2,hc3,hc4⟩:=Fs (fun i=>∃q,ps[i]? = some q∧fU E q = .write) _ (k+1) ops.size rfl bF
  have Wf:∀b,b<(st (k+1)).2.length→(st c').2[b]? = (st (k+1)).2[b]? := T.same hc1 hc2 fun i h1 h2 q hq hw=>hc3 i h1 h2 ⟨q,hq,hw⟩
  have avK:=T.len hc1 hc2
  have asC:=T.len (i:=c') (j:=ops.size) hc2 (Nat.le_refl _)
  have asM:∀b l,m' b=some l→m0 b≠none∨∃i,(i=k∨S i)∧i<ops.size∧(st i).2.length≤b∧b<(st (i+1)).2.length:=by
   intro b l hb
   cases hm:m b with
   | some l'=>exact(I.YV b l' hm).imp id fun⟨i,h1,h2⟩=>⟨i,.inr h1,h2⟩
   | none=>exact .inr ⟨k,.inl rfl,bF,(hT.new b l hb hm).1⟩
  have anH:∀b,(st (k+1)).2.length≤b→b<(st c').2.length→m' b=none:=by
   intro b h1 h2
   cases hm:m' b with
   | none=>rfl
   |
    some l =>
    exfalso
    rcases asM b l hm with h3 | ⟨i,hiS,dB,hi1,Ke⟩
    ·exact h3 (BD b (by omega) (by omega))
    ·rcases Nat.lt_trichotomy i k with h3 | h3 | h3
     ·have:=T.len (i:=i+1) (j:=k) h3 (Nat.le_of_lt bF)
      omega
     ·subst h3;omega
     ·obtain⟨oi,qi,pii,_,hqi,_⟩:=T.at dB
      have:=I.late T h3 dB (hiS.resolve_left (by omega)) hqi
      rw[T.V4 dB hqi this] at Ke
      omega
  have hTT:Trans lo m0 (st 0).2 w0 m' (st (k+1)).2 w':=Trans.trans (fun b h1 h2=>BD b h1 (by omega)) (T.aaC (Nat.zero_le _) (Nat.le_of_lt bF)) (T.aaC (Nat.le_succ _) bF) I.tr hT
  refine hK m' c' _ w' ⟨by rw[Hn];exact I.Gg,by rw[GU];exact I.defs,I.acA A hr,I.OH T A hT.ext Va he,hc2,?_,?_,hR.grow Wf anH,?_,asM⟩
  ·intro i q hi hq hw
   rcases Nat.lt_trichotomy i k with h | h | h
   ·exact .inr (I.before i q h hq hw)
   ·exact .inl h
   ·exact absurd ⟨q,hq,hw⟩ (hc3 i h hi)
  ·intro h
   obtain⟨q,hq,hw⟩:=hc4 h
   refine⟨fun hS => ?_,q,hq,hw⟩
   rcases hS with hS | hS
   ·omega
   ·rcases I.late T (by omega) h hS hq with h4 | h4<;>(rw[hw] at h4;cases h4)
  ·refine⟨hTT.ext,fun b l hb hn => ?_,hTT.size,hTT.cJ,hTT.same⟩
   obtain⟨⟨h1,h2⟩,h3⟩:=hTT.new b l hb hn
   refine⟨⟨h1,by omega⟩,?_⟩
   rcases h3 with h3 | h3 | h3
   ·exact .inl h3
   ·exact .inr (.inl fun hl=>h3 ((iP (Wf b h2)).1 hl))
   ·exact .inr (.inr h3)
 |
  quiet =>
  have hkc:k<c:=by
   rcases Nat.lt_or_ge k c with h | h
   ·exact h
   ·exfalso
    rcases Nat.lt_or_ge c k with h' | h'
    ·obtain⟨hcS,pc,hpc,TS⟩:=I.atc (by omega)
     obtain⟨qi,_,jF⟩:=At.pair T h' bF hpc hp
     unfold D8 at jF
     rw[TS,oO] at jF
     simp only at jF
     rw[xK h'] at jF
     exact hcS (A.anc c jF)
    ·have:k=c:=by omega
     subst this
     obtain⟨_,pc,hpc,TS⟩:=I.atc bF
     rw[hp] at hpc
     cases hpc
     rw[oO] at TS
     cases TS
  have XA:∀i,k<i→i<c→∀q,ps[i]? = some q→fU E q ≠ .write:=by
   intro i h1 h2 q hq hw
   have dB:i<ops.size:=Nat.lt_of_lt_of_le h2 I.OM
   obtain⟨qi,_,jF⟩:=At.pair T h1 dB hp hq
   unfold D8 at jF
   rw[oO,hw] at jF
   simp only at jF
   rw[xK h1] at jF
   exact A.desc i dB (I.before i q h2 hq hw) jF
  have Nh:∀b,b<(st (k+1)).2.length→(st c).2[b]? = (st (k+1)).2[b]? := T.same hkc I.OM fun i h1 h2 q hq=>XA i h1 h2 q hq
  have hs0:∀b,b<(st k).2.length→(st c).2[b]? = (st k).2[b]? := T.same (Nat.le_of_lt hkc) I.OM fun i h1 h2 q hq=>by
   rcases Nat.lt_or_ge k i with h | h
   ·exact XA i h h2 q hq
   ·have:i=k:=by omega
    subst this
    rw[hp] at hq
    cases hq
    rw[oO]
    exact fun h=>by cases h
  have aAP:=T.len (i:=k+1) (j:=c) hkc I.OM
  refine Qf ho DY (fun _=>oO) hv U9 (I.rel.restrict hs0) dK (Nat.le_trans Bi asT) hfk nP fun m' rv w' Va hR hT => ?_
  have hq:pi.quiet=true:=by rw[XE.quiet,oO]
  rw[hq] at hT
  simp only[if_true] at hT
  have Jh:∀rb,rb<w.heap.size→w'.heap[rb]? = w.heap[rb]? := fun rb CE=>hT.cJ rb CE fun b l hb _ hl=>absurd hl (F0 hb)
  have sH:∀b l,m' b=some l→m b=none→((st k).2.length≤b∧b<(st (k+1)).2.length)∧(w.heap.size≤l.rb∨¬Live (st (k+1)).2 b):=by
   intro b l h1 h2
   obtain⟨h3,h4⟩:=hT.new b l h1 h2
   refine⟨h3,?_⟩
   rcases h4 with h4 | h4 | ⟨b0,l0,g1,_,g3,_⟩
   ·exact .inl h4
   ·exact .inr h4
   ·exact absurd g3 (F0 g1)
  have atN:∀b l,m b=some l→l.rb<w.heap.size:=by
   intro b l hb
   obtain⟨arr,e,fz,h1,_⟩:=I.rel.valid b l hb
   exact(Array.getElem?_eq_some_iff.1 h1).1
  have adQ:∀rb j,rb<w.heap.size→w'.cell? ⟨rb,j,none⟩=w.cell? ⟨rb,j,none⟩:=by
   intro rb j CE
   unfold World.cell?
   simp only[Jh rb CE]
  have Bj:∀b l,m' b=some l→(st (k+1)).2.length≤b→m b=some l:=by
   intro b l hb h
   cases hm:m b with
   | some l'=>have:=hT.ext b l' hm;rw[hb] at this;exact this.symm
   | none=>have:=(sH b l hb hm).1.2;omega
  refine hK m' c _ w' ⟨by rw[Hn];exact I.Gg,by rw[GU];exact I.defs,I.acA A hr,I.OH T A hT.ext Va he,I.OM,fun i q h1 h2 h3 => .inr (I.before i q h1 h2 h3),?_,⟨hR.valid,?_,?_,?_⟩,?_,?_⟩
  ·intro h
   obtain⟨h1,q,h2,h3⟩:=I.atc h
   exact⟨fun hS=>hS.elim (fun e=>by omega) h1,q,h2,h3⟩
  ·intro b l cs e pp hm hb
   rcases Nat.lt_or_ge b (st (k+1)).2.length with h | h
   ·exact hR.row b l cs e pp hm (by rw[←Nh b h];exact hb)
   ·have Wo:=Bj b l hm h
    obtain⟨h1,h2,h3,h4⟩:=I.rel.row b l cs e pp Wo hb
    refine⟨h1,h2,h3,fun i hi => ?_⟩
    obtain⟨rv',g1,g2,g3⟩:=h4 i hi
    exact⟨rv',by rw[adQ _ _ (atN b l Wo)];exact g1,g2.mono hT.ext,g3⟩
  ·intro b1 b2 l1 l2 CB h1 h2 Cz E4 CE
   have fresh:∀b b' l l',m' b=some l→m b=none→m b'=some l'→Live (st c).2 b→l.rb=l'.rb→False:=by
    intro b b' l l' g1 g2 g3 g4 g5
    obtain⟨⟨_,g6⟩,g7⟩:=sH b l g1 g2
    rcases g7 with g7 | g7
    ·have:=atN b' l' g3;omega
    ·exact g7 ((iP (Nh b g6)).1 g4)
   cases Qx:m b1 with
   |
    some l1' =>
    cases hm2:m b2 with
    |
     some l2' =>
     have e1:l1'=l1:=by have:=hT.ext b1 l1' Qx;rw[h1] at this;injection this with this;exact this.symm
     have e2:l2'=l2:=by have:=hT.ext b2 l2' hm2;rw[h2] at this;injection this with this;exact this.symm
     subst e1 e2
     exact I.rel.inj b1 b2 _ _ CB Qx hm2 Cz E4 CE
    |
     none =>
     have e1:l1'=l1:=by have:=hT.ext b1 l1' Qx;rw[h1] at this;injection this with this;exact this.symm
     subst e1
     exact(fresh b2 b1 _ _ h2 hm2 Qx E4 CE.symm).elim
   |
    none =>
    cases hm2:m b2 with
    |
     some l2' =>
     have e2:l2'=l2:=by have:=hT.ext b2 l2' hm2;rw[h2] at this;injection this with this;exact this.symm
     subst e2
     exact(fresh b1 b2 _ _ h1 Qx hm2 Cz CE).elim
    |
     none =>
     have g1:=(sH b1 l1 h1 Qx).1.2
     have g2:=(sH b2 l2 h2 hm2).1.2
     exact hR.inj b1 b2 l1 l2 CB h1 h2 ((iP (Nh b1 g1)).1 Cz) ((iP (Nh b2 g2)).1 E4) CE
  ·intro x hx
   refine⟨(hR.Dw x hx).1,fun b l hb hm hl => ?_⟩
   obtain⟨⟨e0,fz0,q1⟩,q2⟩:=I.rel.Dw x hx
   cases Qx:m b with
   |
    some l' =>
    have e1:l'=l:=by have:=hT.ext b l' Qx;rw[hm] at this;injection this with this;exact this.symm
    subst e1
    exact q2 b l' hb Qx hl
   |
    none =>
    obtain⟨⟨_,g6⟩,g7⟩:=sH b l hm Qx
    rcases g7 with g7 | g7
    ·have:=(Array.getElem?_eq_some_iff.1 q1).1
     omega
    ·exact(g7 ((iP (Nh b g6)).1 hl)).elim
  ·refine⟨fun b l hb=>hT.ext b l (I.tr.ext b l hb),fun b l hb hn => ?_,Nat.le_trans I.tr.size hT.size,fun rb CE hk => ?_,hT.same.1.trans I.tr.same.1,hT.same.2.1.trans I.tr.same.2.1,hT.same.2.2.trans I.tr.same.2.2⟩
   ·cases hm:m b with
    |
     some l' =>
     have e1:l'=l:=by have:=hT.ext b l' hm;rw[hb] at this;injection this with this;exact this.symm
     subst e1
     exact I.tr.new b l' hm hn
    |
     none =>
     obtain⟨⟨g1,g2⟩,g3⟩:=sH b l hb hm
     refine⟨⟨by omega,by omega⟩,?_⟩
     rcases g3 with g3 | g3
     ·exact .inl (Nat.le_trans I.tr.size g3)
     ·exact .inr (.inl fun hl=>g3 ((iP (Nh b g2)).1 hl))
   ·rw[Jh rb (Nat.lt_of_lt_of_le CE I.tr.size),I.tr.cJ rb CE hk]
  ·intro b l hb
   cases hm:m b with
   | some l'=>exact(I.YV b l' hm).imp id fun⟨i,h1,h2⟩=>⟨i,.inr h1,h2⟩
   | none=>exact .inr ⟨k,.inl rfl,bF,(sH b l hb hm).1⟩
 | pure=>exact Rh (.inl oO)
 | look=>exact Rh (.inr oO)
end
end Go.PM
namespace Go.PM
section
variable {P:Program} {E:AX} {n:Nat} {call:gG} {lo L0:Nat}
theorem Trans.fresh {m m':dO} {H H1 H2:aE} {w w':World} (h:Trans lo m H w m' H1 w') (h1:H.length≤H1.length) (hf:∀b,H.length≤b→b<H2.length→m b=none):∀b,H1.length≤b→b<H2.length→m' b=none:=by
 intro b CB Yr
 cases hm:m' b with
 | none=>rfl
 |
  some l =>
  exfalso
  have hn:=hf b (by omega) Yr
  have:=(h.new b l hm hn).1
  omega
structure HW (n L0:Nat) (m:dO) (ρ:Env) (H:aE) (a:Act) (w:World):Prop where
 Gg:a.tmps.size=n
 defs:a.defers=[]
 env:∀t,RV m (ρ t) (a.tmps.getD t undef)
 rel:Rel m L0 H w
theorem NU {p q:Nat→Bool}:∀ {l:List Nat} {i:Nat},(∀x∈l,q x=true→p x=true)→i∈l→p i=true→q i=false→l.countP q<l.countP p
 |
  x::l,i,h,hi,hp,hq=>by
  rw[List.countP_cons,List.countP_cons]
  have hle:l.countP q≤l.countP p:=List.countP_mono_left fun x hx=>h x (List.mem_cons_of_mem _ hx)
  rcases List.mem_cons.1 hi with rfl | hi
  ·rw[if_neg (by simp[hq]),if_pos hp];omega
  ·have:=NU (fun x hx=>h x (List.mem_cons_of_mem _ hx)) hi hp hq
   have:(if q x=true then 1 else 0)≤(if p x=true then 1 else 0):=by
    by_cases hqx:q x=true
    ·rw[if_pos hqx,if_pos (h x List.mem_cons_self hqx)];omega
    ·rw[if_neg hqx];omega
   omega
theorem LH {listed:Array Bool} {k i:Nat} (hk:k<listed.size):(listed.setIfInBounds k true).getD i false=true↔(i=k∨listed.getD i false=true):=by
 rcases Nat.lt_or_ge i listed.size with h | h
 ·by_cases e:i=k
  ·subst e;simp[h]
  ·simp[h,e,Ne.symm e]
 ·have:i≠k:=by omega
  simp[h,this]
theorem agI {ops:Array Oper} {sY:List PI} {ps:List nK} {M:List Nat} {st:Nat→Env×aE} {m0:dO} {w0:World} (T:Text P E n ops sY ps M call lo st) (nP:wQ P L0 call) (dK:L0≤lo) (Bi:L0≤(st 0).2.length)
  (BD:∀b,(st 0).2.length≤b→b<(st ops.size).2.length→m0 b=none) {Q:Exit→Act→World→Prop}
  (hQ:∀m' a' w',HW n L0 m' (st ops.size).1 (st ops.size).2 a' w'→Trans lo m0 (st 0).2 w0 m' (st ops.size).2 w'→Q .normal a' w') :
  ∀(fuel:Nat) (listed:Array Bool) (m:dO) (c:Nat) (a:Act) (w:World),listed.size=ops.size→((List.range ops.size).countP fun i => !listed.getD i false)≤fuel →
  rK E n ops ps lo L0 st m0 w0 [] (fun i=>listed.getD i false=true) m c a w→wpAny P .any ops Q fuel listed a w:=by
 have fin:∀(listed:Array Bool) (m:dO) (c:Nat) (a:Act) (w:World),listed.size=ops.size→(Region.ready .any ops listed=[])→rK E n ops ps lo L0 st m0 w0 [] (fun i=>listed.getD i false=true) m c a w→Q .normal a w:=by
  intro listed m c a w hs hr I
  have all:∀i,i<ops.size→listed.getD i false=true:=by
   intro i
   induction i using Nat.strongRecOn with
   |
    _ i ih =>
    intro hi
    cases hl:listed.getD i false with
    | true=>rfl
    |
     false =>
     exfalso
     obtain⟨o,p,pi,ho,_,_,_,XE,_⟩:=T.at hi
     have:i∈Region.ready .any ops listed:=by
      rw[mem_ready]
      refine⟨?_,o,ho,fun e he hb => ?_⟩
      ·have Ub:i<listed.size:=by omega
       simpa[Ub] using hl
      ·have:=XE.back e (by simpa using he) hb
       exact ih e.on this (by omega)
     rw[hr] at this
     cases this
  have hcN:c=ops.size:=by
   rcases Nat.lt_or_ge c ops.size with h | h
   ·exact absurd (all c h) (I.atc h).1
   ·have:=I.OM;omega
  subst hcN
  exact hQ m a w ⟨I.Gg,I.defs,fun t=>I.tm t ops.size (Nat.le_refl _) fun i o hi _=>⟨fun _=>FK hi,fun h=>all i h⟩,I.rel⟩ I.tr
 intro fuel
 induction fuel with
 |
  zero =>
  intro listed m c a w hs hc I
  have hr:Region.ready .any ops listed=[]:=by
   rw[List.eq_nil_iff_forall_not_mem]
   intro i hi
   have kX:=mem_ready.1 hi
   obtain⟨h1,o,ho,_⟩:=kX
   have bF:i<ops.size:=(Array.getElem?_eq_some_iff.1 ho).1
   have h0:((List.range ops.size).countP fun i => !listed.getD i false)=0:=by omega
   rw[List.countP_eq_zero] at h0
   have:=h0 i (List.mem_range.2 bF)
   have Ub:i<listed.size:=by omega
   simp[Ub] at this h1
   rw[h1] at this
   cases this
  exact⟨hr,fin listed m c a w hs hr I⟩
 |
  succ fuel ih =>
  intro listed m c a w hs hc I
  refine⟨fun hr=>fin listed m c a w hs hr I,fun k hk => ?_⟩
  obtain⟨h1,o,ho,hb⟩:=mem_ready.1 hk
  have bF:k<ops.size:=(Array.getElem?_eq_some_iff.1 ho).1
  have hkl:k<listed.size:=by omega
  have hkf:listed.getD k false=false:=by simpa[hkl] using h1
  refine abF T nP dK Bi BD I ho (by rw[hkf];exact fun h=>by cases h) (fun e he hbd=>hb e (by simpa using he) hbd) fun m' c' a' w' I'=>ih _ m' c' a' w' (by simpa using hs) ?_ ?_
  ·have:((List.range ops.size).countP fun i => !(listed.setIfInBounds k true).getD i false)<((List.range ops.size).countP fun i => !listed.getD i false):=by
    refine NU (i:=k) (fun x _ hx => ?_) (List.mem_range.2 bF) (by rw[hkf];rfl) ?_
    ·cases hlx:listed.getD x false with
     | false=>rfl
     |
      true =>
      have:=(LH (i:=x) hkl).2 (.inr hlx)
      rw[this] at hx
      cases hx
    ·rw[(LH hkl).2 (.inl rfl)];rfl
   omega
  ·have e:(fun i=>(listed.setIfInBounds k true).getD i false=true)=fun i=>i=k∨listed.getD i false=true:=by
    funext i
    exact propext (LH hkl)
   rw[e]
   exact I'
theorem Rel.drew {m:dO} {H:aE} {w w':World} (h:Rel m L0 H w) (hw:w'.heap=w.heap):Rel m L0 H w':=by
 have hc:∀x,w'.cell? x=w.cell? x:=fun x=>by unfold World.cell?;rw[hw]
 refine⟨fun b l hb=>by rw[hw];exact h.valid b l hb,fun b l cs e p hm hb => ?_,h.inj,fun x hx=>⟨by rw[hw];exact(h.Dw x hx).1,(h.Dw x hx).2⟩⟩
 obtain⟨h1,h2,h3,h4⟩:=h.row b l cs e p hm hb
 refine⟨h1,h2,h3,fun i hi => ?_⟩
 rw[hc]
 exact h4 i hi
theorem UH {id:Nat} {ops:Array Oper} {draw:Bool} {sY:List PI} (DF:P.follows .mixedOrders=true) (nP:wQ P L0 call) (qU:rB call) (hp:xZ P E n ops draw=some sY) {ρ bI:Env} {H H':aE}
  (hv:gT call lo sY ρ H=some (bI,H')) {m:dO} {a:Act} {w:World} (h:HW n L0 m ρ H a w) (dK:L0≤lo) (hlen:L0≤H.length) (hf:∀b,H.length≤b→b<H'.length→m b=none) {Q:Exit→Act→World→Prop}
  (hQ:∀m' a' w',HW n L0 m' bI H' a' w'→Trans lo m H w m' H' w'→Q .normal a' w'):(Code.region id ops draw).wp P Q a w:=by
 obtain⟨ps,M,DY⟩:=JR hp
 obtain⟨st,hs0,hsn,E5⟩:=GC hv
 have hN:sY.length=ops.size:=by rw[DY.azM];simp
 rw[hN] at hsn
 cases draw with
 |
  true =>
  have T:Text P E n ops sY ps M call lo st:=⟨DY,qU,E5⟩
  apply wp_region_any DF
  have e0:(st 0).1=ρ:=by rw[hs0]
  have e1:(st 0).2=H:=by rw[hs0]
  have e2:(st ops.size).1=bI:=by rw[hsn]
  have e3:(st ops.size).2=H':=by rw[hsn]
  obtain⟨c,hc1,hc2,hc3,hc4⟩:=Fs (fun i=>∃q,ps[i]? = some q∧fU E q = .write) _ 0 ops.size rfl (Nat.zero_le _)
  have Wf:=T.same hc1 hc2 fun i h1 h2 q hq hw=>hc3 i h1 h2 ⟨q,hq,hw⟩
  have aqG:=T.len hc1 hc2
  have asC:=T.len (i:=c) (j:=ops.size) hc2 (Nat.le_refl _)
  have hgr:=h.rel.grow (by rw[←e1];exact Wf) (fun b h1 h2=>hf b h1 (by rw[←e3];omega))
  have abO:∀i,(Array.replicate ops.size false).getD i false=true→False:=by
   intro i hi
   rcases Nat.lt_or_ge i ops.size with h | h<;>simp[h] at hi
  refine agI (m0:=m) (w0:=w) T nP dK (by rw[e1];exact hlen) (by rw[e1,e3];exact hf) (by rw[e1,e2,e3];exact hQ) ops.size _ m c a _ (by simp) (Nat.le_trans List.countP_le_length (by simp)) ?_
  refine⟨h.Gg,h.defs,fun i o _ hi=>(abO i hi).elim,fun t j hj hw => ?_,hc2,fun i q hi hq hw=>absurd ⟨q,hq,hw⟩ (hc3 i (Nat.zero_le _) hi),fun hc=>⟨fun h=>abO _ h,hc4 hc⟩,hgr.drew rfl,?_,fun b l hb => .inl (by rw[hb];exact fun h=>by cases h)⟩
  ·have e:(st j).1 t=ρ t:=by
    rw[←e0]
    refine T.PQ (Nat.zero_le _) hj fun i oi _ Ke hoi hd => ?_
    have Rq:ops.toList[i]? = some oi:=by simpa using hoi
    exact(abO i ((hw i oi Rq hd).2 Ke)).elim
   rw[e]
   exact h.env t
  ·rw[e1]
   refine⟨fun _ _ h=>h,fun b l hb hn=>(by rw[hb] at hn;cases hn),Nat.le_refl _,fun _ _ _=>rfl,rfl,rfl,rfl⟩
 |
  false =>
  apply wp_region
  have key:∀d i,ops.size-i=d→i≤ops.size→∀m1 a1 w1,HW n L0 m1 (st i).1 (st i).2 a1 w1→L0≤(st i).2.length→(∀b,(st i).2.length≤b→b<H'.length→m1 b=none) →
    (∀m' a' w',HW n L0 m' bI H' a' w'→Trans lo m1 (st i).2 w1 m' H' w'→Q .normal a' w')→wpOps P ops Q ((List.range ops.size).drop i) a1 w1:=by
   intro d
   induction d with
   |
    zero =>
    intro i hd hi m1 a1 w1 h1 _ _ hQ1
    have:i=ops.size:=by omega
    subst this
    rw[List.drop_eq_nil_of_le (by simp)]
    rw[hsn] at h1 hQ1
    exact hQ1 m1 a1 w1 h1 (Trans.refl _ _ _ _)
   |
    succ d ih =>
    intro i hd hi m1 a1 w1 h1 Cz hf1 hQ1
    have bF:i<ops.size:=by omega
    rw[List.drop_eq_getElem_cons (by simpa using bF),wpOps_cons]
    have ho:ops.toList[i]? = some ops[i]:=by simp[bF]
    obtain⟨p,pi,hp1,Kq,aoG,_,XE⟩:=DY.each i _ ho
    have aiX:=E5 i pi Kq
    obtain⟨v,hv1,hv2⟩:=xF aiX
    have hq:pi.quiet=false:=(XE rfl).1
    have hE1:=Ig qU aiX
    have hE2:Ext lo (st (i+1)).2 H':=by
     have:∀d j,ops.size-j=d→j≤ops.size→Ext lo (st j).2 H':=by
      intro d
      induction d with
      | zero =>
        intro j hd hj;have:j=ops.size:=by omega
        subst this;rw[hsn];exact Ext.refl _ _
      |
       succ d ih =>
       intro j hd hj
       have hjl:j<sY.length:=by omega
       exact(Ig qU (E5 j sY[j] (List.getElem?_eq_getElem hjl))).trans (ih (j+1) (by omega) (by omega))
     exact this _ (i+1) rfl bF
    have EN:(List.range ops.size)[i]'(by simpa using bF)=i:=by simp
    rw[EN]
    refine Qf (by simp[bF]) aoG (fun h=>by rw[hq] at h;cases h) hv1 (fun t _=>h1.env t) h1.rel dK Cz (fun b CB Yr=>hf1 b CB (Nat.lt_of_lt_of_le Yr hE2.len)) nP fun m' rv w' Va hR hT => ?_
    rw[hq] at hT
    simp only[Bool.false_eq_true,if_false] at hT
    refine ih (i+1) (by omega) bF m' _ w' ⟨by rw[Hn];exact h1.Gg,by rw[GU];exact h1.defs,fun t => ?_,hR⟩ (Nat.le_trans Cz hE1.len) (hT.fresh hE1.len hf1) fun m2 a2 w2 h2 Pp=>hQ1 m2 a2 w2 h2 (Trans.trans hf1 hE1 hE2 hT Pp)
    rw[hv2,aoG.dst]
    cases hd:ops[i].dst with
    | none=>exact(h1.env t).mono hT.ext
    |
     some d =>
     rw[Ru (by rw[h1.Gg];exact aoG.bound d hd)]
     show RV m' (if t=d then v else (st i).1 t) _
     by_cases e:t=d
     ·rw[if_pos e,if_pos e];exact Va
     ·rw[if_neg e,if_neg e];exact(h1.env t).mono hT.ext
  have:=key ops.size 0 (by omega) (Nat.zero_le _) m a w (by rw[hs0];exact h) (by rw[hs0];exact hlen) (by rw[hs0];exact hf) (by rw[hs0];exact hQ)
  simpa using this
end
end Go.PM