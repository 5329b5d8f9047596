/- Texts of a claim, in one: part 2. -/
import Derived.LoopN
import Derived.Test.YtjmflicajplclaaGreatDoorKBa
set_option linter.unusedSimpArgs false
set_option linter.unusedVariables false
namespace Go.PM
section
variable {P:Program} {m:dR} {L0:Nat} {H:aF} {w:World}
theorem RL.const {zs:List Value} (h:zs.all lW=true):RL m zs zs :=
 ⟨rfl,fun j hj=>by
  have:=RV.const (m:=m) (List.all_eq_true.1 h _ (List.getElem_mem hj))
  simpa[List.getD_eq_getElem?_getD,List.getElem?_eq_getElem hj] using this⟩
theorem wI (n:Nat) (zs:List Value):(dF n zs).length=n*zs.length:=by simp[dF]
theorem yF (n:Nat) {zs:List Value} (h:zs.all lW=true) (h0:1≤zs.length):RL m (dF n zs) (dF n zs):=by
 refine⟨rfl,fun i hi => ?_⟩
 rw[wI] at hi
 have bH:i % zs.length<zs.length:=Nat.mod_lt _ h0
 have e:(dF n zs).getD i undef=zs.getD (i % zs.length) undef:=by simp[dF,List.getD_eq_getElem?_getD,hi]
 rw[e]
 exact(RL.const h).2 _ bH
theorem Vj (n:Nat) {zs:List Value} (h:zs.all gM=true) (h0:1≤zs.length):(dF n zs).all gM=true:=by
 rw[List.all_eq_true]
 intro x hx
 obtain⟨i,_,rfl⟩:=List.mem_map.1 hx
 have bH:i % zs.length<zs.length:=Nat.mod_lt _ h0
 have:=List.all_eq_true.1 h _ (List.getElem_mem bH)
 simpa[List.getD_eq_getElem?_getD,List.getElem?_eq_getElem bH] using this
theorem KL (z:Array Value) (n:Nat) (h0:1≤z.size):(madeCells z (n*z.size)).toList=dF n z.toList:=by
 apply List.ext_getElem
 ·simp[madeCells,dF]
 ·intro i h1 h2
  have bH:i % z.size<z.size:=Nat.mod_lt _ h0
  simp[madeCells,dF,bH]
theorem I4 (z:Array Value) (n:Nat) (h0:1≤z.size):(Builtin.zeroCells z n).toList=dF n z.toList:=by
 apply List.ext_getElem
 ·simp[Builtin.zeroCells,dF]
 ·intro i h1 h2
  have bH:i % z.size<z.size:=Nat.mod_lt _ h0
  simp[Builtin.zeroCells,dF,bH]
theorem adV {t:TypeId} {agg:Bool} {size nb lo:Nat} {z:List Value} (ht:nF P t=some (agg,size,z,nb)) (JO:z.all gM=true) (VA:z.all lW=true) (hR:Rel m L0 H w) (hf:m H.length=none) :
  cW P (do pure (.value (←Instr.alloc t true (.tuple #[])))) L0 lo m H w (.pointer (some ⟨H.length,0,none⟩)) (H++[.row z z.length false]):=by
 obtain⟨i,d,zz,hi,hd,JE,rfl,rfl,rfl,rfl⟩:=jP ht
 have qG:(Instr.alloc t true (.tuple #[])).run P w = .ok (.pointer (some ⟨w.heap.size,0,none⟩)) (w.alloc (.cells zz.cells t)):=by
  simp[Instr.alloc,zeroValue,typeInfo,hi,JE,newVar,newRow]
 have hA:=zA hR hf (w':=w.alloc (.cells zz.cells t)) (arr:=zz.cells) (e:=t) (fz:=(0,0)) rfl ⟨rfl,rfl,rfl⟩ (cs:=aU zz) (gC:=(aU zz).length) (TP:=false)
  (by rw[fQ];exact Nat.le_refl _) (fun i hi=>by
   have:=(RL.const (m:=m) VA).2 i hi
   rwa [←AQ,gO]) JO (fun j _ h=>by simp at h)
 exact cW.value qG (.ptr _ 0 _ (cD m _ _)) hA.1 (hA.2 lo)
theorem ahN {t:TypeId} {v r:Value} {lo:Nat} (hv:RV m v r) (hs:(aU v).all gM=true) (hR:Rel m L0 H w) (hf:m H.length=none) :
  cW P (do pure (.value (←Instr.box t r))) L0 lo m H w (.pointer (some ⟨H.length,0,none⟩)) (H++[.row (aU v) (aU v).length false]):=by
 have qG:(Instr.box t r).run P w = .ok (.pointer (some ⟨w.heap.size,0,none⟩)) (w.alloc (.cells r.cells t)):=by
  simp[Instr.box,newVar,newRow]
 have hA:=zA hR hf (w':=w.alloc (.cells r.cells t)) (arr:=r.cells) (e:=t) (fz:=(0,0)) rfl ⟨rfl,rfl,rfl⟩ (cs:=aU v) (gC:=(aU v).length) (TP:=false)
  (by rw[fQ,hv.aU.1];exact Nat.le_refl _) (fun i hi=>by
   have:=hv.aU.2 i hi
   rwa [←AQ,gO]) hs (fun j _ h=>by simp at h)
 exact cW.value qG (.ptr _ 0 _ (cD m _ _)) hA.1 (hA.2 lo)
theorem aaM {t:TypeId} {agg:Bool} {size nb lo:Nat} {z:List Value} {kl kc:IntKind} {l c:Int} (ht:kX P t=some (agg,size,z,nb)) (JO:z.all gM=true) (VA:z.all lW=true) (Za:size=z.length) (F1:1≤size)
  (hl:0≤l) (hlc:l≤c) (hb:c*nb≤281474976710656) (hc:c≤9223372036854775807) (hR:Rel m L0 H w) (hf:m H.length=none) :
  cW P (do pure (.value (←Instr.makeSlice t (.int kl l) (.int kc c)))) L0 lo m H w (.slice (some ⟨H.length,0,none⟩) l.toNat c.toNat) (H++[.row (dF c.toNat z) z.length false]):=by
 obtain⟨e,hu,Lz⟩:=kJ ht
 obtain⟨i,d,zz,hi,hd,JE,rfl,rfl,rfl,rfl⟩:=jP Lz
 have qG:=run_make (P:=P) w t e i zz hu hi JE kl kc l c hl hlc (by rw[Int.mul_comm];exact hb) hc
 have Co:i.size=zz.cells.size:=by rw[Za,fQ]
 rw[Co] at qG F1
 have VP:(madeCells zz.cells (c.toNat*zz.cells.size)).toList=dF c.toNat (aU zz):=by rw[KL _ _ F1,gO]
 have avW:(madeCells zz.cells (c.toNat*zz.cells.size)).size=c.toNat*(aU zz).length:=by rw[size_madeCells,fQ]
 have abJ:1≤(aU zz).length:=by rw[←fQ];exact F1
 have hA:=zA hR hf (w':=w.alloc (.cells (madeCells zz.cells (c.toNat*zz.cells.size)) e)) (arr:=madeCells zz.cells (c.toNat*zz.cells.size)) (e:=e) (fz:=(0,0)) rfl ⟨rfl,rfl,rfl⟩
  (cs:=dF c.toNat (aU zz)) (gC:=(aU zz).length) (TP:=false) (by rw[avW,wI];exact Nat.le_refl _) (fun j hj=>by
   have:=(yF (m:=m) c.toNat VA abJ).2 j hj
   rwa [←AQ,VP]) (Vj _ JO abJ) (fun j _ h=>by simp at h)
 refine cW.value qG ?_ hA.1 (hA.2 lo)
 exact .slice _ 0 _ _ _ _ _ (cD m _ _) (by omega) (Nat.le_refl _) (fun _=>rfl) (.inr ⟨rfl,by simp only[avW];omega⟩)
theorem ajX {t:TypeId} {agg:Bool} {size nb lo n:Nat} {z cs:List Value} {parts:List (Nat×Operand)} {ρ:Env} {a:Act} (ht:kX P t=some (agg,size,z,nb)) (JO:z.all gM=true) (VA:z.all lW=true) (Za:size=z.length) (F1:1≤size) (hn:n*size≤16777216)
  (apQ:xX ((List.range n).map fun i=>(i*z.length,z.length)) (dF n z) (parts.map fun(i,x)=>(i,ev ρ x))=some cs) (wZ:cs.all gM=true) (hr:∀p∈parts,RV m (ev ρ p.2) (a.eval p.2))
  (hR:Rel m L0 H w) (hf:m H.length=none) :
  cW P (do pure (.value (←Instr.buildSlice t n (parts.toArray.map fun(i,x)=>(i,a.eval x))))) L0 lo m H w (.slice (some ⟨H.length,0,none⟩) n n) (H++[.row cs z.length false]):=by
 obtain⟨e,hu,Lz⟩:=kJ ht
 obtain⟨i,d,zz,hi,hd,JE,rfl,rfl,rfl,rfl⟩:=jP Lz
 have Co:i.size=zz.cells.size:=by rw[Za,fQ]
 have abJ:1≤(aU zz).length:=by rw[←fQ,←Co];exact F1
 have O8:∀j q,((List.range n).map fun i=>(i*(aU zz).length,(aU zz).length))[j]? = some q→(fun i'=>some (i'*i.size,i.size):Nat→Option (Nat×Nat)) j=some q:=by
  intro j q hj
  simp only[List.getElem?_map,Option.map_eq_some_iff] at hj
  obtain⟨k,hk,rfl⟩:=hj
  have hk':=(List.getElem?_eq_some_iff.1 hk)
  obtain⟨hk1,hk2⟩:=hk'
  simp at hk2
  subst hk2
  rw[←Za]
 have hz:RL m (dF n (aU zz)) ((Array.range (n*i.size)).map (zz.cells[· % zz.cells.size]!)).toList:=by
  have:=yF (m:=m) n VA abJ
  rw[Co]
  have e1:=KL zz.cells n (by rw[←Co];exact F1)
  rw[gO] at e1
  show RL m _ (madeCells zz.cells (n*zz.cells.size)).toList
  rw[e1]
  exact this
 obtain⟨OG,h1,h2⟩:=U9 (m:=m) _ _ O8 (parts.map fun(i,x)=>(i,ev ρ x)) (parts.map fun(i,x)=>(i,a.eval x)) _ _ cs
  (by simp[Function.comp_def]) (by simpa[Function.comp_def] using RL.map (l:=parts) (f:=fun p=>ev ρ p.2) (g:=fun p=>a.eval p.2) hr) hz apQ
 have hlen:cs.length=n*(aU zz).length:=by rw[Ry _ _ _ _ apQ,wI]
 have emap:(Array.map (fun x:Nat×Operand=>(x.1,a.eval x.2)) parts.toArray).toList=parts.map fun(i,x)=>(i,a.eval x):=by simp
 have XF:¬(2^24<n*i.size):=by omega
 have qG:(Instr.buildSlice t n (parts.toArray.map fun(i,x)=>(i,a.eval x))).run P w = .ok (.slice (some ⟨w.heap.size,0,none⟩) n n) (w.alloc (.cells OG e)):=by
  have h1':Instr.fill (fun i'=>some (i'*i.size,i.size)) ((Array.range (n*i.size)).map (zz.cells[· % zz.cells.size]!)) (Array.map (fun x:Nat×Operand=>(x.1,a.eval x.2)) parts.toArray).toList=some OG:=by rw[emap];exact h1
  by_cases hn0:n*i.size=0
  ·rw[hn0] at h1'
   simp only[show ∀f:Nat→Value,(Array.range 0).map f = #[] from fun f=>by simp] at h1'
   unfold Instr.buildSlice
   simp only[Sem.run_bind,run_underlying hu,Result.andThen_ok,run_sizeOf e i hi,hn0,if_true,Sem.run_pure,show ¬(0>2^24) by omega,if_false]
   rw[show ∀f:Nat→Value,(Array.range 0).map f = #[] from fun f=>by simp]
   simp only[h1']
   simp[newRow]
  ·unfold Instr.buildSlice
   simp only[Sem.run_bind,run_underlying hu,Result.andThen_ok,run_sizeOf e i hi,hn0,if_false,Sem.run_pure,gt_iff_lt,XF,zeroValue,typeInfo,run_program,hi,JE]
   simp only[h1']
   simp[newRow]
 have N8:OG.size=n*(aU zz).length:=by rw[←hlen];simpa using h2.1.symm
 have hA:=zA hR hf (w':=w.alloc (.cells OG e)) (arr:=OG) (e:=e) (fz:=(0,0)) rfl ⟨rfl,rfl,rfl⟩ (cs:=cs) (gC:=(aU zz).length) (TP:=false)
  (by rw[hlen,N8];exact Nat.le_refl _) (fun j hj=>by rw[←AQ];exact h2.2 j hj) wZ (fun j _ h=>by simp at h)
 refine cW.value qG ?_ hA.1 (hA.2 lo)
 exact .slice _ 0 _ _ _ _ _ (cD m _ _) (Nat.le_refl _) (Nat.le_refl _) (fun _=>rfl) (.inr ⟨rfl,by simp only[N8];omega⟩)
theorem Xb (g:Value→ByteArray→Sem (ForInStep ByteArray)) (hg:∀n s,g (.int .u8 n) s=pure (ForInStep.yield (s.push (UInt8.ofNat n.toNat)))):∀(cs rs:List Value) (bs:List UInt8) (acc:ByteArray),RL m cs rs→vF cs=some bs→∀w,
  (forIn rs acc g).run P w = .ok ⟨(acc.data.toList++bs).toArray⟩ w:=by
 intro cs
 induction cs with
 |
  nil =>
  intro rs bs acc hr hb w
  have e0:rs=[]:=List.eq_nil_of_length_eq_zero hr.1.symm
  subst e0
  cases hb
  simp
 |
  cons c cs ih =>
  intro rs bs acc hr hb w
  cases rs with
  | nil=>exact absurd hr.1 (by simp)
  |
   cons r rs =>
   obtain⟨hc,O7⟩:=hr.kR
   unfold vF at hb
   split at hb
   ·rename_i heq;cases heq
   ·rename_i n rest heq
    cases heq
    cases hc
    cases h2:vF cs with
    | none=>rw[h2] at hb;cases hb
    |
     some bs' =>
     rw[h2] at hb
     cases hb
     simp only[List.forIn_cons,hg,Sem.run_bind,Sem.run_pure,Result.andThen_ok]
     rw[ih rs bs' _ O7 h2 w]
     simp[ByteArray.push]
   ·cases hb
theorem ajO {s d e:TypeId} {rp:Value} {lo n b off c:Nat} {cs:List Value} {bs:List UInt8} (hs:P.underlying s=some (.slice e)) (hd:P.underlying d=some .string) (he:P.underlying e=some (.int .u8))
  (XT:H.read b off n=some cs) (hb:vF cs=some bs) (hR:Rel m L0 H w) (hp:RV m (.slice (some ⟨b,off,none⟩) n c) rp) :
  cW P (do pure (.value (←convert s d rp))) L0 lo m H w (.string ⟨bs.toArray⟩) H:=by
 cases hp with
 |
  slice _ _ _ _ l ra rc hm hn hc hx ha =>
  obtain⟨rs,h1,h2,_,h3⟩:=Aw hR hm XT
  have ayQ:(loadCells ra n).run P w = .ok rs.toArray w:=by
   rcases ha with ha | ⟨rfl,ha⟩
   ·have h0:n=0:=by omega
    subst h0
    have e0:rs=[]:=List.eq_nil_of_length_eq_zero h2
    subst e0
    rfl
   ·rw[←h2]
    exact run_loadCells_list w _ rs h3
  refine cW.value (rv := .string ⟨bs.toArray⟩) (w':=w) (m':=m) ?_ (.str _) hR (Trans.refl lo m H w)
  simp only[convert,Sem.run_bind,run_underlying hs,run_underlying hd,Result.andThen_ok,run_underlying he,Conv.bytesToString,ayQ,←Array.forIn_toList]
  rw[Xb (P:=P) (m:=m) _ (fun n s=>rfl) cs rs bs ByteArray.empty h1 hb w]
  simp
theorem QK {t e:TypeId} {i:TypeInfo} (hu:P.underlying t=some (.slice e)) (hi:P.info? e=some i) {a:Option Addr} {n c:Nat} {lo nH mx:Option Value} {l h k:Nat}
  (hb:(Instr.sliceBounds true n c lo nH mx).run P w = .ok (l,h,k) w) :
  (Instr.sliceAt t (.slice a n c) lo nH mx).run P w = .ok (.slice (if k=l then a else a.map (·.add (l*i.size))) (h-l) (k-l)) w:=by
 have h1:(Instr.sliceAt t (.slice a n c) lo nH mx).run P w=(Instr.slice t (.slice a n c) lo nH mx).run P w:=by
  unfold Instr.sliceAt
  rw[Sem.run_bind,run_underlying hu,Result.andThen_ok]
 rw[h1]
 unfold Instr.slice
 rw[Sem.run_bind,run_underlying hu,Result.andThen_ok]
 simp[hb,run_sizeOf e i hi]
theorem afL {t e:TypeId} {i:TypeInfo} {lo:Nat} {x rx v:Value} {l h mx l' h' mx':Option Value} {H':aF} (hu:P.underlying t=some (.slice e)) (hi:P.info? e=some i)
  (hs:DP i.size x l h mx H=some (v,H')) (hx:RV m x rx) (hl:RO m l l') (hh:RO m h h') (hm:RO m mx mx') (hR:Rel m L0 H w) (hf:∀b,H.length≤b→b<H'.length→m b=none) :
  cW P (do pure (.value (←Instr.sliceAt t rx l' h' mx'))) L0 lo m H w v H':=by
 unfold DP at hs
 split at hs
 ·rename_i n c
  split at hs
  ·rename_i h0
   obtain⟨rfl,rfl⟩:=h0
   cases hx
   split at hs
   ·cases hs
   ·rename_i M hM
    split at hs
    ·cases hs
    ·rename_i hb hhb
     split at hs
     ·cases hs
     ·rename_i lb GG
      cases hs
      have key:∃k1 k2 k3,(Instr.sliceBounds true 0 0 l' h' mx').run P w = .ok (k1,k2,k3) w∧k1=0∧k2=0∧k3=0:=by
       rcases pN (P:=P) hM hm with⟨rfl,rfl,e1⟩ | ⟨_,r1,rfl,rfl,q1,e1⟩<;>rcases pN (P:=P) hhb hh with⟨_,rfl,e2⟩ | ⟨_,r2,_,rfl,q2,e2⟩<;>rcases pN (P:=P) GG hl with⟨_,rfl,e3⟩ | ⟨_,r3,_,rfl,q3,e3⟩
       ·cases e1;cases e2;cases e3
        exact⟨0,0,0,rfl,rfl,rfl,rfl⟩
       ·cases e1;cases e2
        exact⟨lb,0,0,by simp[Instr.sliceBounds,e3 0 (Nat.le_refl _)],by omega,rfl,rfl⟩
       ·cases e1;cases e3
        exact⟨0,hb,0,by simp[Instr.sliceBounds,e2 0 (Nat.le_refl _)],rfl,by omega,rfl⟩
       ·cases e1
        exact⟨lb,hb,0,by simp[Instr.sliceBounds,e2 0 (Nat.le_refl _),e3 hb (Nat.le_refl _)],by omega,by omega,rfl⟩
       ·cases e2
       ·cases e2
       ·cases e3
        exact⟨0,hb,M,by simp[Instr.sliceBounds,e1 0 (Nat.le_refl _),e2 M (Nat.le_refl _)],rfl,by omega,by omega⟩
       ·exact⟨lb,hb,M,by simp[Instr.sliceBounds,e1 0 (Nat.le_refl _),e2 M (Nat.le_refl _),e3 hb (Nat.le_refl _)],by omega,by omega,by omega⟩
      obtain⟨k1,k2,k3,hk,rfl,rfl,rfl⟩:=key
      exact cW.value (QK hu hi hk) (by simpa using RV.PG) hR (Trans.refl lo m H w)
  ·cases hs
 ·rename_i b o n c
  cases hx with
  |
   slice _ _ _ _ lc ra rc V7 hnc hcr hxp ha =>
   split at hs
   ·rename_i cells es p XU
    obtain⟨g1,g2,g3,g4⟩:=hR.row b lc cells es p V7 XU
    split at hs
    ·rename_i PQ
     subst PQ
     split at hs
     ·cases hs
     ·rename_i M hM
      split at hs
      ·cases hs
      ·rename_i hb hhb
       split at hs
       ·cases hs
       ·rename_i lb GG
        have key:∃k3,(Instr.sliceBounds true n rc l' h' mx').run P w = .ok (lb,hb,k3) w∧lb≤hb∧hb≤M∧M≤c∧((mx=none∧k3=rc∧M=c)∨(mx.isSome=true∧k3=M)):=by
         rcases pN (P:=P) hM hm with⟨rfl,rfl,e1⟩ | ⟨_,r1,rfl,rfl,q1,e1⟩<;>rcases pN (P:=P) hhb hh with⟨_,rfl,e2⟩ | ⟨_,r2,_,rfl,q2,e2⟩<;>rcases pN (P:=P) GG hl with⟨_,rfl,e3⟩ | ⟨_,r3,_,rfl,q3,e3⟩
         ·cases e1;cases e2;cases e3
          exact⟨rc,rfl,Nat.zero_le _,hnc,Nat.le_refl _,.inl ⟨rfl,rfl,rfl⟩⟩
         ·cases e1;cases e2
          exact⟨rc,by simp[Instr.sliceBounds,e3 n (Nat.le_refl _)],q3,hnc,Nat.le_refl _,.inl ⟨rfl,rfl,rfl⟩⟩
         ·cases e1;cases e3
          exact⟨rc,by simp[Instr.sliceBounds,e2 rc hcr],Nat.zero_le _,q2,Nat.le_refl _,.inl ⟨rfl,rfl,rfl⟩⟩
         ·cases e1
          exact⟨rc,by simp[Instr.sliceBounds,e2 rc hcr,e3 hb (Nat.le_refl _)],q3,q2,Nat.le_refl _,.inl ⟨rfl,rfl,rfl⟩⟩
         ·cases e2
         ·cases e2
         ·cases e3
          exact⟨M,by simp[Instr.sliceBounds,e1 rc hcr,e2 M (Nat.le_refl _)],Nat.zero_le _,q2,q1,.inr ⟨rfl,rfl⟩⟩
         ·exact⟨M,by simp[Instr.sliceBounds,e1 rc hcr,e2 M (Nat.le_refl _),e3 hb (Nat.le_refl _)],q3,q2,q1,.inr ⟨rfl,rfl⟩⟩
        obtain⟨k3,hk,hlh,hhM,hMc,N3⟩:=key
        have qG:=QK (a:=some ra) hu hi hk
        have place:k3-lb=0∨((if k3=lb then some ra else (some ra).map (·.add (lb*i.size)))=some (⟨lc.rb,lc.base+(o+lb*i.size),none⟩:Addr)∧lc.base+(o+lb*i.size)+(k3-lb)*lc.gC≤lc.Sq):=by
         by_cases hz:k3-lb=0
         ·exact .inl hz
         ·right
          have hk3:k3≤rc:=by rcases N3 with⟨_,rfl,_⟩ | ⟨_,rfl⟩<;>omega
          rcases ha with ha | ⟨rfl,ha⟩
          ·omega
          ·rw[if_neg (by omega)]
           refine⟨by simp[Addr.add_lit,Nat.add_assoc],?_⟩
           rw[g1] at ha ⊢
           have e1:(k3-lb)*i.size=k3*i.size-lb*i.size:=Nat.sub_mul _ _ _
           have e2:lb*i.size≤k3*i.size:=Nat.mul_le_mul_right _ (by omega)
           have e3:k3*i.size≤rc*i.size:=Nat.mul_le_mul_right _ hk3
           omega
        obtain⟨ra',axM⟩:∃ra',(if k3=lb then some ra else (some ra).map (·.add (lb*i.size)))=some ra':=by split<;>exact⟨_,rfl⟩
        rw[axM] at qG
        have aqA:k3-lb=0∨(ra'=⟨lc.rb,lc.base+(o+lb*i.size),none⟩∧lc.base+(o+lb*i.size)+(k3-lb)*lc.gC≤lc.Sq):=by
         rcases place with hp | ⟨hp1,MH⟩
         ·exact .inl hp
         ·rw[axM] at hp1
          exact .inr ⟨by injection hp1,MH⟩
        split at hs
        ·rename_i aA2
         cases hs
         obtain⟨awT,hMl⟩:=aA2
         rcases N3 with⟨rfl,_⟩ | ⟨_,rfl⟩
         ·cases awT
         ·have hA:=ZN hR (hf H.length (Nat.le_refl _) (by simp)) V7 i.size
          refine cW.value (rv := .slice (some ra') 0 0) (by rw[qG];congr 2<;>omega) ?_ hA.1 (hA.2 lo)
          exact .slice _ 0 0 0 _ _ 0 (cD m _ _) (Nat.le_refl _) (Nat.le_refl _) (fun _=>rfl) (.inl rfl)
        ·cases hs
         refine cW.value qG ?_ hR (Trans.refl lo m H w)
         refine .slice b _ _ _ lc _ _ V7 (by omega) ?_ ?_ aqA
         ·rcases N3 with⟨_,rfl,rfl⟩ | ⟨_,rfl⟩<;>omega
         ·intro ho
          have:=hxp ho
          rcases N3 with⟨_,rfl,rfl⟩ | ⟨_,rfl⟩<;>omega
    ·cases hs
   ·cases hs
 ·cases hs
end
end Go.PM
namespace Go.PM
section
variable {P:Program} {m:dR} {L0:Nat} {H:aF} {w:World}
theorem Wu {t:TypeId} {i:TypeInfo} {lo b o:Nat} {v r rp:Value} {H':aF} (hi:P.info? t=some i) (hp:RV m (.pointer (some ⟨b,o,none⟩)) rp) (hv:RV m v r) (hs:(aU v).length=i.size)
  (hw:H.write lo b o (aU v)=some H') (hR:Rel m L0 H w) (dV:L0≤lo) :
  cW P (do Instr.storeAt t rp r;pure .skip) L0 lo m H w undef H':=by
 cases hp with
 |
  ptr _ _ l hm =>
  obtain⟨w',s1,s2,s3⟩:=FJ P hR dV hm hw hv.aU
  refine⟨undef,w',m,.inr ⟨?_,rfl⟩,RV.undef m,s2,s3⟩
  have Co:r.cells.size=i.size:=by rw[fQ,←hv.aU.1,hs]
  have h1:(Instr.storeAt t (.pointer (some ⟨l.rb,l.base+o,none⟩)) r).run P w = .ok () w':=by
   show (storeVar t ⟨l.rb,l.base+o,none⟩ r).run P w=_
   unfold storeVar
   simp only[Sem.run_bind,run_sizeOf t i hi,Result.andThen_ok,Co,ne_eq,not_true_eq_false,if_false,gO]
   exact s1
  rw[Sem.run_bind,h1]
  rfl
theorem Kz {pv rv:Value} {k:Nat} (h:tW pv=some k) (hr:RV m pv rv):Builtin.lenOf rv=pure k:=by
 unfold tW at h
 split at h
 ·cases h;cases hr<;>rfl
 ·cases h;cases hr;rfl
 ·cases h
theorem Dh (a b:Array Value) (xs:List Value) (h:a.toList=xs) (i:Nat) (hi:i<xs.length):(a++b).getD i undef=xs.getD i undef:=by
 subst h
 have:i<a.size:=by simpa using hi
 simp[Array.getD_eq_getD_getElem?,Array.getElem?_append_left this,List.getD_eq_getElem?_getD]
theorem aeW {t u ty:TypeId} {agg:Bool} {size bytes lo k:Nat} {z:List Value} {d:TypeDesc} {x y rx ry v:Value} {new:List Value} {H':aF} (ht:kX P t=some (agg,size,z,bytes)) (hu:P.underlying u=some d) (hd:Nh d=true)
  (hk:tW y=some k) (Ca:jY H size k y=some new) (tQ:fL lo size bytes x k new H=some (v,H')) (hx:RV m x rx) (hy:RV m y ry) (Za:size=z.length)
  (hR:Rel m L0 H w) (dV:L0≤lo) (hf:∀b,H.length≤b→b<H'.length→m b=none) :
  cW P (do pure (.value (←Builtin.append_ #[t,u] ty #[rx,ry]))) L0 lo m H w v H':=by
 obtain⟨e,Lz,SK⟩:=kJ ht
 obtain⟨i,de,zz,hi,_,JE,rfl,rfl,rfl,rfl⟩:=jP SK
 obtain⟨qV,h1,h2,h3⟩:=KJ Ca hk (Nat.le_refl _) hR hy
 have hl:=Kz hk hy
 have C2:1≤i.bytes:=by
  unfold fL at tQ
  split at tQ
  ·rename_i h;exact h.1
  ·cases tQ
 have hnl:new.length=k*i.size:=by
  unfold fL at tQ
  split at tQ
  ·rename_i h;exact h.2.2.2
  ·cases tQ
 obtain⟨rv,w',m',g1,g2,g3,g4⟩:=KO (P:=P) (s:=Builtin.append_ #[t,u] ty #[rx,ry]) (e:=e) tQ hR dV hx h1 hf
  (fun a n c w' IX DE DZ=>by
   subst IX
   exact Sy Lz hu hd hi hl (h3 w rfl) DE DZ)
  (fun IX hk0=>by
   subst IX
   subst hk0
   exact Vu Lz hu hd hi hl (h3 w rfl))
  (fun base n c D0 IX hfo jT hg hb=>by
   subst IX
   refine⟨grownCap w (n+k) c e,_,grownCap_ge w _ _ _,St Lz hu hd hi JE hl hfo (h3 w.drew rfl) hg C2 hb,?_,?_⟩
   ·have DV:=grownCap_ge w (n+k) c e
    have yX:qV.length=k*i.size:=by rw[←h1.1,hnl]
    simp only[Array.size_append,List.size_toArray,size_zeroCells,jT,yX]
    rw[←fQ] at Za
    rw[←Za,←Nat.add_mul,←Nat.add_mul]
    congr 1
    omega
   ·intro j hj
    exact Dh _ _ _ (by simp) j hj)
 exact cW.value g1 g2 g3 g4
section
variable {t u ty e:TypeId} {ku:IntKind} {i:TypeInfo} {zz:Value} {k:Nat}
theorem Is {k:Nat} (h:k≤140737488355328):IntKind.i64.wrap (k:Int)=(k:Int):=by rw[IntKind.wrap_i64];omega
theorem Po (ht:P.underlying t=some (.slice e)) (hu:P.underlying u=some (.int ku)) (hi:P.info? e=some i) (JE:i.zero=some zz) (hk:k≤140737488355328) (G2:k*i.bytes≤140737488355328)
  {a:Addr} {n c:Nat} {w':World} (DE:n+k≤c) (hz:k*i.size=0→Builtin.zeroCells zz.cells k = #[]) (DZ:(storeCells (a.add (n*i.size)) (Builtin.zeroCells zz.cells k).toList).run P w = .ok () w') :
  (Builtin.append_ #[t,u] ty #[.slice (some a) n c,.int .i64 k]).run P w = .ok (.slice (some a) (n+k) c) w':=by
 have h0:¬((k:Int)<0):=by omega
 have hb:¬(281474976710656<(k:Int)*(i.bytes:Int)):=by rw[←Int.natCast_mul];omega
 by_cases F1:k*i.size=0
 ·rw[hz F1] at DZ
  simp[Builtin.append_,run_underlying ht,run_underlying hu,run_sizeOf e i hi,asInt,asIntOf,Is hk,typeInfo,hi,h0,hb,DE,F1,DZ]
 ·simp[Builtin.append_,run_underlying ht,run_underlying hu,run_sizeOf e i hi,asInt,asIntOf,Is hk,typeInfo,hi,h0,hb,DE,F1,zeroValue,JE,DZ]
theorem Rx (ht:P.underlying t=some (.slice e)) (hu:P.underlying u=some (.int ku)) (hi:P.info? e=some i) :
  (Builtin.append_ #[t,u] ty #[.slice none 0 0,.int .i64 (0:Nat)]).run P w = .ok (.slice none 0 0) w:=by
 have hw:IntKind.i64.wrap 0=0:=rfl
 simp[Builtin.append_,run_underlying ht,run_underlying hu,run_sizeOf e i hi,asInt,asIntOf,hw,typeInfo,hi]
theorem Pl (ht:P.underlying t=some (.slice e)) (hu:P.underlying u=some (.int ku)) (hi:P.info? e=some i) (JE:i.zero=some zz) (hk:k≤140737488355328) (G2:k*i.bytes≤140737488355328)
  {base:Option Addr} {n c:Nat} {D0:List Value} (hfo:(Builtin.firstCells i.size n (.slice base n c)).run P w.drew = .ok D0.toArray w.drew) (hz:k*i.size=0→Builtin.zeroCells zz.cells k = #[])
  (hg:c<n+k) (C2:1≤i.bytes) (M4:(n+k)*i.bytes≤140737488355328) :
  (Builtin.append_ #[t,u] ty #[.slice base n c,.int .i64 k]).run P w = .ok (.slice (some ⟨w.heap.size,0,none⟩) (n+k) (grownCap w (n+k) c e))
   (w.drew.alloc (.cells (D0.toArray++Builtin.zeroCells zz.cells k++Builtin.zeroCells zz.cells (grownCap w (n+k) c e-(n+k))) e)):=by
 have sJ:=growslice_fits (bytes:=i.bytes) hg M4
 have h0:¬((k:Int)<0):=by omega
 have hb:¬(281474976710656<(k:Int)*(i.bytes:Int)):=by rw[←Int.natCast_mul];omega
 have h1:¬(n+k≤c):=by omega
 have h2:¬(281474976710656<Builtin.nextslicecap (n+k) c*i.bytes):=by omega
 have h4:n+k≤140737488355328:=Nat.le_trans (Nat.le_mul_of_pos_right _ C2) M4
 have h3:¬(9223372036854775807<(n:Int)+(k:Int)):=by omega
 by_cases F1:k*i.size=0
 ·have e0:=hz F1
  simp[Builtin.append_,run_underlying ht,run_underlying hu,run_sizeOf e i hi,asInt,asIntOf,Is hk,typeInfo,hi,h0,hb,h1,h2,h3,e0,zeroValue,JE,Question.forced,hfo,newRow,grownCap]
 ·simp[Builtin.append_,run_underlying ht,run_underlying hu,run_sizeOf e i hi,asInt,asIntOf,Is hk,typeInfo,hi,h0,hb,h1,h2,h3,F1,zeroValue,JE,Question.forced,hfo,newRow,grownCap]
end
theorem ZP {t u ty:TypeId} {agg:Bool} {size bytes lo:Nat} {z:List Value} {ku:IntKind} {n:Int} {x rx v:Value} {H':aF} (ht:kX P t=some (agg,size,z,bytes)) (hu:P.underlying u=some (.int ku))
  (hn:0≤n∧n*bytes≤140737488355328) (tQ:fL lo z.length bytes x n.toNat (dF n.toNat z) H=some (v,H')) (hx:RV m x rx) (Za:size=z.length) (JO:z.all gM=true) (VA:z.all lW=true) (F1:1≤z.length)
  (hR:Rel m L0 H w) (dV:L0≤lo) (hf:∀b,H.length≤b→b<H'.length→m b=none) :
  cW P (do pure (.value (←Builtin.append_ #[t,u] ty #[rx,.int .i64 n]))) L0 lo m H w v H':=by
 obtain⟨e,Lz,SK⟩:=kJ ht
 obtain⟨i,de,zz,hi,_,JE,rfl,rfl,rfl,rfl⟩:=jP SK
 obtain⟨k,rfl⟩:=Int.eq_ofNat_of_zero_le hn.1
 simp only[Int.toNat_natCast] at tQ
 have C2:1≤i.bytes:=by
  unfold fL at tQ
  split at tQ
  ·rename_i h;exact h.1
  ·cases tQ
 have G2:k*i.bytes≤140737488355328:=by have:=hn.2;omega
 have hk:k≤140737488355328:=Nat.le_trans (Nat.le_mul_of_pos_right _ C2) G2
 have Co:i.size=zz.cells.size:=by rw[Za,fQ]
 have abJ:1≤zz.cells.size:=by rw[fQ];exact F1
 have tS:(Builtin.zeroCells zz.cells k).toList=dF k (aU zz):=by rw[I4 _ _ abJ,gO]
 have avS:k*i.size=0→Builtin.zeroCells zz.cells k = #[]:=by
  intro h0
  apply Array.ext'
  rw[tS]
  exact List.eq_nil_of_length_eq_zero (by rw[wI,←Za];exact h0)
 obtain⟨rv,w',m',g1,g2,g3,g4⟩:=KO (P:=P) (s:=Builtin.append_ #[t,u] ty #[rx,.int .i64 k]) (e:=e) (qV:=dF k (aU zz)) tQ hR dV hx (yF k VA F1) hf
  (fun a n c w' IX DE DZ=>by
   subst IX
   exact Po Lz hu hi JE hk G2 DE avS (by rw[tS,Za];exact DZ))
  (fun IX hk0=>by
   subst IX
   subst hk0
   exact Rx Lz hu hi)
  (fun base n c D0 IX hfo jT hg hb=>by
   subst IX
   refine⟨grownCap w (n+k) c e,_,grownCap_ge w _ _ _,Pl Lz hu hi JE hk G2 (by rw[Za];exact hfo) avS hg C2 hb,?_,?_⟩
   ·have DV:=grownCap_ge w (n+k) c e
    simp only[Array.size_append,List.size_toArray,size_zeroCells,jT,fQ]
    rw[←Nat.add_mul,←Nat.add_mul]
    congr 1
    omega
   ·intro j hj
    exact Dh _ _ _ (by simp[tS]) j hj)
 exact cW.value g1 g2 g3 g4
theorem abH {t ty:TypeId} {ts:List TypeId} {agg:Bool} {size bytes lo b o d c k:Nat} {z new:List Value} {y rx ry:Value} {H':aF} (ht:kX P t=some (agg,size,z,bytes))
  (hk:tW y=some k) (Ca:jY H size (Nat.min k d) y=some new) (hw:H.write lo b o new=some H') (hx:RV m (.slice (some ⟨b,o,none⟩) d c) rx) (hy:RV m y ry)
  (hR:Rel m L0 H w) (dV:L0≤lo) :
  cW P (do pure (.value (←Builtin.copy_ (t::ts).toArray ty #[rx,ry]))) L0 lo m H w (.int .i64 (Nat.min k d)) H':=by
 obtain⟨e,Lz,SK⟩:=kJ ht
 obtain⟨i,de,zz,hi,_,JE,rfl,rfl,rfl,rfl⟩:=jP SK
 obtain⟨qV,h1,h2,h3⟩:=KJ (P:=P) Ca hk (Nat.min_le_left _ _) hR hy
 have hl:=Kz hk hy
 cases hx with
 |
  slice _ _ _ _ l ra rc hm hn hc hxp ha =>
  rcases ha with ha | ⟨rfl,ha⟩
  ·have Eg:d=0:=by omega
   subst Eg
   have anJ:Nat.min k 0=0:=Nat.min_zero k
   rw[anJ] at Ca h3 ⊢
   have tS:new=[]:=by
    have:qV.length=new.length:=h1.1.symm
    unfold jY at Ca
    split at Ca
    ·obtain⟨_,_,_,_,_,_,hlen⟩:=Qs Ca
     exact List.eq_nil_of_length_eq_zero (by simpa using hlen)
    ·split at Ca
     ·cases Ca;rfl
     ·cases Ca
    ·split at Ca
     ·cases Ca;simp
     ·cases Ca
    ·cases Ca
   subst tS
   have hrn:qV=[]:=List.eq_nil_of_length_eq_zero h1.1.symm
   subst hrn
   have hHH:H'=H:=by
    obtain⟨cs,e',p',q1,q2,q3,q4,rfl⟩:=CT hw
    apply List.ext_getElem?
    intro j
    by_cases hj:b=j
    ·subst hj
     rw[List.getElem?_set_self (List.getElem?_eq_some_iff.1 q1).1,q1]
     simp[jS]
    ·rw[List.getElem?_set_ne hj]
   rw[hHH]
   refine cW.value (rv := .int .i64 0) (w':=w) ?_ (.int _ _) hR (Trans.refl lo m _ w)
   have hf0:=h3 w rfl
   simp[Builtin.copy_,run_underlying Lz,hl,run_sizeOf e i hi,goInt,hf0,storeCells]
  ·obtain⟨w',s1,s2,s3⟩:=FJ P hR dV hm hw h1
   refine cW.value (rv := .int .i64 (Nat.min k d)) ?_ (.int _ _) s2 s3
   have hf0:=h3 w rfl
   unfold Builtin.copy_
   simp only[List.getElem?_toArray,List.getElem?_cons_zero,List.getElem?_cons_succ,Sem.run_bind,run_underlying Lz,Result.andThen_ok,hl,Sem.run_pure,run_sizeOf e i hi]
   rw[hf0]
   simp only[Result.andThen_ok,s1,goInt]
theorem WD {t ty e:TypeId} {ts:List TypeId} {i:TypeInfo} {zz:Value} {lo b o n c:Nat} {rx:Value} {H':aF} (Lz:P.underlying t=some (.slice e)) (hi:P.info? e=some i) (JE:i.zero=some zz)
  (hn0:n≠0) (hw:H.write lo b o (dF n (aU zz))=some H') (hx:RV m (.slice (some ⟨b,o,none⟩) n c) rx) (VA:(aU zz).all lW=true) (F1:1≤(aU zz).length) (hR:Rel m L0 H w) (dV:L0≤lo) :
  cW P (do pure (.value (←Builtin.clear_ (t::ts).toArray ty #[rx]))) L0 lo m H w undef H':=by
 cases hx with
 |
  slice _ _ _ _ l ra rc hm hn hc hxp ha =>
  rcases ha with ha | ⟨rfl,ha⟩
  ·omega
  ·obtain⟨w',s1,s2,s3⟩:=FJ P hR dV hm hw (yF n VA F1)
   have tS:(Builtin.zeroCells zz.cells n).toList=dF n (aU zz):=by rw[I4 _ _ (by rw[fQ];exact F1),gO]
   refine cW.value (rv:=undef) ?_ (RV.undef m) s2 s3
   rw[←tS] at s1
   obtain⟨n',rfl⟩:∃n',n=n'+1:=⟨n-1,by omega⟩
   simp[Builtin.clear_,run_underlying Lz,zeroValue,typeInfo,hi,JE,s1,undef]
theorem KX {t ty e:TypeId} {ts:List TypeId} {lo c:Nat} {a:Option Addr} {rx:Value} (Lz:P.underlying t=some (.slice e)) (hx:RV m (.slice a 0 c) rx) (hR:Rel m L0 H w) :
  cW P (do pure (.value (←Builtin.clear_ (t::ts).toArray ty #[rx]))) L0 lo m H w undef H:=by
 refine cW.value (rv:=undef) (w':=w) ?_ (RV.undef m) hR (Trans.refl lo m _ w)
 cases hx<;>simp[Builtin.clear_,run_underlying Lz,undef]
end
end Go.PM
namespace Go.PM
section
variable {P:Program} {m:dR} {L0:Nat} {H:aF} {w:World}
theorem Eo {po:oQ} {ρ:Env} {v:Value} {H':aF} (h:(jM po ρ).map (Out.val · H)=some (.val v H')):jM po ρ=some v∧H'=H:=by
 cases hp:jM po ρ with
 | none=>rw[hp] at h;cases h
 | some u=>rw[hp] at h;cases h;exact⟨rfl,rfl⟩
def vH:oQ→Bool
 | .load .. | .sub .. | .b2s _ | .new _ | .box _ | .make .. | .lit .. | .call .. | .store .. | .app .. | .appz .. | .copy .. | .clear .. | .callv .. => false
 | _=>true
theorem Av {lo:Nat} {po:oQ} {ρ:Env} (h:vH po=true):pop lo po ρ H=(jM po ρ).map (.val · H):=by
 cases po<;>first | rfl | cases h
theorem U2 {pv rv:Value} {k:Nat} (size:Nat) (h:tW pv=some k) (hr:RV m pv rv):(Builtin.firstCells size 0 rv).run P w = .ok #[] w:=by
 unfold tW at h
 split at h
 ·cases hr
  ·rfl
  ·simp only[Builtin.firstCells,Nat.zero_mul]
   rfl
 ·cases hr
  simp[Builtin.firstCells]
 ·cases h
theorem Y5 {o:Oper} {po:oQ} {ρ:Env} {a:Act} {lo:Nat} {v:Value} {H':aF} (hp:rB P o.op=some po) (hv:pop lo po ρ H=some (.val v H')) (hr:∀x∈o.op.operands,RV m (ev ρ x) (a.eval x))
  (hR:Rel m L0 H w) (dV:L0≤lo) (hf:∀b,H.length≤b→b<H'.length→m b=none):cW P (execOp a.eval o) L0 lo m H w v H':=by
 by_cases jU:vH po=true
 ·rw[Av jU] at hv
  obtain⟨h1,rfl⟩:=Eo hv
  obtain⟨rv,h2,h3⟩:=agO hp h1 hr
  exact⟨rv,w,m,.inl (h3 w),h2,hR,Trans.refl lo m _ w⟩
 obtain⟨dst,op,type,pos,after,guard⟩:=o
 unfold rB at hp
 simp only at hp hr ⊢
 split at hp
 case isFalse=>cases hp
 cases op with
 | move x=>cases hp;exact absurd rfl jU
 | assign x=>cases hp;exact absurd rfl jU
 | pick c x y=>cases hp;exact absurd rfl jU
 |
  binOp op t x y yt =>
  unfold Cy at hp
  simp only at hp
  split at hp
  ·cases hp;exact absurd rfl jU
  ·cases hp;exact absurd rfl jU
  ·split at hp<;>first | (cases hp;done) | (cases hp;exact absurd rfl jU)
  ·split at hp<;>first | (cases hp;done) | (split at hp<;>first | (cases hp;done) | (cases hp;exact absurd rfl jU))
  ·split at hp<;>first | (cases hp;done) | (cases hp;exact absurd rfl jU)
  ·cases hp
 | unOp op t x=>cases hp;exact absurd rfl jU
 | extract x i=>cases hp;exact absurd rfl jU
 |
  convert s d x =>
  have hx:=hr x (by simp[Op.operands])
  simp only at hp
  split at hp
  ·cases hp;exact absurd rfl jU
  ·cases hp;exact absurd rfl jU
  ·rename_i e hs hd
   split at hp
   ·rename_i he
    cases hp
    simp only[pop] at hv
    split at hv
    ·rename_i n c hx0
     cases hv
     rw[hx0] at hx
     show cW P (do pure (.value (←convert s d (a.eval x)))) L0 lo m H w _ H
     generalize a.eval x=rx at hx ⊢
     cases hx
     refine cW.value (rv := .string ByteArray.empty) ?_ (.str _) hR (Trans.refl lo m _ w)
     simp[convert,run_underlying hs,run_underlying hd,run_underlying he,Conv.bytesToString]
    ·rename_i b o n c hx0
     split at hv
     ·rename_i cs O7
      cases hb:vF cs with
      | none=>rw[hb] at hv;cases hv
      |
       some bs =>
       rw[hb] at hv
       cases hv
       rw[hx0] at hx
       exact ajO hs hd he O7 hb hR hx
     ·cases hv
    ·cases hv
   ·cases hp
  ·cases hp
 |
  field t x i =>
  simp only at hp
  split at hp
  ·split at hp
   ·rename_i f hf'
    cases ht:nF P f.type with
    | none=>rw[ht] at hp;cases hp
    | some q=>rw[ht] at hp;cases hp;exact absurd rfl jU
   ·cases hp
  ·cases hp
 |
  build t parts =>
  simp only at hp
  split at hp
  ·split at hp
   ·split at hp
    ·cases hp;exact absurd rfl jU
    ·cases hp
   ·cases hp
  ·cases hp
 | nilCheck x=>cases hp;exact absurd rfl jU
 |
  fieldAddr t x i =>
  simp only at hp
  split at hp
  ·split at hp
   ·split at hp
    ·split at hp
     ·cases hp
     ·cases hp;exact absurd rfl jU
    ·cases hp
   ·cases hp
  ·cases hp
 |
  indexAddr t x i =>
  simp only at hp
  cases ht:kX P t with
  | none=>rw[ht] at hp;cases hp
  | some q=>rw[ht] at hp;cases hp;exact absurd rfl jU
 |
  index t x i =>
  simp only at hp
  split at hp
  ·cases hp;exact absurd rfl jU
  ·cases hp
 |
  slice t x iJ hi mx =>
  have hx:=hr x (by simp[Op.operands])
  simp only at hp
  split at hp
  ·split at hp
   ·cases hp;exact absurd rfl jU
   ·cases hp
  ·rename_i e hu
   cases ht:nF P e with
   | none=>rw[ht] at hp;cases hp
   |
    some q =>
    obtain⟨agg,size,z,nb⟩:=q
    rw[ht] at hp
    cases hp
    obtain⟨i,d,zz,nH,_,_,rfl,rfl,rfl,rfl⟩:=jP ht
    simp only[pop] at hv
    cases hs:DP i.size (ev ρ x) (iJ.map (ev ρ)) (hi.map (ev ρ)) (mx.map (ev ρ)) H with
    | none=>rw[hs] at hv;cases hv
    |
     some q =>
     obtain⟨u,H1⟩:=q
     rw[hs] at hv
     cases hv
     exact afL hu nH hs hx (RO.map fun y hy=>hr y (by simp[Op.operands,hy])) (RO.map fun y hy=>hr y (by simp[Op.operands,hy])) (RO.map fun y hy=>hr y (by simp[Op.operands,hy])) hR hf
  ·cases hp
 |
  makeFunc fn first gL =>
  cases fn with
  |
   func f =>
   simp only at hp
   split at hp
   ·cases hp;exact absurd rfl jU
   ·cases hp
  | _=>cases hp
 | makeInterface t x=>cases hp;exact absurd rfl jU
 | panic x=>cases hp;exact absurd rfl jU
 |
  load t p =>
  have hx:=hr p (by simp[Op.operands])
  simp only at hp
  cases ht:nF P t with
  | none=>rw[ht] at hp;cases hp
  |
   some q =>
   obtain⟨agg,size,z,nb⟩:=q
   rw[ht] at hp
   cases hp
   simp only[pop] at hv
   cases hl:oX agg size (ev ρ p) H with
   | none=>rw[hl] at hv;cases hv
   |
    some u =>
    rw[hl] at hv
    cases hv
    obtain⟨rv,h1,h2⟩:=QX ht hl hR hx
    exact cW.value h2 h1 hR (Trans.refl lo m _ w)
 |
  store t p x =>
  have hpp:=hr p (by simp[Op.operands])
  have hx:=hr x (by simp[Op.operands])
  simp only at hp
  cases ht:P.info? t with
  | none=>rw[ht] at hp;cases hp
  |
   some i =>
   rw[ht] at hp
   cases hp
   simp only[pop] at hv
   split at hv
   ·rename_i b o hpo
    split at hv
    ·rename_i hs
     cases hw:H.write lo b o (aU (ev ρ x)) with
     | none=>rw[hw] at hv;cases hv
     |
      some H1 =>
      rw[hw] at hv
      cases hv
      rw[hpo] at hpp
      exact Wu ht hpp hx hs hw hR dV
    ·cases hv
   ·cases hv
 |
  alloc t =>
  simp only at hp
  split at hp
  ·rename_i agg size z nb ht
   split at hp
   ·rename_i hz
    cases hp
    simp only[Bool.and_eq_true] at hz
    cases hv
    exact adV ht hz.1 hz.2 hR (hf _ (Nat.le_refl _) (by simp))
   ·cases hp
  ·cases hp
 |
  box t x =>
  have hx:=hr x (by simp[Op.operands])
  cases hp
  simp only[pop] at hv
  split at hv
  ·rename_i hs
   cases hv
   exact ahN hx hs hR (hf _ (Nat.le_refl _) (by simp))
  ·cases hv
 |
  makeSlice t l c =>
  have hl:=hr l (by simp[Op.operands])
  have hc:=hr c (by simp[Op.operands])
  simp only at hp
  split at hp
  ·rename_i agg size z nb ht
   split at hp
   ·rename_i hz
    cases hp
    simp only[Bool.and_eq_true,beq_iff_eq,decide_eq_true_eq] at hz
    obtain⟨⟨⟨z1,z2⟩,z3⟩,z4⟩:=hz
    simp only[pop] at hv
    split at hv
    ·rename_i l' c' Cp Vz
     split at hv
     ·rename_i hb
      cases hv
      rw[Cp] at hl
      rw[Vz] at hc
      show cW P (do pure (.value (←Instr.makeSlice t (a.eval l) (a.eval c)))) L0 lo m H w _ _
      generalize a.eval l=rl at hl ⊢
      generalize a.eval c=rc at hc ⊢
      cases hl
      cases hc
      exact aaM ht z1 z2 z3 z4 hb.1 hb.2.1 hb.2.2.1 hb.2.2.2 hR (hf _ (Nat.le_refl _) (by simp))
     ·cases hv
    ·cases hv
   ·cases hp
  ·cases hp
 |
  buildSlice t n parts =>
  simp only at hp
  split at hp
  ·rename_i agg size z nb ht
   split at hp
   ·rename_i hz
    cases hp
    simp only[Bool.and_eq_true,beq_iff_eq,decide_eq_true_eq] at hz
    obtain⟨⟨⟨⟨z1,z2⟩,z3⟩,z4⟩,z5⟩:=hz
    simp only[pop] at hv
    split at hv
    ·rename_i cs O7
     split at hv
     ·rename_i wZ
      cases hv
      have:=ajX (P:=P) (w:=w) (lo:=lo) (a:=a) ht z1 z2 z3 z4 z5 O7 wZ (fun p hpm=>hr p.2 (by simp only[Op.operands];simp;exact⟨p.1,by simpa using hpm⟩)) hR (hf _ (Nat.le_refl _) (by simp))
      rw[Array.toArray_toList] at this
      exact this
     ·cases hv
    ·cases hv
   ·cases hp
  ·cases hp
 |
  call c =>
  obtain⟨callee,args,ts⟩:=c
  cases callee with
  |
   builtin b =>
   have VG:∀x∈args,RV m (ev ρ x) (a.eval x):=fun x hx=>hr x (by simpa[Op.operands,Call.operands] using hx)
   simp only at hp
   unfold pV at hp
   split at hp
   ·split at hp<;>first | (cases hp;done) | (cases hp;exact absurd rfl jU)
   ·split at hp<;>first | (cases hp;done) | (cases hp;exact absurd rfl jU)
   ·cases hp;exact absurd rfl jU
   ·cases hp;exact absurd rfl jU
   ·rename_i x y t u D7 AF hts _
    have ea:args = #[x,y]:=Array.toList_inj.1 (by simpa using AF)
    subst ea
    have hx:=VG x (by simp)
    have hy:=VG y (by simp)
    have aB6:∃tr,ts=(t::u::tr).toArray:=⟨D7,Array.toList_inj.1 (by simpa using hts)⟩
    obtain⟨tr,rfl⟩:=aB6
    show cW P (do pure (.value (←Builtin.append_ (t::u::tr).toArray type ((#[x,y]:Array Operand).map a.eval)))) L0 lo m H w v H'
    rw[MM]
    have aAI:∀r1 r2,Builtin.append_ (t::u::tr).toArray type #[r1,r2]=Builtin.append_ #[t,u] type #[r1,r2]:=fun r1 r2=>by simp[Builtin.append_]
    rw[aAI]
    split at hp
    ·rename_i agg size zero bytes ku ht hu
     split at hp
     ·rename_i hz
      cases hp
      simp only[Bool.and_eq_true,beq_iff_eq,decide_eq_true_eq] at hz
      obtain⟨⟨⟨z1,z2⟩,z3⟩,z4⟩:=hz
      simp only[pop] at hv
      split at hv
      ·rename_i n hn
       split at hv
       ·rename_i hb
        cases tQ:fL lo zero.length bytes (ev ρ x) n.toNat (dF n.toNat zero) H with
        | none=>rw[tQ] at hv;cases hv
        |
         some q =>
         obtain⟨u',H1⟩:=q
         rw[tQ] at hv
         cases hv
         rw[hn] at hy
         generalize a.eval y=ry at hy ⊢
         cases hy
         exact ZP ht hu hb tQ hx z4 z1 z2 z3 hR dV hf
       ·cases hv
      ·cases hv
     ·cases hp
    ·rename_i agg size zero bytes d _ ht hu
     split at hp
     ·rename_i hd
      split at hp
      ·rename_i Za
       cases hp
       simp only[pop] at hv
       split at hv
       ·rename_i k hk
        split at hv
        ·rename_i new tS
         cases tQ:fL lo size bytes (ev ρ x) k new H with
         | none=>rw[tQ] at hv;cases hv
         |
          some q =>
          obtain⟨u',H1⟩:=q
          rw[tQ] at hv
          cases hv
          exact aeW ht hu hd hk tS tQ hx hy (by simpa using Za) hR dV hf
        ·cases hv
       ·cases hv
      ·cases hp
     ·cases hp
    ·cases hp
   ·rename_i x y t D7 AF hts _
    have ea:args = #[x,y]:=Array.toList_inj.1 (by simpa using AF)
    have et:ts=(t::D7).toArray:=Array.toList_inj.1 (by simpa using hts)
    subst ea;subst et
    have hx:=VG x (by simp)
    have hy:=VG y (by simp)
    show cW P (do pure (.value (←Builtin.copy_ (t::D7).toArray type ((#[x,y]:Array Operand).map a.eval)))) L0 lo m H w v H'
    rw[MM]
    split at hp
    ·rename_i agg size zero bytes ht
     cases hp
     simp only[pop] at hv
     split at hv
     ·rename_i n c k hx0 hk
      cases hv
      rw[hx0] at hx
      generalize a.eval x=rx at hx ⊢
      cases hx
      obtain⟨e,Lz,SK⟩:=kJ ht
      obtain⟨i,de,zz,hi,_,JE,_,_,_,_⟩:=jP SK
      refine cW.value (rv := .int .i64 0) (w':=w) ?_ (.int _ _) hR (Trans.refl lo m _ w)
      have hl:=Kz hk hy
      have hf0:=U2 (P:=P) (w:=w) i.size hk hy
      simp[Builtin.copy_,run_underlying Lz,hl,run_sizeOf e i hi,goInt,hf0]
     ·rename_i b o d c k hx0 hk
      split at hv
      ·rename_i new tS
       cases hw:H.write lo b o new with
       | none=>rw[hw] at hv;cases hv
       |
        some H1 =>
        rw[hw] at hv
        cases hv
        rw[hx0] at hx
        exact abH ht hk tS hw hx hy hR dV
      ·cases hv
     ·cases hv
    ·cases hp
   ·rename_i x t D7 AF hts _
    have ea:args = #[x]:=Array.toList_inj.1 (by simpa using AF)
    have et:ts=(t::D7).toArray:=Array.toList_inj.1 (by simpa using hts)
    subst ea;subst et
    have hx:=VG x (by simp)
    show cW P (do pure (.value (←Builtin.clear_ (t::D7).toArray type ((#[x]:Array Operand).map a.eval)))) L0 lo m H w v H'
    rw[RH]
    split at hp
    ·rename_i agg size zero bytes ht
     split at hp
     ·rename_i hz
      cases hp
      simp only[Bool.and_eq_true,beq_iff_eq,decide_eq_true_eq] at hz
      obtain⟨⟨⟨z1,z2⟩,z3⟩,z4⟩:=hz
      obtain⟨e,Lz,SK⟩:=kJ ht
      obtain⟨i,de,zz,hi,_,JE,rfl,rfl,rfl,rfl⟩:=jP SK
      simp only[pop] at hv
      split at hv
      ·rename_i n c hx0
       cases hv
       rw[hx0] at hx
       generalize a.eval x=rx at hx ⊢
       cases hx
       exact KX Lz .PG hR
      ·rename_i b o n c hx0
       rw[hx0] at hx
       split at hv
       ·rename_i hn0
        cases hv
        subst hn0
        exact KX Lz hx hR
       ·rename_i hn0
        cases hw:H.write lo b o (dF n (aU zz)) with
        | none=>rw[hw] at hv;cases hv
        |
         some H1 =>
         rw[hw] at hv
         cases hv
         exact WD Lz hi JE hn0 hw hx z2 z4 hR dV
      ·cases hv
     ·cases hp
    ·cases hp
   ·cases hp
  |
   value f =>
   cases f with
   | func g=>cases hp;cases hv
   |
    tmp t =>
    cases hp
    simp only[pop] at hv
    split at hv<;>cases hv
   | const c=>cases hp
   | global g=>cases hp
  | invoke r s=>cases hp
 | _=>cases hp
def N0 (P:Program) (f:Nat):Prop:=∃fn,P.funcs[f]? = some fn∧(fn.name == "runtime.NumGoroutine")=false∧fn.body.isNone=false
theorem H8 {f:Nat} {args:Array Value} (h:N0 P f):(callFunc f args).run P w = .ok (.enter f args) w:=by
 obtain⟨fn,h1,h2,h3⟩:=h
 unfold callFunc
 rw[Sem.run_bind,run_program,Result.andThen_ok,h1]
 simp[h2,h3]
theorem map_none {α β:Type} {o:Option α} {f:α→β} {x:β} (h:o.map f=some x) (hf:∀y,f y≠x):False:=by
 cases o with
 | none=>cases h
 | some y=>injection h with h;exact hf y h
theorem Zf {op:Op} {g:Nat} {as:List Operand} (h:rB P op=some (.call g as)):∃args ts,op = .call ⟨.value (.func g),args,ts⟩∧as=args.toList:=by
 unfold rB at h
 split at h
 case isFalse=>cases h
 cases op with
 |
  call c =>
  obtain⟨callee,args,ts⟩:=c
  cases callee with
  |
   builtin b =>
   exfalso
   simp only[pV] at h
   repeat' (split at h)
   all_goals cases h
  |
   value f =>
   cases f with
   | func g'=>cases h;exact⟨args,ts,rfl,rfl⟩
   | _=>cases h
  | invoke r s=>cases h
 |
  _ =>
  exfalso
  dsimp only at h
  try unfold Cy at h
  repeat' (split at h)
  all_goals first
   | contradiction
   | (cases h;done)
   | exact map_none h (by intro y h;cases h)
theorem Xx {op:Op} {fv:Operand} {as:List Operand} (h:rB P op=some (.callv fv as)):∃args ts,op = .call ⟨.value fv,args,ts⟩∧as=args.toList:=by
 unfold rB at h
 split at h
 case isFalse=>cases h
 cases op with
 |
  call c =>
  obtain⟨callee,args,ts⟩:=c
  cases callee with
  |
   builtin b =>
   exfalso
   simp only[pV] at h
   repeat' (split at h)
   all_goals cases h
  |
   value f =>
   cases f with
   | tmp g'=>cases h;exact⟨args,ts,rfl,rfl⟩
   | _=>cases h
  | invoke r s=>cases h
 |
  _ =>
  exfalso
  dsimp only at h
  try unfold Cy at h
  repeat' (split at h)
  all_goals first
   | contradiction
   | (cases h;done)
   | exact map_none h (by intro y h;cases h)
theorem uM {po:oQ} {ρ:Env} {lo f:Nat} {args:List Value} (hv:pop lo po ρ H=some (.call f args)):(∃g as,po = .call g as)∨(∃g as,po = .callv g as):=by
 by_cases jU:vH po=true
 ·rw[Av jU] at hv
  cases hpp:jM po ρ with
  | none=>rw[hpp] at hv;cases hv
  | some u=>rw[hpp] at hv;cases hv
 cases po<;>first | exact absurd rfl jU | exact .inl ⟨_,_,rfl⟩ | exact .inr ⟨_,_,rfl⟩ | skip
 all_goals
  exfalso
  simp only[pop] at hv
  repeat' (split at hv)
  all_goals first
   | (cases hv;done)
   | (revert hv;generalize aF.write _ _ _ _ _=q;cases q<;>intro hv<;>cases hv)
   | (revert hv;generalize oX _ _ _ _=q;cases q<;>intro hv<;>cases hv)
   | (revert hv;generalize DP _ _ _ _ _ _=q;cases q<;>intro hv<;>cases hv)
   | (revert hv;generalize fL _ _ _ _ _ _ _=q;cases q<;>intro hv<;>cases hv)
   | (revert hv;generalize vF _=q;cases q<;>intro hv<;>cases hv)
theorem ZO {o:Oper} {po:oQ} {ρ:Env} {a:Act} {lo f:Nat} {args:List Value} (hp:rB P o.op=some po) (hv:pop lo po ρ H=some (.call f args)) (hr:∀x∈o.op.operands,RV m (ev ρ x) (a.eval x)) :
  ∃iG,RL m args iG∧(N0 P f→∀w,(execOp a.eval o).run P w = .ok (.enter f iG.toArray) w):=by
 have key:=uM hv
 obtain⟨dst,op,type,pos,after,guard⟩:=o
 simp only at hp hr ⊢
 rcases key with⟨g,as,rfl⟩ | ⟨g,as,rfl⟩
 ·obtain⟨Dn,ts,rfl,rfl⟩:=Zf hp
  cases hv
  refine⟨Dn.toList.map a.eval,RL.map fun x hx=>hr x (by simp[Op.operands,Call.operands];right;simpa using hx),fun hc w => ?_⟩
  have e1:(Dn.toList.map a.eval).toArray=Dn.map a.eval:=Array.toList_inj.1 (by rw[Array.toList_map])
  rw[e1]
  have e2:execOp a.eval ⟨dst,.call ⟨.value (.func f),Dn,ts⟩,type,pos,after,guard⟩=callFunc f ((#[]++Dn.map a.eval) ++ #[]):=rfl
  rw[e2,H8 hc]
  simp
 ·obtain⟨Dn,ts,rfl,rfl⟩:=Xx hp
  have hg:=hr g (by simp[Op.operands,Call.operands])
  simp only[pop] at hv
  split at hv
  ·rename_i f' first gL hfv
   cases hv
   rw[hfv] at hg
   generalize hrg:a.eval g=rg at hg
   cases hg with
   |
    func fn f1 g1 c1 d1 h1 h2 h3 h4 =>
    refine⟨g1.toList++Dn.toList.map a.eval++d1.toList,((RL.arr h1 h2).append (RL.map fun x hx=>hr x (by simp[Op.operands,Call.operands];right;simpa using hx))).append (RL.arr h3 h4),fun hc w => ?_⟩
    have e1:(g1.toList++Dn.toList.map a.eval++d1.toList).toArray=(g1++Dn.map a.eval)++d1:=by
     apply Array.ext'
     simp
    rw[e1]
    have e2:(execOp a.eval ⟨dst,.call ⟨.value g,Dn,ts⟩,type,pos,after,guard⟩)=(do let d ←Deferred.ofValue (a.eval g) (Dn.map a.eval);invoke d.target d.args):=rfl
    rw[e2,hrg]
    show (callFunc f ((g1++Dn.map a.eval)++d1)).run P w=_
    exact H8 hc
  ·cases hv
end
end Go.PM
namespace Go.PM
section
variable {H:aF}
theorem Zz {lo:Nat} {H':aF} (h:Ext H.length H H'):Ext lo H H' :=
 ⟨h.len,fun b _ hl=>h.low b hl hl,h.liv⟩
theorem K8 {lo size bytes add:Nat} {x v:Value} {new:List Value} {H':aF} (h:fL lo size bytes x add new H=some (v,H')):Ext lo H H':=by
 unfold fL at h
 split at h
 case isFalse=>cases h
 split at h
 ·split at h
  ·split at h
   ·cases h;exact Ext.refl _ _
   ·split at h
    ·cases h;exact qK _ _ _
    ·cases h
  ·cases h
 ·split at h
  ·split at h
   ·split at h
    ·split at h
     ·cases h;exact Ext.refl _ _
     ·cases hw:aF.write H lo _ _ new with
      | none=>rw[hw] at h;cases h
      | some H1=>rw[hw] at h;cases h;exact Fv hw
    ·split at h
     ·split at h
      ·split at h
       ·rename_i GG
        cases h
        exact Z0 GG
       ·cases h
      ·cases h;exact qK _ _ _
     ·cases h
   ·cases h
  ·cases h
 ·cases h
theorem adQ {lo size:Nat} {x v:Value} {l h' mx:Option Value} {H':aF} (h:DP size x l h' mx H=some (v,H')):Ext lo H H':=by
 unfold DP at h
 repeat' (split at h)
 all_goals first
  | (cases h;done)
  | (cases h;exact Ext.refl _ _)
  | (cases h;exact qK _ _ _)
theorem Yz {lo:Nat} {po:oQ} {ρ:Env} {v:Value} {H':aF} (h:pop lo po ρ H=some (.val v H')):Ext lo H H':=by
 by_cases jU:vH po=true
 ·rw[Av jU] at h
  obtain⟨_,rfl⟩:=Eo h
  exact Ext.refl _ _
 cases po<;>first | exact absurd rfl jU | skip
 case load agg size p =>
  simp only[pop] at h
  cases hl:oX agg size (ev ρ p) H with
  | none=>rw[hl] at h;cases h
  | some u=>rw[hl] at h;cases h;exact Ext.refl _ _
 case sub size x l hh mx =>
  simp only[pop] at h
  cases hs:DP size (ev ρ x) (l.map (ev ρ)) (hh.map (ev ρ)) (mx.map (ev ρ)) H with
  | none=>rw[hs] at h;cases h
  |
   some q =>
   obtain⟨u,H1⟩:=q
   rw[hs] at h;cases h;exact adQ hs
 case b2s x =>
  simp only[pop] at h
  split at h
  ·cases h;exact Ext.refl _ _
  ·split at h
   ·rename_i cs _
    cases hb:vF cs with
    | none=>rw[hb] at h;cases h
    | some bs=>rw[hb] at h;cases h;exact Ext.refl _ _
   ·cases h
  ·cases h
 case new z=>cases h;exact qK _ _ _
 case box x =>
  simp only[pop] at h
  split at h
  ·cases h;exact qK _ _ _
  ·cases h
 case make z b l c =>
  simp only[pop] at h
  split at h
  ·split at h
   ·cases h;exact qK _ _ _
   ·cases h
  ·cases h
 case lit z n parts =>
  simp only[pop] at h
  split at h
  ·split at h
   ·cases h;exact qK _ _ _
   ·cases h
  ·cases h
 case call f args=>cases h
 case callv f args =>
  simp only[pop] at h
  split at h<;>cases h
 case store size p x =>
  simp only[pop] at h
  split at h
  ·rename_i b o _
   split at h
   ·cases hw:H.write lo b o (aU (ev ρ x)) with
    | none=>rw[hw] at h;cases h
    | some H1=>rw[hw] at h;cases h;exact Fv hw
   ·cases h
  ·cases h
 case app size bytes x y =>
  simp only[pop] at h
  split at h
  ·rename_i n _
   split at h
   ·rename_i new _
    cases ha:fL lo size bytes (ev ρ x) n new H with
    | none=>rw[ha] at h;cases h
    |
     some q =>
     obtain⟨u,H1⟩:=q
     rw[ha] at h;cases h;exact K8 ha
   ·cases h
  ·cases h
 case appz z bytes x n =>
  simp only[pop] at h
  split at h
  ·rename_i k _
   split at h
   ·cases ha:fL lo z.length bytes (ev ρ x) k.toNat (dF k.toNat z) H with
    | none=>rw[ha] at h;cases h
    |
     some q =>
     obtain⟨u,H1⟩:=q
     rw[ha] at h;cases h;exact K8 ha
   ·cases h
  ·cases h
 case copy size x y =>
  simp only[pop] at h
  split at h
  ·cases h;exact Ext.refl _ _
  ·rename_i b o d _ s _ _
   split at h
   ·rename_i new _
    cases hw:H.write lo b o new with
    | none=>rw[hw] at h;cases h
    | some H1=>rw[hw] at h;cases h;exact Fv hw
   ·cases h
  ·cases h
 case clear z x =>
  simp only[pop] at h
  split at h
  ·cases h;exact Ext.refl _ _
  ·rename_i b o n _ _
   split at h
   ·cases h;exact Ext.refl _ _
   ·cases hw:H.write lo b o (dF n z) with
    | none=>rw[hw] at h;cases h
    | some H1=>rw[hw] at h;cases h;exact Fv hw
  ·cases h
def tD (call:gQ):Prop:=∀f args lo H v H',call f args lo H=some (v,H')→Ext lo H H'
theorem MW {call:gQ} (hc:tD call) {lo:Nat} {i:PI} {ρ:Env} {v:Value} {H':aF} (h:AM call lo i ρ H=some (v,H')):Ext lo H H':=by
 unfold AM at h
 split at h
 ·cases h
 ·cases h;exact Ext.refl _ _
 ·split at h
  ·split at h
   ·rename_i hp
    cases h
    exact Yz hp
   ·rename_i f args _
    have:=hc _ _ _ _ _ _ h
    split at this
    ·exact Zz this
    ·exact this
   ·cases h
  ·cases h
theorem Ae {call:gQ} {lo:Nat} {i:PI} {ρ bI:Env} {H':aF} (h:Ah call lo i ρ H=some (bI,H')):∃v,AM call lo i ρ H=some (v,H')∧bI=put ρ i.dst v:=by
 unfold Ah at h
 split at h
 ·rename_i v H1 hv
  cases h
  exact⟨v,hv,rfl⟩
 ·cases h
theorem JL {call:gQ} (hc:tD call) {lo:Nat} {i:PI} {ρ bI:Env} {H':aF} (h:Ah call lo i ρ H=some (bI,H')):Ext lo H H':=by
 obtain⟨v,h1,_⟩:=Ae h
 exact MW hc h1
theorem M3 {call:gQ} (hc:tD call) {lo:Nat}:∀(is:List PI) {ρ bI:Env} {H H':aF},iQ call lo is ρ H=some (bI,H')→Ext lo H H'
 | [],ρ,bI,H,H',h=>by cases h;exact Ext.refl _ _
 |
  i::is,ρ,bI,H,H',h=>by
  rw[iQ] at h
  split at h
  ·rename_i h1
   exact(JL hc h1).trans (M3 hc is h)
  ·cases h
theorem Ko {lo:Nat} {body:Env→aF→Option (Ex×Env×aF)} (hb:∀ρ H x bI H',body ρ H=some (x,bI,H')→Ext lo H H'):∀(n:Nat) {ρ bI:Env} {H H':aF} {x:Ex},Ad body n ρ H=some (x,bI,H')→Ext lo H H'
 | 0,_,_,_,_,_,h=>by cases h
 |
  n+1,ρ,bI,H,H',x,h=>by
  rw[Ad] at h
  split at h
  ·rename_i h1
   exact(hb _ _ _ _ _ h1).trans (Ko hb n h)
  ·exact hb _ _ _ _ _ h
theorem kO {call:gQ} (hc:tD call) {lo n:Nat}:∀(c:aD) {ρ bI:Env} {H H':aF} {x:Ex},dW call lo n c ρ H=some (x,bI,H')→Ext lo H H'
 | .skip,_,_,_,_,_,h=>by cases h;exact Ext.refl _ _
 |
  .dE ops,ρ,bI,H,H',x,h=>by
  rw[dW] at h
  cases hp:iQ call lo ops ρ H with
  | none=>rw[hp] at h;cases h
  |
   some q =>
   obtain⟨yY,H1⟩:=q
   rw[hp] at h;cases h
   exact M3 hc ops hp
 |
  .seq a b,ρ,bI,H,H',x,h=>by
  rw[dW] at h
  split at h
  ·rename_i h1
   exact(kO hc a h1).trans (kO hc b h)
  ·exact kO hc a h
 |
  .cond c a b,ρ,bI,H,H',x,h=>by
  rw[dW] at h
  split at h
  ·split at h
   ·exact kO hc a h
   ·exact kO hc b h
  ·cases h
 |
  .block id a,ρ,bI,H,H',x,h=>by
  rw[dW] at h
  split at h
  ·rename_i h1
   split at h<;>(cases h;exact kO hc a h1)
  ·exact kO hc a h
 |
  .loop a,ρ,bI,H,H',x,h=>by
  rw[dW] at h
  exact Ko (fun ρ H x bI H' h=>kO hc a h) n h
 | .exit id,_,_,_,_,_,h=>by cases h;exact Ext.refl _ _
 | .ret,_,_,_,_,_,h=>by cases h;exact Ext.refl _ _
theorem Fp (E:BL) (T:Tab):∀n,tD (nI E T n)
 | 0=>fun _ _ _ _ _ _ h=>by cases h
 |
  n+1=>fun f args lo H v H' h=>by
  rw[nI] at h
  split at h
  ·rename_i p _
   cases hp:p args H with
   | none=>rw[hp] at h;cases h
   | some u=>rw[hp] at h;cases h;exact Ext.refl _ _
  ·split at h
   ·cases h
   ·rename_i pf _
    split at h
    ·split at h
     ·rename_i yY H1 h1
      cases hr:rS pf.res yY H1 with
      | none=>rw[hr] at h;cases h
      | some u=>rw[hr] at h;cases h;exact kO (Fp E T n) _ h1
     ·rename_i yY H1 h1
      cases hr:rS pf.res yY H1 with
      | none=>rw[hr] at h;cases h
      | some u=>rw[hr] at h;cases h;exact kO (Fp E T n) _ h1
     ·cases h
    ·cases h
end
end Go.PM
namespace Go.PM
theorem Fi {α β:Type} {f:α→Option β}:∀ {l:List α} {ys:List β},l.mapM f=some ys→ys.length=l.length∧∀i (h:i<l.length),f l[i]=ys[i]?
 |
  [],ys,h=>by
  simp at h
  subst h
  exact⟨rfl,fun i h=>absurd h (by simp)⟩
 |
  x::l,ys,h=>by
  simp only[List.mapM_cons,Option.pure_def,Option.bind_eq_bind] at h
  cases h1:f x with
  | none=>rw[h1] at h;cases h
  |
   some y =>
   rw[h1] at h
   cases h2:l.mapM f with
   | none=>rw[h2] at h;cases h
   |
    some zs =>
    rw[h2] at h
    cases h
    obtain⟨k1,k2⟩:=Fi h2
    refine⟨by simp[k1],fun i hi => ?_⟩
    cases i with
    | zero=>simpa using h1
    | succ i=>simpa using k2 i (by simpa using hi)
theorem T0 {α β:Type} {f:α→Option β} {l:List α} {ys:List β} (h:l.mapM f=some ys) {i:Nat} {x:α} (hx:l[i]? = some x):∃y,ys[i]? = some y∧f x=some y:=by
 obtain⟨h1,h2⟩:=Fi h
 obtain⟨bH,rfl⟩:=List.getElem?_eq_some_iff.1 hx
 have NT:i<ys.length:=by omega
 refine⟨ys[i],List.getElem?_eq_getElem NT,?_⟩
 rw[h2 i bH,List.getElem?_eq_getElem NT]
def FV (E:BL) (ops:List Oper) (M:List Nat) (i j:Nat) (pi pj:oQ) (l:List (Operand×Operand)):Prop :=
 match gN E pi,gN E pj with
 | .look,.write | .write,.look=>ahead M i j=true∨∃a b,Gr pi=some a∧Gr pj=some b∧FI ops i j a=true∧(a,b)∈l
 | .write,.write | .quiet,.write | .write,.quiet=>ahead M i j=true
 | _,_=>True
theorem FV.mono {E:BL} {ops:List Oper} {M:List Nat} {i j:Nat} {pi pj:oQ} {l l':List (Operand×Operand)} (h:FV E ops M i j pi pj l) (hl:∀x∈l,x∈l'):FV E ops M i j pi pj l':=by
 unfold FV at h ⊢
 split at h
 all_goals first
  | exact h
  | exact h.imp id fun⟨a,b,h1,h2,h3,h4⟩=>⟨a,b,h1,h2,h3,hl _ h4⟩
theorem O1 {E:BL} {ops:List Oper} {ps:List oQ} {M:List Nat} {j:Nat} {pj:oQ} {l:List (Operand×Operand)} (h:conflicts E ops ps M j pj=some l) :
  ∀i,i<j→∀pi,ps[i]? = some pi→FV E ops M i j pi pj l:=by
 have key:∀(is:List Nat) (l:List (Operand×Operand)),(is.foldr (fun i acc=>match acc,ps[i]? with
  |
   some l,some pi =>
   match gN E pi,gN E pj with
   |
    .look,.write | .write,.look =>
    if ahead M i j then some l
    else match Gr pi,Gr pj with
     | some a,some b=>if FI ops i j a then some ((a,b)::l) else none
     | _,_=>none
   | .write,.write | .quiet,.write | .write,.quiet=>if ahead M i j then some l else none
   | _,_=>some l
  | _,_=>none) (some []))=some l→∀i∈is,∀pi,ps[i]? = some pi→FV E ops M i j pi pj l:=by
  intro is
  induction is with
  | nil=>intro l _ i hi;cases hi
  |
   cons i0 is ih =>
   intro l h i hi pi hpi
   rw[List.foldr_cons] at h
   revert h
   generalize aCd:is.foldr _ (some [])=acc
   intro h
   cases acc with
   | none=>cases h
   |
    some l0 =>
    have ih':=ih l0 aCd
    cases hp0:ps[i0]? with
    | none=>rw[hp0] at h;cases h
    |
     some p0 =>
     rw[hp0] at h
     simp only at h
     have step:(∀x∈l0,x∈l)∧FV E ops M i0 j p0 pj l:=by
      unfold FV
      split at h
      ·rename_i c1 c2
       try rw[c1,c2]
       split at h
       ·rename_i ha;cases h;exact⟨fun x hx=>hx,.inl ha⟩
       ·split at h
        ·rename_i a b ta tb
         split at h
         ·rename_i hu;cases h;exact⟨fun x hx=>List.mem_cons_of_mem _ hx,.inr ⟨a,b,ta,tb,hu,List.mem_cons_self⟩⟩
         ·cases h
        ·cases h
      ·rename_i c1 c2
       try rw[c1,c2]
       split at h
       ·rename_i ha;cases h;exact⟨fun x hx=>hx,.inl ha⟩
       ·split at h
        ·rename_i a b ta tb
         split at h
         ·rename_i hu;cases h;exact⟨fun x hx=>List.mem_cons_of_mem _ hx,.inr ⟨a,b,ta,tb,hu,List.mem_cons_self⟩⟩
         ·cases h
        ·cases h
      ·rename_i c1 c2
       try rw[c1,c2]
       split at h
       ·rename_i ha;cases h;exact⟨fun x hx=>hx,ha⟩
       ·cases h
      ·rename_i c1 c2
       try rw[c1,c2]
       split at h
       ·rename_i ha;cases h;exact⟨fun x hx=>hx,ha⟩
       ·cases h
      ·rename_i c1 c2
       try rw[c1,c2]
       split at h
       ·rename_i ha;cases h;exact⟨fun x hx=>hx,ha⟩
       ·cases h
      ·cases h
       refine⟨fun x hx=>hx,?_⟩
       first | trivial | (split<;>first | trivial | (simp_all;done)) | (simp_all;done)
     rcases List.mem_cons.1 hi with rfl | hi
     ·rw[hp0] at hpi
      cases hpi
      exact step.2
     ·exact(ih' i hi pi hpi).mono step.1
 exact fun i hi pi hpi=>key _ l h i (List.mem_range.2 hi) pi hpi
structure aiW (P:Program) (E:BL) (n:Nat) (ops:List Oper) (i:Nat) (o:Oper) (p:oQ) (pi:PI):Prop where
 aaP:rB P o.op=some p
 dst:pi.dst=o.dst
 op:pi.op=p
 guard:guardOf ops i o=some pi.g
 bound:∀d,o.dst=some d→d<n
structure SQ (E:BL) (ops:List Oper) (ps:List oQ) (M:List Nat) (i:Nat) (o:Oper) (p:oQ) (pi:PI):Prop where
 back:∀e∈o.after.toList,Region.binds .any e=true→e.on<i
 guard:∀j w,o.guard=some (j,w)→(M.getD i 0).testBit j=true
 Rn:∀t∈o.dst.toList++yK ops o,∀k ok,ops[k]? = some ok→ok.dst=some t→k=i∨ahead M i k=true
 mask:M.getD i 0=zC o M
 quiet:pi.quiet=(match gN E p with | .quiet=>true | _=>false)
 azJ:∀k,k<i→∀pk,ps[k]? = some pk→FV E ops M k i pk p pi.cf
theorem Vs {P:Program} {E:BL} {n:Nat} {ops:List Oper} {ps:List oQ} {M:List Nat} {draw:Bool} {i:Nat} {pi:PI} (h:V9 E ops ps M n draw i=some pi) {o:Oper} {p:oQ} (ho:ops[i]? = some o) (hp:ps[i]? = some p)
  (YV:rB P o.op=some p):aiW P E n ops i o p pi∧(draw=true→SQ E ops ps M i o p pi)∧(draw=false→pi.quiet=false∧pi.cf=[]):=by
 unfold V9 at h
 rw[ho,hp] at h
 simp only at h
 split at h
 case isFalse=>cases h
 rename_i hb
 have hbound:∀d,o.dst=some d→d<n:=by
  intro d hd
  rw[hd] at hb
  simpa[aoC] using hb
 split at h
 ·cases h
 ·rename_i g hg
  cases draw with
  |
   false =>
   simp only[Bool.false_eq_true,if_false] at h
   cases h
   exact⟨⟨YV,rfl,rfl,hg,hbound⟩,(fun h=>by cases h),fun _=>⟨rfl,rfl⟩⟩
  |
   true =>
   simp only[if_true] at h
   split at h
   case isFalse=>cases h
   rename_i hc
   simp only[Bool.and_eq_true,beq_iff_eq] at hc
   obtain⟨⟨⟨c1,c2⟩,c3⟩,c4⟩:=hc
   cases SU:conflicts E ops ps M i p with
   | none=>rw[SU] at h;cases h
   |
    some cf =>
    rw[SU] at h
    cases h
    refine⟨⟨YV,rfl,rfl,hg,hbound⟩,fun _=>⟨fun e he hbd => ?_,fun j w hj => ?_,fun t ht k ok hk hkd => ?_,c4,rfl,O1 SU⟩,(fun h=>by cases h)⟩
    ·have:=List.all_eq_true.1 c1 e he
     simpa[hbd] using this
    ·rw[hj] at c2
     exact c2
    ·have h1:=List.all_eq_true.1 c3 t ht
     have hk':k<ops.length:=(List.getElem?_eq_some_iff.1 hk).1
     have h2:=List.all_eq_true.1 h1 k (List.mem_range.2 hk')
     rw[hk] at h2
     simp only[Bool.or_eq_true,bne_iff_ne,ne_eq,beq_iff_eq] at h2
     rcases h2 with(h2 | h2) | h2
     ·exact absurd hkd h2
     ·exact .inl h2
     ·exact .inr h2
structure apJ (P:Program) (E:BL) (n:Nat) (ops:List Oper) (draw:Bool) (uZ:List PI) (ps:List oQ) (M:List Nat):Prop where
 FT:ps.length=ops.length
 aA6:uZ.length=ops.length
 each:∀i o,ops[i]? = some o→∃p pi,ps[i]? = some p∧uZ[i]? = some pi∧aiW P E n ops i o p pi∧(draw=true→SQ E ops ps M i o p pi)∧(draw=false→pi.quiet=false∧pi.cf=[])
theorem Mr {P:Program} {E:BL} {n:Nat} {ops:Array Oper} {draw:Bool} {uZ:List PI} (h:Ag P E n ops draw=some uZ):∃ps M,apJ P E n ops.toList draw uZ ps M:=by
 unfold Ag at h
 split at h
 ·rename_i ps hps
  simp only at h
  generalize (if draw=true then Sb ops.toList [] else [])=M at h
  obtain⟨h1,h2⟩:=Fi hps
  obtain⟨h3,h4⟩:=Fi h
  refine⟨ps,M,h1,by simpa using h3,fun i o ho => ?_⟩
  have bH:=(List.getElem?_eq_some_iff.1 ho).1
  obtain⟨p,hp,YV⟩:=T0 hps ho
  have hr:(List.range ops.size)[i]? = some i:=by rw[List.getElem?_range];simpa using bH
  obtain⟨pi,hpi,hpp⟩:=T0 h hr
  exact⟨p,pi,hp,hpi,Vs hpp ho hp YV⟩
 ·cases h
theorem Pe {o:Oper} {M:List Nat} {i:Nat} (h:(zC o M).testBit i=true):∃e∈o.after.toList,Region.binds .any e=true∧(e.on=i∨(M.getD e.on 0).testBit i=true):=by
 unfold zC at h
 revert h
 generalize o.after.toList=es
 induction es with
 | nil=>intro h;simp at h
 |
  cons e es ih =>
  intro h
  rw[List.foldr_cons] at h
  split at h
  ·rename_i hb
   rw[Nat.testBit_or,Nat.testBit_or,Bool.or_eq_true,Bool.or_eq_true] at h
   rcases h with(h | h) | h
   ·obtain⟨e',h1,h2⟩:=ih h
    exact⟨e',List.mem_cons_of_mem _ h1,h2⟩
   ·refine⟨e,List.mem_cons_self,hb,.inl ?_⟩
    rw[Nat.testBit_two_pow] at h
    simpa using h
   ·exact⟨e,List.mem_cons_self,hb,.inr h⟩
  ·obtain⟨e',h1,h2⟩:=ih h
   exact⟨e',List.mem_cons_of_mem _ h1,h2⟩
theorem WC {ops:List Oper} {M:List Nat} {S:Nat→Prop} (hb:∀i o,ops[i]? = some o→∀e∈o.after.toList,Region.binds .any e=true→e.on<i) (hm:∀i o,ops[i]? = some o→M.getD i 0=zC o M)
  (hS:∀i o,ops[i]? = some o→S i→∀e∈o.after.toList,Region.binds .any e=true→S e.on):∀j o,ops[j]? = some o→(∀e∈o.after.toList,Region.binds .any e=true→S e.on)→∀i,(M.getD j 0).testBit i=true→S i:=by
 intro j
 induction j using Nat.strongRecOn with
 |
  _ j ih =>
  intro o ho hj i hi
  rw[hm j o ho] at hi
  obtain⟨e,he,hbd,h1⟩:=Pe hi
  rcases h1 with rfl | h1
  ·exact hj e he hbd
  ·have bH:=hb j o ho e he hbd
   have hjl:=(List.getElem?_eq_some_iff.1 ho).1
   have Ye:e.on<ops.length:=by omega
   exact ih e.on bH ops[e.on] (List.getElem?_eq_getElem Ye) (hS e.on _ (List.getElem?_eq_getElem Ye) (hj e he hbd)) i h1
end Go.PM
namespace Go.PM
def yV (P:Program) (L0:Nat) (call:gQ):Prop :=
 ∀f args lo H v H',call f args lo H=some (v,H')→∀m w iG,Rel m L0 H w→L0≤lo→L0≤H.length→RL m args iG→(∀b,H.length≤b→b<H'.length→m b=none) →
  N0 P f∧Calls P f iG.toArray w fun e w'=>∃m' rv,e = .returned rv∧RV m' v rv∧Rel m' L0 H' w'∧Trans lo m H w m' H' w'
section
variable {P:Program} {m:dR} {L0:Nat} {H:aF} {w:World}
theorem vQ {call:gQ} {lo:Nat} {i:PI} {ρ:Env} {v:Value} {H':aF} (h:AM call lo i ρ H=some (v,H')) :
  (AV i.g ρ=some false∧v=undef∧H'=H) ∨
  (AV i.g ρ=some true∧i.cf.all (BM ρ)=true∧(pop lo i.op ρ H=some (.val v H') ∨
   ∃f args,pop lo i.op ρ H=some (.call f args)∧call f args (if i.quiet then H.length else lo) H=some (v,H'))):=by
 unfold AM at h
 split at h
 ·cases h
 ·rename_i hw;cases h;exact .inl ⟨hw,rfl,rfl⟩
 ·rename_i hw
  split at h
  ·rename_i SU
   refine .inr ⟨hw,SU,?_⟩
   split at h
   ·rename_i hp;cases h;exact .inl hp
   ·rename_i f args hp;exact .inr ⟨f,args,hp,h⟩
   ·cases h
  ·cases h
theorem Zx {t:Array Value} {d:Nat} {b:Bool} (h:t.getD d undef = .bool b):t[d]? = some (.bool b):=by
 rcases Nat.lt_or_ge d t.size with hd | hd
 ·simp[hd] at h ⊢
  exact h
 ·simp[Array.getElem?_eq_none hd,undef] at h
theorem He {ops:Array Oper} {i:Nat} {o:Oper} {g:Option (Nat×Bool)} {ρ:Env} {a:Act} {t:Bool} (hg:guardOf ops.toList i o=some g) (hw:AV g ρ=some t)
  (hr:∀d∈yK ops.toList o,RV m (ρ d) (a.tmps.getD d undef)):Region.wanted o (yielded ops a.tmps)=t:=by
 unfold guardOf at hg
 unfold Region.wanted
 cases hgd:o.guard with
 |
  none =>
  rw[hgd] at hg
  cases hg
  cases hw
  rfl
 |
  some jw =>
  obtain⟨j,want⟩:=jw
  rw[hgd] at hg
  simp only at hg
  split at hg
  ·split at hg
   ·rename_i d hd
    cases hg
    have Oh:d∈yK ops.toList o:=by
     unfold yK
     rw[hgd]
     simp only[List.mem_append]
     right
     rw[hd]
     simp
    have XT:=hr d Oh
    simp only[AV] at hw
    split at hw
    ·rename_i b hb
     cases hw
     rw[hb] at XT
     generalize hx:a.tmps.getD d undef=x at XT
     cases XT
     have hy:yielded ops a.tmps j=some b:=by
      unfold yielded
      have hd':(ops[j]?).bind (·.dst)=some d:=by simpa using hd
      rw[hd',Option.bind_some,Zx hx]
     simp only[hy]
     cases b<;>cases want<;>rfl
    ·rename_i vs hb
     cases hw
     rw[hb] at XT
     generalize hx:a.tmps.getD d undef=x at XT
     obtain⟨ws,rfl⟩:∃ws,x = .tuple ws:=by cases XT;exact⟨_,rfl⟩
     have hd':(ops[j]?).bind (·.dst)=some d:=by simpa using hd
     have hy:yielded ops a.tmps j=none:=by
      unfold yielded
      rw[hd',Option.bind_some]
      rcases Nat.lt_or_ge d a.tmps.size with bH | bH
      ·have:a.tmps[d]? = some (.tuple ws):=by rw[←hx];simp[bH]
       rw[this]
      ·rw[Array.getElem?_eq_none bH]
     simp only[hy]
     rfl
    ·cases hw
   ·cases hg
  ·cases hg
theorem aiH {E:BL} {p:oQ} {lo iJ:Nat} {ρ:Env} (h:gN E p = .quiet):pop lo p ρ H=pop iJ p ρ H:=by
 cases p<;>first | rfl | (simp[gN] at h;done)
theorem Gu {ops:List Oper} {o:Oper} {t:Nat} (h:Operand.tmp t∈o.op.operands):t∈yK ops o:=by
 unfold yK tmpsOf
 rw[List.mem_append]
 left
 rw[List.mem_filterMap]
 exact⟨.tmp t,by simpa using h,rfl⟩
theorem MT {op:Op} {p:oQ} (h:rB P op=some p):∀x∈op.operands,RZ x=true:=by
 intro x hx
 unfold rB at h
 split at h
 ·rename_i kB
  obtain⟨i,hi,rfl⟩:=Array.getElem_of_mem hx
  exact Array.all_eq_true.1 kB i hi
 ·cases h
theorem Sm {E:BL} {n lo k:Nat} {ops:Array Oper} {o:Oper} {p:oQ} {pi:PI} {call:gQ} {ρ:Env} {v:Value} {H':aF} {a:Act} {K:Act→World→Prop} {Q:Exit→Act→World→Prop} (ho:ops[k]? = some o) (Fs:aiW P E n ops.toList k o p pi)
  (hq:pi.quiet=true→gN E p = .quiet) (hv:AM call lo pi ρ H=some (v,H')) (hr:∀t∈yK ops.toList o,RV m (ρ t) (a.tmps.getD t undef)) (hR:Rel m L0 H w) (dV:L0≤lo) (hlen:L0≤H.length)
  (hf:∀b,H.length≤b→b<H'.length→m b=none) (pI:yV P L0 call)
  (hK:∀m' rv w',RV m' v rv→Rel m' L0 H' w'→Trans (if pi.quiet then H.length else lo) m H w m' H' w'→K (a.put o.dst rv) w'):wpOp P ops Q k K a w:=by
 have hro:∀x∈o.op.operands,RV m (ev ρ x) (a.eval x):=fun x hx=>W9 (MT Fs.aaP x hx) fun t ht=>hr t (Gu (ht▸hx))
 unfold wpOp
 rw[ho]
 simp only
 rcases vQ hv with⟨hw,rfl,rfl⟩ | ⟨hw,_,hp | ⟨f,args,hp,hc⟩⟩
 ·rw[He Fs.guard hw hr]
  simp only[Bool.false_eq_true,if_false]
  exact hK m undef w (RV.undef m) hR (Trans.refl _ m _ w)
 ·rw[He Fs.guard hw hr]
  simp only[if_true]
  left
  rw[Fs.op] at hp
  have hs:cW P (execOp a.eval o) L0 (if pi.quiet then H.length else lo) m H w v H':=by
   split
   ·rename_i hqq
    rw[aiH (iJ:=H.length) (hq hqq)] at hp
    exact Y5 Fs.aaP hp hro hR hlen hf
   ·exact Y5 Fs.aaP hp hro hR dV hf
  obtain⟨rv,w',m',qG,h1,h2,h3⟩:=hs
  unfold Oper.wp
  rcases qG with qG | ⟨qG,rfl⟩
  ·rw[qG]
   exact hK m' rv w' h1 h2 h3
  ·rw[qG]
   exact hK m' undef w' h1 h2 h3
 ·rw[He Fs.guard hw hr]
  simp only[if_true]
  left
  rw[Fs.op] at hp
  have azG:L0≤(if pi.quiet then H.length else lo):=by split<;>assumption
  obtain⟨iG,VG,awY⟩:=ZO Fs.aaP hp hro
  have qG:=awY (pI f args _ H v H' hc m w iG hR azG hlen VG hf).1
  unfold Oper.wp
  rw[qG w]
  show Calls P f iG.toArray w _
  refine(pI f args _ H v H' hc m w iG hR azG hlen VG hf).2.mono ?_
  rintro e w' ⟨m',rv,rfl,h1,h2,h3⟩
  exact hK m' rv w' h1 h2 h3
end
end Go.PM
namespace Go.PM
theorem Jn {call:gQ} {lo:Nat}:∀ {uZ:List PI} {ρ bI:Env} {H H':aF},iQ call lo uZ ρ H=some (bI,H') →
  ∃st:Nat→Env×aF,st 0=(ρ,H)∧st uZ.length=(bI,H')∧∀i pi,uZ[i]? = some pi→Ah call lo pi (st i).1 (st i).2=some (st (i+1))
 |
  [],ρ,bI,H,H',h=>by
  cases h
  exact⟨fun _=>(ρ,H),rfl,rfl,fun i pi hi=>by simp at hi⟩
 |
  x::uZ,ρ,bI,H,H',h=>by
  rw[iQ] at h
  split at h
  ·rename_i yY H1 h1
   obtain⟨st,h2,h3,h4⟩:=Jn h
   refine⟨fun i=>match i with | 0=>(ρ,H) | i+1=>st i,rfl,h3,fun i pi hi => ?_⟩
   cases i with
   |
    zero =>
    simp at hi
    subst hi
    show Ah call lo x ρ H=some (st 0)
    rw[h1,h2]
   | succ i=>exact h4 i pi (by simpa using hi)
  ·cases h
theorem jO {H1 H2:aF} {b:Nat} (h:H2[b]? = H1[b]?):Live H2 b↔Live H1 b:=by
 unfold Live
 rw[h]
theorem Rel.restrict {m:dR} {L0:Nat} {H1 H2:aF} {w:World} (h:Rel m L0 H2 w) (hs:∀b,b<H1.length→H2[b]? = H1[b]?):Rel m L0 H1 w:=by
 refine⟨h.valid,fun b l cs e p hm hb=>h.row b l cs e p hm ?_,fun b1 b2 l1 l2 hb h1 h2 CC Hz=>h.inj b1 b2 l1 l2 hb h1 h2 ((jO (hs b1 CC.lt)).2 CC) ((jO (hs b2 Hz.lt)).2 Hz),fun x hx=>⟨(h.Ev x hx).1,fun b l hb hm hl=>(h.Ev x hx).2 b l hb hm ((jO (hs b hl.lt)).2 hl)⟩⟩
 rw[hs b (List.getElem?_eq_some_iff.1 hb).1]
 exact hb
theorem Rel.grow {m:dR} {L0:Nat} {H1 H2:aF} {w:World} (h:Rel m L0 H1 w) (hs:∀b,b<H1.length→H2[b]? = H1[b]?) (hd:∀b,H1.length≤b→b<H2.length→m b=none):Rel m L0 H2 w:=by
 have lt:∀b l,m b=some l→b<H2.length→b<H1.length:=fun b l hm hb=>by
  rcases Nat.lt_or_ge b H1.length with h | h
  ·exact h
  ·rw[hd b h hb] at hm;cases hm
 refine⟨h.valid,fun b l cs e p hm hb=>h.row b l cs e p hm ?_,fun b1 b2 l1 l2 hb h1 h2 CC Hz=>h.inj b1 b2 l1 l2 hb h1 h2 ((jO (hs b1 (lt b1 l1 h1 CC.lt))).1 CC) ((jO (hs b2 (lt b2 l2 h2 Hz.lt))).1 Hz),fun x hx=>⟨(h.Ev x hx).1,fun b l hb hm hl=>(h.Ev x hx).2 b l hb hm ((jO (hs b (lt b l hm hl.lt))).1 hl)⟩⟩
 rw[←hs b (lt b l hm (List.getElem?_eq_some_iff.1 hb).1)]
 exact hb
structure Text (P:Program) (E:BL) (n:Nat) (ops:Array Oper) (uZ:List PI) (ps:List oQ) (M:List Nat) (call:gQ) (lo:Nat) (st:Nat→Env×aF):Prop where
 ok:apJ P E n ops.toList true uZ ps M
 ext:tD call
 step:∀i pi,uZ[i]? = some pi→Ah call lo pi (st i).1 (st i).2=some (st (i+1))
section
variable {P:Program} {E:BL} {n:Nat} {ops:Array Oper} {uZ:List PI} {ps:List oQ} {M:List Nat} {call:gQ} {lo:Nat} {st:Nat→Env×aF}
theorem Text.at (T:Text P E n ops uZ ps M call lo st) {i:Nat} (hi:i<ops.size):∃o p pi,ops[i]? = some o∧ps[i]? = some p∧uZ[i]? = some pi∧aiW P E n ops.toList i o p pi∧SQ E ops.toList ps M i o p pi ∧
  ∃v,AM call lo pi (st i).1 (st i).2=some (v,(st (i+1)).2)∧(st (i+1)).1=put (st i).1 o.dst v:=by
 have ho:ops.toList[i]? = some ops[i]:=by simp[hi]
 obtain⟨p,pi,h1,h2,h3,h4,_⟩:=T.ok.each i _ ho
 obtain⟨v,h5,h6⟩:=Ae (T.step i pi h2)
 exact⟨ops[i],p,pi,by simp[hi],h1,h2,h3,h4 rfl,v,h5,by rw[h6,h3.dst]⟩
theorem Text.ayX (T:Text P E n ops uZ ps M call lo st) {i:Nat} (hi:i<ops.size):(st i).2.length≤(st (i+1)).2.length:=by
 obtain⟨o,p,pi,_,_,_,_,_,v,hv,_⟩:=T.at hi
 exact(MW T.ext hv).len
theorem Text.len (T:Text P E n ops uZ ps M call lo st) {i:Nat}:∀ {j:Nat},i≤j→j≤ops.size→(st i).2.length≤(st j).2.length:=by
 intro j SL
 induction j with
 | zero =>
    intro _;have:i=0:=by omega
    subst this;exact Nat.le_refl _
 |
  succ j ih =>
  intro hj
  rcases Nat.lt_or_ge i (j+1) with h | h
  ·exact Nat.le_trans (ih (by omega) (by omega)) (T.ayX (by omega))
  ·have:i=j+1:=by omega
   subst this;exact Nat.le_refl _
theorem Text.axL (T:Text P E n ops uZ ps M call lo st) {i:Nat} {p:oQ} (hi:i<ops.size) (hp:ps[i]? = some p) (hw:gN E p ≠ .write):∀b,b<(st i).2.length→(st (i+1)).2[b]? = (st i).2[b]? := by
 intro b hb
 obtain⟨o,p',pi,_,DQ,_,Fs,hdr,v,hv,_⟩:=T.at hi
 rw[hp] at DQ
 cases DQ
 rcases vQ hv with⟨_,_,h⟩ | ⟨_,_,h | ⟨f,args,h1,h2⟩⟩
 ·rw[h]
 ·rw[Fs.op] at h
  by_cases hq:gN E p = .quiet
  ·rw[aiH (iJ:=(st i).2.length) hq] at h
   exact(Yz h).low b hb hb
  ·
   have:(st (i+1)).2=(st i).2:=by
    cases p<;>first
     | (exact absurd rfl hw)
     | (exact absurd rfl hq)
     | (rw[Av rfl] at h;exact(Eo h).2)
     | skip
    case load agg size q =>
     simp only[pop] at h
     cases hl:oX agg size (ev (st i).1 q) (st i).2 with
     | none=>rw[hl] at h;cases h
     | some u=>rw[hl] at h;injection h with h;injection h with _ h;exact h.symm
    case b2s x =>
     simp only[pop] at h
     split at h
     ·injection h with h;injection h with _ h;exact h.symm
     ·split at h
      ·rename_i cs _
       cases hb:vF cs with
       | none=>rw[hb] at h;cases h
       | some bs=>rw[hb] at h;injection h with h;injection h with _ h;exact h.symm
      ·cases h
     ·cases h
    case sub size x l hh mx =>
     simp only[pop] at h
     cases mx with
     | some mx=>exact absurd rfl hq
     |
      none =>
      cases hs:DP size (ev (st i).1 x) (l.map (ev (st i).1)) (hh.map (ev (st i).1)) ((none:Option Operand).map (ev (st i).1)) (st i).2 with
      | none=>rw[hs] at h;cases h
      |
       some q =>
       obtain⟨u,H1⟩:=q
       rw[hs] at h
       injection h with h;injection h with _ h
       subst h
       unfold DP at hs
       simp only[Option.map_none,Option.isSome_none,Bool.false_eq_true,false_and,if_false] at hs
       repeat' (split at hs)
       all_goals first
        | (cases hs;done)
        | (injection hs with hs;injection hs with _ hs;exact hs.symm)
    case call f args=>cases h
   rw[this]
 ·rw[Fs.op] at h1
  have hq:pi.quiet=true:=by
   rw[hdr.quiet]
   rcases uM h1 with⟨g,as,rfl⟩ | ⟨g,as,rfl⟩
   ·simp only[gN] at hw ⊢
    split at hw
    ·exact absurd rfl hw
    ·rename_i h;rw[if_neg h]
   ·rfl
  rw[hq] at h2
  exact(T.ext _ _ _ _ _ _ h2).low b hb hb
end
end Go.PM
namespace Go.PM
theorem Fh {H H':aF} {lo b o:Nat} {new:List Value} (h:H.write lo b o new=some H') {b':Nat} (hb:b'≠b):H'[b']? = H[b']? := by
 obtain⟨cs,e,p,h1,h2,h3,h4,rfl⟩:=CT h
 exact List.getElem?_set_ne (Ne.symm hb)
theorem LB {H H':aF} {lo size bytes add:Nat} {x v:Value} {new:List Value} (h:fL lo size bytes x add new H=some (v,H')) {b':Nat} (hb:jW x≠some b') (bH:b'<H.length):H'[b']? = H[b']? := by
 unfold fL at h
 split at h
 case isFalse=>cases h
 split at h
 ·split at h
  ·split at h
   ·cases h;rfl
   ·split at h
    ·cases h;exact List.getElem?_append_left bH
    ·cases h
  ·cases h
 ·rename_i b o n c
  have fT:b'≠b:=fun e=>hb (by rw[e];rfl)
  split at h
  ·split at h
   ·split at h
    ·split at h
     ·cases h;rfl
     ·cases hw:aF.write H lo b (o+n*size) new with
      | none=>rw[hw] at h;cases h
      | some H1=>rw[hw] at h;cases h;exact Fh hw fT
    ·split at h
     ·split at h
      ·split at h
       ·cases h
        rw[List.getElem?_append_left (by simpa using bH)]
        exact List.getElem?_set_ne (Ne.symm fT)
       ·cases h
      ·cases h;exact List.getElem?_append_left bH
     ·cases h
   ·cases h
  ·cases h
 ·cases h
theorem akU {E:BL} {lo:Nat} {p:oQ} {ρ:Env} {H H':aF} {v:Value} {x:Operand} (h:pop lo p ρ H=some (.val v H')) (hw:gN E p = .write) (ht:Gr p=some x) {b':Nat} (hb:jW (ev ρ x)≠some b') (bH:b'<H.length):H'[b']? = H[b']? := by
 cases p<;>first | (cases ht;done) | (cases hw;done) | skip
 case sub size y l hh mx=>cases mx<;>cases hw
 case store size q y =>
  cases ht
  simp only[pop] at h
  split at h
  ·rename_i b o he
   rw[he] at hb
   have fT:b'≠b:=fun e=>hb (by rw[e];rfl)
   split at h
   ·cases hw:H.write lo b o (aU (ev ρ y)) with
    | none=>rw[hw] at h;cases h
    | some H1=>rw[hw] at h;cases h;exact Fh hw fT
   ·cases h
  ·cases h
 case app size bytes y z =>
  cases ht
  simp only[pop] at h
  split at h
  ·rename_i n _
   split at h
   ·rename_i new _
    cases ha:fL lo size bytes (ev ρ x) n new H with
    | none=>rw[ha] at h;cases h
    |
     some q =>
     obtain⟨u,H1⟩:=q
     rw[ha] at h;cases h;exact LB ha hb bH
   ·cases h
  ·cases h
 case appz z bytes y n =>
  cases ht
  simp only[pop] at h
  split at h
  ·rename_i k _
   split at h
   ·cases ha:fL lo z.length bytes (ev ρ x) k.toNat (dF k.toNat z) H with
    | none=>rw[ha] at h;cases h
    |
     some q =>
     obtain⟨u,H1⟩:=q
     rw[ha] at h;cases h;exact LB ha hb bH
   ·cases h
  ·cases h
 case copy size y z =>
  cases ht
  simp only[pop] at h
  split at h
  ·cases h;rfl
  ·rename_i b o d _ s he _
   rw[he] at hb
   have fT:b'≠b:=fun e=>hb (by rw[e];rfl)
   split at h
   ·rename_i new _
    cases hw:H.write lo b o new with
    | none=>rw[hw] at h;cases h
    | some H1=>rw[hw] at h;cases h;exact Fh hw fT
   ·cases h
  ·cases h
 case clear z y =>
  cases ht
  simp only[pop] at h
  split at h
  ·cases h;rfl
  ·rename_i b o n _ he
   rw[he] at hb
   have fT:b'≠b:=fun e=>hb (by rw[e];rfl)
   split at h
   ·cases h;rfl
   ·cases hw:H.write lo b o (dF n z) with
    | none=>rw[hw] at h;cases h
    | some H1=>rw[hw] at h;cases h;exact Fh hw fT
  ·cases h
theorem Sp {H:aF} {b o n:Nat} {cs:List Value} (h:H.read b o n=some cs):b<H.length:=by
 unfold aF.read at h
 split at h
 ·rename_i hb;exact(List.getElem?_eq_some_iff.1 hb).1
 ·cases h
theorem GN {H H2:aF} {b o n:Nat} (h:H2[b]? = H[b]?):H2.read b o n=H.read b o n:=by
 unfold aF.read
 rw[h]
theorem Wi {agg:Bool} {size:Nat} {x v:Value} {H H2:aF} (h:oX agg size x H=some v) (hb:∀b,jW x=some b→b<H.length→H2[b]? = H[b]?):oX agg size x H2=some v:=by
 unfold oX at h ⊢
 split at h
 ·rename_i b o
  have bH:b<H.length:=by
   split at h
   ·cases hr:H.read b o size with
    | none=>rw[hr] at h;cases h
    | some cs=>exact Sp hr
   ·cases hr:H.read b o 1 with
    | none=>rw[hr] at h;cases h
    | some cs=>exact Sp hr
  have e:=hb b rfl bH
  simp only[GN e]
  exact h
 ·cases h
theorem U7 {E:BL} {lo:Nat} {p:oQ} {ρ:Env} {H H' H2:aF} {v:Value} (h:pop lo p ρ H=some (.val v H')) (hc:gN E p = .look) (hb:∀x,Gr p=some x→∀b,jW (ev ρ x)=some b→b<H.length→H2[b]? = H[b]?) :
  H'=H∧pop lo p ρ H2=some (.val v H2):=by
 cases p<;>first | (cases hc;done) | skip
 case call f args=>simp only[gN] at hc;split at hc<;>cases hc
 case load agg size q =>
  simp only[pop] at h ⊢
  cases hl:oX agg size (ev ρ q) H with
  | none=>rw[hl] at h;cases h
  |
   some u =>
   rw[hl] at h
   cases h
   refine⟨rfl,?_⟩
   rw[Wi hl (hb q rfl)]
   rfl
 case b2s x =>
  simp only[pop] at h ⊢
  split at h
  ·cases h;exact⟨rfl,rfl⟩
  ·rename_i b o n _ he
   split at h
   ·rename_i cs hr
    cases hbs:vF cs with
    | none=>rw[hbs] at h;cases h
    |
     some bs =>
     rw[hbs] at h
     cases h
     refine⟨rfl,?_⟩
     have e:=hb x rfl b (by rw[he];rfl) (Sp hr)
     rw[GN e,hr]
     simp only[hbs]
     rfl
   ·cases h
  ·cases h
 case sub size x l hh mx =>
  cases mx with
  | some mx=>cases hc
  |
   none =>
   simp only[pop] at h ⊢
   cases hs:DP size (ev ρ x) (l.map (ev ρ)) (hh.map (ev ρ)) ((none:Option Operand).map (ev ρ)) H with
   | none=>rw[hs] at h;cases h
   |
    some q =>
    obtain⟨u,H1⟩:=q
    rw[hs] at h
    cases h
    have vD:=hb x rfl
    generalize ev ρ x=xv at hs vD
    have key:H1=H∧DP size xv (l.map (ev ρ)) (hh.map (ev ρ)) ((none:Option Operand).map (ev ρ)) H2=some (u,H2):=by
     unfold DP at hs ⊢
     simp only[Option.map_none,Option.isSome_none,Bool.false_eq_true,false_and,if_false] at hs ⊢
     split at hs
     ·repeat' (split at hs)
      all_goals first | (cases hs;done) | skip
      cases hs
      simp_all
     ·rename_i b o n c
      split at hs
      ·rename_i cs e p lF
       have e1:=vD b rfl (List.getElem?_eq_some_iff.1 lF).1
       rw[e1,lF]
       simp only
       repeat' (split at hs)
       all_goals first | (cases hs;done) | skip
       cases hs
       simp_all
      ·cases hs
     ·cases hs
    rw[key.2]
    exact⟨key.1,rfl⟩
section
variable {P:Program} {E:BL} {n:Nat} {ops:Array Oper} {uZ:List PI} {ps:List oQ} {M:List Nat} {call:gQ} {lo:Nat} {st:Nat→Env×aF}
theorem Text.afW (T:Text P E n ops uZ ps M call lo st) {i:Nat}:∀ {j:Nat},i≤j→j≤ops.size→Ext lo (st i).2 (st j).2:=by
 intro j SL
 induction j with
 | zero =>
    intro _;have:i=0:=by omega
    subst this;exact Ext.refl _ _
 |
  succ j ih =>
  intro hj
  rcases Nat.lt_or_ge i (j+1) with h | h
  ·obtain⟨o,p,pi,_,_,_,_,_,v,hv,_⟩:=T.at (i:=j) (by omega)
   exact(ih (by omega) (by omega)).trans (MW T.ext hv)
  ·have:i=j+1:=by omega
   subst this;exact Ext.refl _ _
theorem Text.agQ (T:Text P E n ops uZ ps M call lo st) {i:Nat}:∀ {j:Nat},i≤j→j≤ops.size→∀b,b<(st i).2.length →
  (∀k,i≤k→k<j→∀p pi,ps[k]? = some p→uZ[k]? = some pi→gN E p = .write→AV pi.g (st k).1=some true→∃x,Gr p=some x∧jW (ev (st k).1 x)≠some b) →
  (st j).2[b]? = (st i).2[b]? := by
 intro j SL
 induction j with
 | zero =>
      intro _ b _ _;have:i=0:=by omega
      subst this;rfl
 |
  succ j ih =>
  intro hj b hb hk
  rcases Nat.lt_or_ge i (j+1) with h | h
  ·have bH:b<(st j).2.length:=Nat.lt_of_lt_of_le hb (T.len (by omega) (by omega))
   have h1:(st (j+1)).2[b]? = (st j).2[b]? := by
    obtain⟨o,p,pi,_,hp,hpi,Fs,_,v,hv,_⟩:=T.at (i:=j) (by omega)
    by_cases hw:gN E p = .write
    ·rcases vQ hv with⟨_,_,h⟩ | ⟨hwt,_,h | ⟨f,args,h1,h2⟩⟩
     ·rw[h]
     ·rw[Fs.op] at h
      obtain⟨x,hx,fT⟩:=hk j (by omega) (by omega) p pi hp hpi hw hwt
      exact akU h hw hx fT bH
     ·rw[Fs.op] at h1
      obtain⟨x,hx,fT⟩:=hk j (by omega) (by omega) p pi hp hpi hw hwt
      rcases uM h1 with⟨g,as,rfl⟩ | ⟨g,as,rfl⟩<;>cases hx
    ·exact T.axL (by omega) hp hw b bH
   rw[h1]
   exact ih (by omega) (by omega) b hb fun k hk1 hk2=>hk k hk1 (by omega)
  ·have:i=j+1:=by omega
   subst this;rfl
theorem Text.same (T:Text P E n ops uZ ps M call lo st) {i j:Nat} (SL:i≤j) (hj:j≤ops.size) (hk:∀k,i≤k→k<j→∀p,ps[k]? = some p→gN E p ≠ .write):∀b,b<(st i).2.length→(st j).2[b]? = (st i).2[b]? :=
 fun b hb=>T.agQ SL hj b hb fun k h1 h2 p _ hp _ hw _=>absurd hw (hk k h1 h2 p hp)
theorem Text.RJ (T:Text P E n ops uZ ps M call lo st) {i t:Nat}:∀ {j:Nat},i≤j→j≤ops.size→(∀k o,i≤k→k<j→ops[k]? = some o→o.dst≠some t)→(st j).1 t=(st i).1 t:=by
 intro j SL
 induction j with
 | zero =>
      intro _ _;have:i=0:=by omega
      subst this;rfl
 |
  succ j ih =>
  intro hj hk
  rcases Nat.lt_or_ge i (j+1) with h | h
  ·obtain⟨o,p,pi,ho,hp,hpi,Fs,_,v,hv,he⟩:=T.at (i:=j) (by omega)
   rw[he]
   have fT:=hk j o (by omega) (by omega) ho
   have h1:put (st j).1 o.dst v t=(st j).1 t:=by
    cases hd:o.dst with
    | none=>rfl
    |
     some d =>
     rw[hd] at fT
     show (if t=d then v else _)=_
     rw[if_neg (fun e=>fT (by rw[e]))]
   rw[h1]
   exact ih (by omega) (by omega) fun k o hk1 hk2=>hk k o hk1 (by omega)
  ·have:i=j+1:=by omega
   subst this;rfl
end
end Go.PM
namespace Go.PM
theorem Ax {M:List Nat} {i j:Nat} (h:i<j):ahead M i j=(M.getD j 0).testBit i:=by
 unfold ahead
 have e1:Nat.max i j=j:=Nat.max_eq_right (by omega)
 have e2:Nat.min i j=i:=Nat.min_eq_left (by omega)
 rw[e1,e2]
theorem agD {M:List Nat} {i j:Nat} (h:j<i):ahead M i j=(M.getD i 0).testBit j:=by
 unfold ahead
 have e1:Nat.max i j=i:=Nat.max_eq_left (by omega)
 have e2:Nat.min i j=j:=Nat.min_eq_right (by omega)
 rw[e1,e2]
theorem UN {a:Act} {d t:Nat} {v:Value} (hd:d<a.tmps.size):(a.put (some d) v).tmps.getD t undef=if t=d then v else a.tmps.getD t undef:=by
 show (a.tmps.setIfInBounds d v).getD t undef=_
 rcases Nat.lt_or_ge t a.tmps.size with h | h
 ·by_cases e:t=d
  ·subst e;simp[h]
  ·simp[h,e,Ne.symm e]
 ·have:t≠d:=by omega
  simp[h,this]
theorem HZ (a:Act) (d:Option Nat) (v:Value):(a.put d v).tmps.size=a.tmps.size:=by
 cases d<;>simp[Act.put]
theorem HJ (a:Act) (d:Option Nat) (v:Value):(a.put d v).defers=a.defers:=by
 cases d<;>rfl
section
variable {P:Program} {E:BL} {n:Nat} {ops:Array Oper} {uZ:List PI} {ps:List oQ} {M:List Nat} {call:gQ} {lo L0:Nat} {st:Nat→Env×aF}
structure uL (E:BL) (n:Nat) (ops:Array Oper) (ps:List oQ) (lo L0:Nat) (st:Nat→Env×aF) (m0:dR) (w0:World) (ds:List Deferred) (S:Nat→Prop) (m:dR) (c:Nat) (a:Act) (w:World):Prop where
 IN:a.tmps.size=n
 defs:a.defers=ds
 back:∀i o,ops.toList[i]? = some o→S i→∀e∈o.after.toList,Region.binds .any e=true→S e.on
 tm:∀t j,j≤ops.size→(∀i o,ops.toList[i]? = some o→o.dst=some t→(S i↔i<j))→RV m ((st j).1 t) (a.tmps.getD t undef)
 Qb:c≤ops.size
 before:∀i p,i<c→ps[i]? = some p→gN E p = .write→S i
 atc:c<ops.size→¬S c∧∃p,ps[c]? = some p∧gN E p = .write
 rel:Rel m L0 (st c).2 w
 tr:Trans lo m0 (st 0).2 w0 m (st c).2 w
 dom:∀b l,m b=some l→m0 b≠none∨∃i,S i∧i<ops.size∧(st i).2.length≤b∧b<(st (i+1)).2.length
theorem Text.anc (T:Text P E n ops uZ ps M call lo st) {S:Nat→Prop} (hS:∀i o,ops.toList[i]? = some o→S i→∀e∈o.after.toList,Region.binds .any e=true→S e.on) {k:Nat} {o:Oper} (ho:ops.toList[k]? = some o)
  (hk:∀e∈o.after.toList,Region.binds .any e=true→S e.on) {i:Nat} (hi:(M.getD k 0).testBit i=true):S i :=
 WC (fun i o hio=>by
   obtain⟨p,pi,_,_,_,hd,_⟩:=T.ok.each i o hio
   exact(hd rfl).back) (fun i o hio=>by
   obtain⟨p,pi,_,_,_,hd,_⟩:=T.ok.each i o hio
   exact(hd rfl).mask) hS k o ho hk i hi
theorem Text.YG (T:Text P E n ops uZ ps M call lo st) {i:Nat} {p:oQ} (hi:i<ops.size) (hp:ps[i]? = some p) (h:gN E p = .pure∨gN E p = .look):(st (i+1)).2=(st i).2:=by
 obtain⟨o,p',pi,_,DQ,_,Fs,hdr,v,hv,_⟩:=T.at hi
 rw[hp] at DQ
 cases DQ
 rcases vQ hv with⟨_,_,h'⟩ | ⟨_,_,h' | ⟨f,args,h1,h2⟩⟩
 ·exact h'
 ·rw[Fs.op] at h'
  rcases h with h | h
  ·have:vH p=true:=by
    cases p<;>first | rfl | (cases h;done) | skip
    case sub s x l hh mx=>cases mx<;>cases h
    case call f as=>simp only[gN] at h;split at h<;>cases h
   rw[Av this] at h'
   exact(Eo h').2
  ·exact(U7 h' h (fun _ _ _ _ _=>rfl)).1
 ·exfalso
  rw[Fs.op] at h1
  rcases uM h1 with⟨g,as,rfl⟩ | ⟨g,as,rfl⟩
  ·simp only[gN] at h
   split at h<;>rcases h with h | h<;>cases h
  ·rcases h with h | h<;>cases h
theorem abO {op:Op} {p:oQ} {x:Operand} (h:rB P op=some p) (ht:Gr p=some x):x∈op.operands:=by
 unfold rB at h
 split at h
 case isFalse=>cases h
 cases op with
 |
  load t q =>
  dsimp only at h
  cases hi:nF P t with
  | none=>rw[hi] at h;cases h
  | some u=>rw[hi] at h;cases h;cases ht;simp[Op.operands]
 |
  store t q v =>
  dsimp only at h
  cases hi:P.info? t with
  | none=>rw[hi] at h;cases h
  | some u=>rw[hi] at h;cases h;cases ht;simp[Op.operands]
 |
  slice t y l hh mx =>
  dsimp only at h
  split at h
  ·split at h
   ·cases h;cases ht
   ·cases h
  ·rename_i e _
   cases hi:nF P e with
   | none=>rw[hi] at h;cases h
   | some u=>rw[hi] at h;cases h;cases ht;simp[Op.operands]
  ·cases h
 |
  convert s d y =>
  dsimp only at h
  repeat' (split at h)
  all_goals first
   | (cases h;done)
   | (cases h;cases ht;done)
   | (cases h;cases ht;simp[Op.operands])
 |
  call c =>
  obtain⟨callee,args,ts⟩:=c
  cases callee with
  |
   builtin b =>
   simp only[pV] at h
   repeat' (split at h)
   all_goals first
    | (cases h;done)
    | (cases h;cases ht;done)
    | skip
   all_goals
    cases h
    cases ht
    have hm:x∈args.toList:=by simp_all
    simpa[Op.operands,Call.operands] using hm
  |
   value f =>
   cases f with
   | tmp g'=>cases h;cases ht
   | func g'=>cases h;cases ht
   | _=>cases h
  | invoke r s=>cases h
 |
  _ =>
  exfalso
  dsimp only at h
  try unfold Cy at h
  repeat' (split at h)
  all_goals first
   | contradiction
   | (cases h;done)
   | (cases h;cases ht;done)
   | exact map_none h (by intro y h;cases h;cases ht)
end
end Go.PM
namespace Go.PM
theorem G3 (p:Nat→Prop):∀(d c N:Nat),N-c=d→c≤N→∃c',c≤c'∧c'≤N∧(∀i,c≤i→i<c'→¬p i)∧(c'<N→p c')
 | 0,c,N,hd,hc=>⟨c,Nat.le_refl _,hc,fun i h1 h2=>by omega,fun h=>by omega⟩
 |
  d+1,c,N,hd,hc=>by
  by_cases hp:p c
  ·exact⟨c,Nat.le_refl _,hc,fun i h1 h2=>by omega,fun _=>hp⟩
  ·obtain⟨c',h1,h2,h3,h4⟩:=G3 p d (c+1) N (by omega) (by omega)
   refine⟨c',by omega,h2,fun i hi1 Mz => ?_,h4⟩
   rcases Nat.lt_or_ge c i with h | h
   ·exact h3 i h Mz
   ·have:i=c:=by omega
    subst this;exact hp
theorem afF {m:dR} {v r:Value} {b:Nat} (h:RV m v r) (hb:jW v=some b):∃l,m b=some l:=by
 cases h<;>first | (cases hb;done) | (cases hb;exact⟨_,by assumption⟩)
section
variable {P:Program} {E:BL} {n:Nat} {ops:Array Oper} {uZ:List PI} {ps:List oQ} {M:List Nat} {call:gQ} {lo L0:Nat} {st:Nat→Env×aF}
 {m0:dR} {w0:World} {ds:List Deferred} {S:Nat→Prop} {m:dR} {c:Nat} {a:Act} {w:World} {k:Nat} {o:Oper} {p:oQ} {pi:PI}
structure At (P:Program) (E:BL) (n:Nat) (ops:Array Oper) (uZ:List PI) (ps:List oQ) (M:List Nat) (S:Nat→Prop) (k:Nat) (o:Oper) (p:oQ) (pi:PI):Prop where
 lt:k<ops.size
 eo:ops[k]? = some o
 ep:ps[k]? = some p
 epi:uZ[k]? = some pi
 ok:aiW P E n ops.toList k o p pi
 dr:SQ E ops.toList ps M k o p pi
 aCJ:¬S k
 anc:∀i,(M.getD k 0).testBit i=true→S i
 desc:∀i,i<ops.size→S i→(M.getD i 0).testBit k=true→False
theorem At.ah (A:At P E n ops uZ ps M S k o p pi) {i:Nat} (hi:i<ops.size) (h:i=k∨ahead M k i=true):S i↔i<k:=by
 rcases Nat.lt_trichotomy i k with h1 | h1 | h1
 ·refine⟨fun _=>h1,fun _ => ?_⟩
  rcases h with h | h
  ·omega
  ·rw[agD h1] at h;exact A.anc i h
 ·subst h1
  exact⟨fun h=>absurd h A.aCJ,fun h=>by omega⟩
 ·refine⟨fun hs => ?_,fun h=>by omega⟩
  rcases h with h | h
  ·omega
  ·rw[Ax h1] at h;exact absurd h (fun h=>A.desc i hi hs h)
theorem Hq {i:Nat} {oi:Oper} (h:ops.toList[i]? = some oi):i<ops.size:=by
 have:=(List.getElem?_eq_some_iff.1 h).1
 simpa using this
theorem At.reads (A:At P E n ops uZ ps M S k o p pi) (I:uL E n ops ps lo L0 st m0 w0 ds S m c a w):∀t∈yK ops.toList o,RV m ((st k).1 t) (a.tmps.getD t undef):=by
 intro t ht
 refine I.tm t k (Nat.le_of_lt A.lt) fun i oi hi hd => ?_
 exact A.ah (Hq hi) (A.dr.Rn t (List.mem_append_right _ ht) i oi hi hd)
theorem At.operand (A:At P E n ops uZ ps M S k o p pi) (I:uL E n ops ps lo L0 st m0 w0 ds S m c a w) {x:Operand} (hx:x∈o.op.operands):RV m (ev (st k).1 x) (a.eval x) :=
 W9 (MT A.ok.aaP x hx) fun t ht=>A.reads I t (Gu (ht▸hx))
theorem At.pair (T:Text P E n ops uZ ps M call lo st) {i j:Nat} {p q:oQ} (SL:i<j) (hj:j<ops.size) (hp:ps[i]? = some p) (hq:ps[j]? = some q):∃qi,uZ[j]? = some qi∧FV E ops.toList M i j p q qi.cf:=by
 obtain⟨o,q',qi,_,Pf,hqi,_,hd,_⟩:=T.at hj
 rw[hq] at Pf
 cases Pf
 exact⟨qi,hqi,hd.azJ i SL p hp⟩
theorem uL.late (T:Text P E n ops uZ ps M call lo st) (I:uL E n ops ps lo L0 st m0 w0 ds S m c a w) {i:Nat} {q:oQ} (hi:c<i) (hn:i<ops.size) (hS:S i) (hq:ps[i]? = some q):gN E q = .pure∨gN E q = .look:=by
 obtain⟨hcS,pc,hpc,Sv⟩:=I.atc (by omega)
 obtain⟨qi,_,kH⟩:=At.pair T hi hn hpc hq
 unfold FV at kH
 rw[Sv] at kH
 obtain⟨oi,_,_,hoi,_⟩:=T.at hn
 have Td:ops.toList[i]? = some oi:=by simpa using hoi
 have fin:ahead M c i=true→False:=fun h=>by
  rw[Ax hi] at h
  exact hcS (T.anc I.back Td (I.back i oi Td hS) h)
 cases oR:gN E q with
 | pure=>exact .inl rfl
 | look=>exact .inr rfl
 | quiet=>rw[oR] at kH;exact absurd kH fin
 | write=>rw[oR] at kH;exact absurd kH fin
theorem uL.Rn (T:Text P E n ops uZ ps M call lo st) (I:uL E n ops ps lo L0 st m0 w0 ds S m c a w) (A:At P E n ops uZ ps M S k o p pi) {m':dR} {v rv:Value} (hm:∀b l,m b=some l→m' b=some l) (hv:RV m' v rv)
  (he:(st (k+1)).1=put (st k).1 o.dst v):∀t j,j≤ops.size→(∀i o,ops.toList[i]? = some o→o.dst=some t→((i=k∨S i)↔i<j))→RV m' ((st j).1 t) ((a.put o.dst rv).tmps.getD t undef):=by
 intro t j hj hw
 have Fs:ops.toList[k]? = some o:=by simpa using A.eo
 cases hd:o.dst with
 |
  none =>
  show RV m' _ (a.tmps.getD t undef)
  refine(I.tm t j hj fun i oi hi hdi => ?_).mono hm
  have fT:i≠k:=fun e=>by subst e;rw[Fs] at hi;cases hi;rw[hd] at hdi;cases hdi
  rw[←hw i oi hi hdi]
  simp[fT]
 |
  some d =>
  rw[UN (by rw[I.IN];exact A.ok.bound d hd)]
  by_cases htd:t=d
  ·subst htd
   rw[if_pos rfl]
   have hkj:k<j:=(hw k o Fs hd).1 (.inl rfl)
   have e1:(st j).1 t=(st (k+1)).1 t:=by
    refine T.RJ hkj hj fun i oi hi1 Mz hoi hdi => ?_
    have Td:ops.toList[i]? = some oi:=by simpa using hoi
    have hS:=(hw i oi Td hdi).2 Mz
    have hik:i≠k:=by omega
    have:=(A.ah (Hq Td) (A.dr.Rn t (List.mem_append_left _ (by rw[hd];simp)) i oi Td hdi)).1 (hS.resolve_left hik)
    omega
   rw[e1,he,hd]
   show RV m' (if t=t then v else _) rv
   rw[if_pos rfl]
   exact hv
  ·rw[if_neg htd]
   refine(I.tm t j hj fun i oi hi hdi => ?_).mono hm
   have fT:i≠k:=fun e=>by subst e;rw[Fs] at hi;cases hi;rw[hd] at hdi;cases hdi;exact htd rfl
   rw[←hw i oi hi hdi]
   simp[fT]
theorem uL.aeX (I:uL E n ops ps lo L0 st m0 w0 ds S m c a w) (A:At P E n ops uZ ps M S k o p pi) (hr:∀e∈o.after.toList,Region.binds .any e=true→S e.on) :
  ∀i oi,ops.toList[i]? = some oi→(i=k∨S i)→∀e∈oi.after.toList,Region.binds .any e=true→(e.on=k∨S e.on):=by
 intro i oi hi hS e he hb
 rcases hS with rfl | hS
 ·have:ops.toList[i]? = some o:=by simpa using A.eo
  rw[this] at hi
  cases hi
  exact .inr (hr e he hb)
 ·exact .inr (I.back i oi hi hS e he hb)
theorem HS (T:Text P E n ops uZ ps M call lo st) {i j:Nat} {x:Operand} (SL:i≤j) (hj:j≤ops.size) (h:FI ops.toList i j x=true):ev (st j).1 x=ev (st i).1 x:=by
 cases x with
 |
  tmp t =>
  refine T.RJ SL hj fun q oq h1 h2 hoq hd => ?_
  have kB:=List.all_eq_true.1 h oq (by
   have aBA:ops.toList[q]? = some oq:=by simpa using hoq
   rw[List.mem_iff_getElem?]
   refine⟨q-i,?_⟩
   rw[List.getElem?_drop,List.getElem?_take,show i+(q-i)=q by omega,if_pos h2,aBA])
  simp[hd] at kB
 | const v=>rfl
 | global g=>rfl
 | func f=>rfl
theorem uL.look (T:Text P E n ops uZ ps M call lo st) (I:uL E n ops ps lo L0 st m0 w0 ds S m c a w) (A:At P E n ops uZ ps M S k o p pi) (Cr:∀b,(st 0).2.length≤b→b<(st ops.size).2.length→m0 b=none)
  (oR:gN E p = .pure∨gN E p = .look) {v:Value} (hv:AM call lo pi (st k).1 (st k).2=some (v,(st (k+1)).2)):AM call lo pi (st k).1 (st c).2=some (v,(st c).2):=by
 rcases vQ hv with⟨hw,rfl,_⟩ | ⟨hw,SU,hp | ⟨f,args,hp,_⟩⟩
 ·unfold AM
  rw[hw]
 ·unfold AM
  rw[hw]
  simp only[SU,if_true]
  have key:pop lo pi.op (st k).1 (st c).2=some (.val v (st c).2):=by
   rw[A.ok.op] at hp ⊢
   rcases oR with oR | oR
   ·have hlp:vH p=true:=by
     cases p<;>first | rfl | (cases oR;done) | skip
     case sub s x l hh mx=>cases mx<;>cases oR
     case call f as=>simp only[gN] at oR;split at oR<;>cases oR
    rw[Av hlp] at hp ⊢
    rw[(Eo hp).1]
    rfl
   ·refine(U7 hp oR fun x hx b hb bH => ?_).2
    rcases Nat.lt_or_ge c k with hck | hck
    ·obtain⟨hcS,pc,hpc,Sv⟩:=I.atc (Nat.lt_trans hck A.lt)
     have NT:b<(st c).2.length:=by
      rcases Nat.lt_or_ge b (st c).2.length with h | h
      ·exact h
      ·exfalso
       obtain⟨l,hl⟩:=afF (A.operand I (abO A.ok.aaP hx)) hb
       have h0:=T.len (i:=0) (j:=c) (Nat.zero_le _) I.Qb
       have h1:=T.len (i:=k) (j:=ops.size) (Nat.le_of_lt A.lt) (Nat.le_refl _)
       rcases I.dom b l hl with h2 | ⟨i,hiS,cS,hi1,Mz⟩
       ·exact h2 (Cr b (by omega) (by omega))
       ·rcases Nat.lt_trichotomy i c with h3 | h3 | h3
        ·have:=T.len (i:=i+1) (j:=c) h3 I.Qb
         omega
        ·subst h3;exact hcS hiS
        ·obtain⟨oi,qi,pii,_,hqi,_⟩:=T.at cS
         have:=I.late T h3 cS hiS hqi
         rw[T.YG cS hqi this] at Mz
         omega
     refine(T.agQ (Nat.le_of_lt hck) (Nat.le_of_lt A.lt) b NT fun j hj1 hj2 q qi hq hqi hqw apC => ?_).symm
     obtain⟨pi',axF,kH⟩:=At.pair T hj2 A.lt hq A.ep
     rw[A.epi] at axF
     cases axF
     unfold FV at kH
     rw[hqw,oR] at kH
     rcases kH with h | ⟨xa,xb,ha,vD,hun,Oh⟩
     ·exfalso
      rw[Ax hj2] at h
      have hjS:=A.anc j h
      rcases Nat.lt_or_ge c j with h3 | h3
      ·rcases I.late T h3 (Nat.lt_trans hj2 A.lt) hjS hq with h4 | h4<;>(rw[hqw] at h4;cases h4)
      ·have:j=c:=by omega
       subst this;exact hcS hjS
     ·rw[hx] at vD
      cases vD
      refine⟨xa,ha,fun e => ?_⟩
      have hk:=List.all_eq_true.1 SU _ Oh
      unfold BM at hk
      rw[HS T (Nat.le_of_lt hj2) (Nat.le_of_lt A.lt) hun,e,hb] at hk
      simp at hk
    ·refine T.agQ hck I.Qb b bH fun j hj1 hj2 q qi hq hqi hqw apC => ?_
     have hjk:k<j:=by
      rcases Nat.lt_or_ge k j with h | h
      ·exact h
      ·have:j=k:=by omega
       subst this
       rw[A.ep] at hq
       cases hq
       rw[hqw] at oR
       cases oR
     have hjn:j<ops.size:=Nat.lt_of_lt_of_le hj2 I.Qb
     obtain⟨oj,q',qi',hoj,Pf,ajP,aEj,_,vj,hvj,_⟩:=T.at hjn
     rw[hq] at Pf
     cases Pf
     rw[hqi] at ajP
     cases ajP
     obtain⟨qi',ajP,kH⟩:=At.pair T hjk hjn A.ep hq
     rw[hqi] at ajP
     cases ajP
     unfold FV at kH
     rw[hqw,oR] at kH
     rcases kH with h | ⟨xa,xb,ha,vD,hun,Oh⟩
     ·exfalso
      rw[Ax hjk] at h
      exact A.desc j hjn (I.before j q hj2 hq hqw) h
     ·rw[hx] at ha
      cases ha
      refine⟨xb,vD,fun e => ?_⟩
      have aB7:qi.cf.all (BM (st j).1)=true:=by
       rcases vQ hvj with⟨h,_⟩ | ⟨_,h,_⟩
       ·rw[apC] at h;cases h
       ·exact h
      have hk:=List.all_eq_true.1 aB7 _ Oh
      unfold BM at hk
      rw[HS T (Nat.le_of_lt hjk) (Nat.le_of_lt hjn) hun,e,hb] at hk
      simp at hk
  rw[key]
 ·exfalso
  rw[A.ok.op] at hp
  rcases uM hp with⟨g,as,rfl⟩ | ⟨g,as,rfl⟩
  ·simp only[gN] at oR
   split at oR<;>rcases oR with h | h<;>cases h
  ·rcases oR with h | h<;>cases h
end
end Go.PM
namespace Go.PM
section
variable {P:Program} {E:BL} {n:Nat} {ops:Array Oper} {uZ:List PI} {ps:List oQ} {M:List Nat} {call:gQ} {lo L0:Nat} {st:Nat→Env×aF}
 {m0:dR} {w0:World} {ds:List Deferred}
theorem IV {H:aF} {b:Nat} (h:H.length≤b):¬Live H b:=fun hl=>by have:=hl.lt;omega
theorem adR {S:Nat→Prop} {m:dR} {c:Nat} {a:Act} {w:World} {k:Nat} {o:Oper} (T:Text P E n ops uZ ps M call lo st) (pI:yV P L0 call) (dV:L0≤lo) (Bv:L0≤(st 0).2.length)
  (Cr:∀b,(st 0).2.length≤b→b<(st ops.size).2.length→m0 b=none) (I:uL E n ops ps lo L0 st m0 w0 ds S m c a w) (ho:ops[k]? = some o) (hkS:¬S k)
  (hr:∀e∈o.after.toList,Region.binds .any e=true→S e.on) {K:Act→World→Prop} {Q:Exit→Act→World→Prop}
  (hK:∀m' c' a' w',uL E n ops ps lo L0 st m0 w0 ds (fun i=>i=k∨S i) m' c' a' w'→K a' w'):wpOp P ops Q k K a w:=by
 have bH:k<ops.size:=(Array.getElem?_eq_some_iff.1 ho).1
 obtain⟨o',p,pi,ho',hp,hpi,Fs,hdr,v,hv,he⟩:=T.at bH
 rw[ho] at ho'
 cases ho'
 have ho2:ops.toList[k]? = some o:=by simpa using ho
 have A:At P E n ops uZ ps M S k o p pi:=⟨bH,ho,hp,hpi,Fs,hdr,hkS,fun i hi=>T.anc I.back ho2 hr hi,fun i hi hS hb=>by
  have hio:ops.toList[i]? = some ops[i]:=by simp[hi]
  exact hkS (T.anc I.back hio (I.back i _ hio hS) hb)⟩
 have Wp:=A.reads I
 have aoH:=T.len (i:=0) (j:=c) (Nat.zero_le _) I.Qb
 have avH:=T.len (i:=c) (j:=ops.size) I.Qb (Nat.le_refl _)
 have awB:=T.len (i:=0) (j:=k) (Nat.zero_le _) (Nat.le_of_lt bH)
 have aBw:=T.len (i:=k+1) (j:=ops.size) bH (Nat.le_refl _)
 have aBb:=T.ayX bH
 have hfk:∀b,(st k).2.length≤b→b<(st (k+1)).2.length→m b=none:=by
  intro b h1 h2
  cases hm:m b with
  | none=>rfl
  |
   some l =>
   exfalso
   rcases I.dom b l hm with h3 | ⟨i,hiS,cS,hi1,Mz⟩
   ·exact h3 (Cr b (by omega) (by omega))
   ·rcases Nat.lt_trichotomy i k with h3 | h3 | h3
    ·have:=T.len (i:=i+1) (j:=k) h3 (Nat.le_of_lt bH)
     omega
    ·subst h3;exact hkS hiS
    ·have:=T.len (i:=k+1) (j:=i) h3 (Nat.le_of_lt cS)
     omega
 have TV:(gN E p = .pure∨gN E p = .look)→wpOp P ops Q k K a w:=by
  intro oR
  have hq:pi.quiet=false:=by
   rw[hdr.quiet]
   rcases oR with h | h<;>rw[h]
  have hw:gN E p ≠ .write:=by rcases oR with h | h<;>(rw[h];exact fun h=>by cases h)
  refine Sm ho Fs (fun h=>by rw[hq] at h;cases h) (I.look T A Cr oR hv) Wp I.rel dV (Nat.le_trans Bv aoH) (fun b h1 h2=>by omega) pI fun m' rv w' Wt hR hT => ?_
  rw[hq] at hT
  simp only[Bool.false_eq_true,if_false] at hT
  have hmm:m'=m:=by
   funext b
   cases hm:m b with
   | some l=>exact hT.ext b l hm
   |
    none =>
    cases hm':m' b with
    | none=>rfl
    | some l=>have:=(hT.new b l hm' hm).1;omega
  subst hmm
  refine hK m' c _ w' ⟨by rw[HZ];exact I.IN,by rw[HJ];exact I.defs,I.aeX A hr,I.Rn T A (fun _ _ h=>h) Wt he,I.Qb,fun i q h1 h2 h3 => .inr (I.before i q h1 h2 h3),?_,hR,?_,?_⟩
  ·intro h
   obtain⟨h1,q,h2,h3⟩:=I.atc h
   refine⟨fun hS=>hS.elim (fun e => ?_) h1,q,h2,h3⟩
   subst e
   rw[hp] at h2
   cases h2
   exact hw h3
  ·exact Trans.trans (fun b h1 h2=>Cr b h1 (by omega)) (T.afW (Nat.zero_le _) I.Qb) (Ext.refl _ _) I.tr hT
  ·intro b l hb
   exact(I.dom b l hb).imp id fun⟨i,h1,h2⟩=>⟨i,.inr h1,h2⟩
 cases oR:gN E p with
 |
  write =>
  have hkc:k=c:=by
   rcases Nat.lt_trichotomy k c with h | h | h
   ·exact absurd (I.before k p h hp oR) hkS
   ·exact h
   ·exfalso
    obtain⟨hcS,pc,hpc,Sv⟩:=I.atc (by omega)
    obtain⟨qi,_,kH⟩:=At.pair T h bH hpc hp
    unfold FV at kH
    rw[Sv,oR] at kH
    simp only at kH
    rw[Ax h] at kH
    exact hcS (A.anc c kH)
  subst hkc
  refine Sm ho Fs (fun hq=>by rw[hdr.quiet,oR] at hq;cases hq) hv Wp I.rel dV (Nat.le_trans Bv aoH) hfk pI fun m' rv w' Wt hR hT => ?_
  have hq:pi.quiet=false:=by rw[hdr.quiet,oR]
  rw[hq] at hT
  simp only[Bool.false_eq_true,if_false] at hT
  obtain⟨c',hc1,hc2,hc3,hc4⟩:=G3 (fun i=>∃q,ps[i]? = some q∧gN E q = .write) _ (k+1) ops.size rfl bH
  have XQ:∀b,b<(st (k+1)).2.length→(st c').2[b]? = (st (k+1)).2[b]? := T.same hc1 hc2 fun i h1 h2 q hq hw=>hc3 i h1 h2 ⟨q,hq,hw⟩
  have aCe:=T.len hc1 hc2
  have ayV:=T.len (i:=c') (j:=ops.size) hc2 (Nat.le_refl _)
  have awK:∀b l,m' b=some l→m0 b≠none∨∃i,(i=k∨S i)∧i<ops.size∧(st i).2.length≤b∧b<(st (i+1)).2.length:=by
   intro b l hb
   cases hm:m b with
   | some l'=>exact(I.dom b l' hm).imp id fun⟨i,h1,h2⟩=>⟨i,.inr h1,h2⟩
   | none=>exact .inr ⟨k,.inl rfl,bH,(hT.new b l hb hm).1⟩
  have asW:∀b,(st (k+1)).2.length≤b→b<(st c').2.length→m' b=none:=by
   intro b h1 h2
   cases hm:m' b with
   | none=>rfl
   |
    some l =>
    exfalso
    rcases awK b l hm with h3 | ⟨i,hiS,cS,hi1,Mz⟩
    ·exact h3 (Cr b (by omega) (by omega))
    ·rcases Nat.lt_trichotomy i k with h3 | h3 | h3
     ·have:=T.len (i:=i+1) (j:=k) h3 (Nat.le_of_lt bH)
      omega
     ·subst h3;omega
     ·obtain⟨oi,qi,pii,_,hqi,_⟩:=T.at cS
      have:=I.late T h3 cS (hiS.resolve_left (by omega)) hqi
      rw[T.YG cS hqi this] at Mz
      omega
  have hTT:Trans lo m0 (st 0).2 w0 m' (st (k+1)).2 w':=Trans.trans (fun b h1 h2=>Cr b h1 (by omega)) (T.afW (Nat.zero_le _) (Nat.le_of_lt bH)) (T.afW (Nat.le_succ _) bH) I.tr hT
  refine hK m' c' _ w' ⟨by rw[HZ];exact I.IN,by rw[HJ];exact I.defs,I.aeX A hr,I.Rn T A hT.ext Wt he,hc2,?_,?_,hR.grow XQ asW,?_,awK⟩
  ·intro i q hi hq hw
   rcases Nat.lt_trichotomy i k with h | h | h
   ·exact .inr (I.before i q h hq hw)
   ·exact .inl h
   ·exact absurd ⟨q,hq,hw⟩ (hc3 i h hi)
  ·intro h
   obtain⟨q,hq,hw⟩:=hc4 h
   refine⟨fun hS => ?_,q,hq,hw⟩
   rcases hS with hS | hS
   ·omega
   ·rcases I.late T (by omega) h hS hq with h4 | h4<;>(rw[hw] at h4;cases h4)
  ·refine⟨hTT.ext,fun b l hb hn => ?_,hTT.size,hTT.cJ,hTT.same⟩
   obtain⟨⟨h1,h2⟩,h3⟩:=hTT.new b l hb hn
   refine⟨⟨h1,by omega⟩,?_⟩
   rcases h3 with h3 | h3 | h3
   ·exact .inl h3
   ·exact .inr (.inl fun hl=>h3 ((jO (XQ b h2)).1 hl))
   ·exact .inr (.inr h3)
 |
  quiet =>
  have hkc:k<c:=by
   rcases Nat.lt_or_ge k c with h | h
   ·exact h
   ·exfalso
    rcases Nat.lt_or_ge c k with h' | h'
    ·obtain⟨hcS,pc,hpc,Sv⟩:=I.atc (by omega)
     obtain⟨qi,_,kH⟩:=At.pair T h' bH hpc hp
     unfold FV at kH
     rw[Sv,oR] at kH
     simp only at kH
     rw[Ax h'] at kH
     exact hcS (A.anc c kH)
    ·have:k=c:=by omega
     subst this
     obtain⟨_,pc,hpc,Sv⟩:=I.atc bH
     rw[hp] at hpc
     cases hpc
     rw[oR] at Sv
     cases Sv
  have ZY:∀i,k<i→i<c→∀q,ps[i]? = some q→gN E q ≠ .write:=by
   intro i h1 h2 q hq hw
   have cS:i<ops.size:=Nat.lt_of_lt_of_le h2 I.Qb
   obtain⟨qi,_,kH⟩:=At.pair T h1 cS hp hq
   unfold FV at kH
   rw[oR,hw] at kH
   simp only at kH
   rw[Ax h1] at kH
   exact A.desc i cS (I.before i q h2 hq hw) kH
  have OU:∀b,b<(st (k+1)).2.length→(st c).2[b]? = (st (k+1)).2[b]? := T.same hkc I.Qb fun i h1 h2 q hq=>ZY i h1 h2 q hq
  have hs0:∀b,b<(st k).2.length→(st c).2[b]? = (st k).2[b]? := T.same (Nat.le_of_lt hkc) I.Qb fun i h1 h2 q hq=>by
   rcases Nat.lt_or_ge k i with h | h
   ·exact ZY i h h2 q hq
   ·have:i=k:=by omega
    subst this
    rw[hp] at hq
    cases hq
    rw[oR]
    exact fun h=>by cases h
  have aDV:=T.len (i:=k+1) (j:=c) hkc I.Qb
  refine Sm ho Fs (fun _=>oR) hv Wp (I.rel.restrict hs0) dV (Nat.le_trans Bv awB) hfk pI fun m' rv w' Wt hR hT => ?_
  have hq:pi.quiet=true:=by rw[hdr.quiet,oR]
  rw[hq] at hT
  simp only[if_true] at hT
  have KI:∀rb,rb<w.heap.size→w'.heap[rb]? = w.heap[rb]? := fun rb Ed=>hT.cJ rb Ed fun b l hb _ hl=>absurd hl (IV hb)
  have tS:∀b l,m' b=some l→m b=none→((st k).2.length≤b∧b<(st (k+1)).2.length)∧(w.heap.size≤l.rb∨¬Live (st (k+1)).2 b):=by
   intro b l h1 h2
   obtain⟨h3,h4⟩:=hT.new b l h1 h2
   refine⟨h3,?_⟩
   rcases h4 with h4 | h4 | ⟨b0,l0,g1,_,g3,_⟩
   ·exact .inl h4
   ·exact .inr h4
   ·exact absurd g3 (IV g1)
  have avZ:∀b l,m b=some l→l.rb<w.heap.size:=by
   intro b l hb
   obtain⟨arr,e,fz,h1,_⟩:=I.rel.valid b l hb
   exact(Array.getElem?_eq_some_iff.1 h1).1
  have Qt:∀rb j,rb<w.heap.size→w'.cell? ⟨rb,j,none⟩=w.cell? ⟨rb,j,none⟩:=by
   intro rb j Ed
   unfold World.cell?
   simp only[KI rb Ed]
  have CO:∀b l,m' b=some l→(st (k+1)).2.length≤b→m b=some l:=by
   intro b l hb h
   cases hm:m b with
   | some l'=>have:=hT.ext b l' hm;rw[hb] at this;exact this.symm
   | none=>have:=(tS b l hb hm).1.2;omega
  refine hK m' c _ w' ⟨by rw[HZ];exact I.IN,by rw[HJ];exact I.defs,I.aeX A hr,I.Rn T A hT.ext Wt he,I.Qb,fun i q h1 h2 h3 => .inr (I.before i q h1 h2 h3),?_,⟨hR.valid,?_,?_,?_⟩,?_,?_⟩
  ·intro h
   obtain⟨h1,q,h2,h3⟩:=I.atc h
   exact⟨fun hS=>hS.elim (fun e=>by omega) h1,q,h2,h3⟩
  ·intro b l cs e pp hm hb
   rcases Nat.lt_or_ge b (st (k+1)).2.length with h | h
   ·exact hR.row b l cs e pp hm (by rw[←OU b h];exact hb)
   ·have Yc:=CO b l hm h
    obtain⟨h1,h2,h3,h4⟩:=I.rel.row b l cs e pp Yc hb
    refine⟨h1,h2,h3,fun i hi => ?_⟩
    obtain⟨rv',g1,g2,g3⟩:=h4 i hi
    exact⟨rv',by rw[Qt _ _ (avZ b l Yc)];exact g1,g2.mono hT.ext,g3⟩
  ·intro b1 b2 l1 l2 C2 h1 h2 CC Hz Ed
   have fresh:∀b b' l l',m' b=some l→m b=none→m b'=some l'→Live (st c).2 b→l.rb=l'.rb→False:=by
    intro b b' l l' g1 g2 g3 g4 g5
    obtain⟨⟨_,g6⟩,g7⟩:=tS b l g1 g2
    rcases g7 with g7 | g7
    ·have:=avZ b' l' g3;omega
    ·exact g7 ((jO (OU b g6)).1 g4)
   cases QQ:m b1 with
   |
    some l1' =>
    cases hm2:m b2 with
    |
     some l2' =>
     have e1:l1'=l1:=by have:=hT.ext b1 l1' QQ;rw[h1] at this;injection this with this;exact this.symm
     have e2:l2'=l2:=by have:=hT.ext b2 l2' hm2;rw[h2] at this;injection this with this;exact this.symm
     subst e1 e2
     exact I.rel.inj b1 b2 _ _ C2 QQ hm2 CC Hz Ed
    |
     none =>
     have e1:l1'=l1:=by have:=hT.ext b1 l1' QQ;rw[h1] at this;injection this with this;exact this.symm
     subst e1
     exact(fresh b2 b1 _ _ h2 hm2 QQ Hz Ed.symm).elim
   |
    none =>
    cases hm2:m b2 with
    |
     some l2' =>
     have e2:l2'=l2:=by have:=hT.ext b2 l2' hm2;rw[h2] at this;injection this with this;exact this.symm
     subst e2
     exact(fresh b1 b2 _ _ h1 QQ hm2 CC Ed).elim
    |
     none =>
     have g1:=(tS b1 l1 h1 QQ).1.2
     have g2:=(tS b2 l2 h2 hm2).1.2
     exact hR.inj b1 b2 l1 l2 C2 h1 h2 ((jO (OU b1 g1)).1 CC) ((jO (OU b2 g2)).1 Hz) Ed
  ·intro x hx
   refine⟨(hR.Ev x hx).1,fun b l hb hm hl => ?_⟩
   obtain⟨⟨e0,fz0,q1⟩,q2⟩:=I.rel.Ev x hx
   cases QQ:m b with
   |
    some l' =>
    have e1:l'=l:=by have:=hT.ext b l' QQ;rw[hm] at this;injection this with this;exact this.symm
    subst e1
    exact q2 b l' hb QQ hl
   |
    none =>
    obtain⟨⟨_,g6⟩,g7⟩:=tS b l hm QQ
    rcases g7 with g7 | g7
    ·have:=(Array.getElem?_eq_some_iff.1 q1).1
     omega
    ·exact(g7 ((jO (OU b g6)).1 hl)).elim
  ·refine⟨fun b l hb=>hT.ext b l (I.tr.ext b l hb),fun b l hb hn => ?_,Nat.le_trans I.tr.size hT.size,fun rb Ed hk => ?_,hT.same.1.trans I.tr.same.1,hT.same.2.1.trans I.tr.same.2.1,hT.same.2.2.trans I.tr.same.2.2⟩
   ·cases hm:m b with
    |
     some l' =>
     have e1:l'=l:=by have:=hT.ext b l' hm;rw[hb] at this;injection this with this;exact this.symm
     subst e1
     exact I.tr.new b l' hm hn
    |
     none =>
     obtain⟨⟨g1,g2⟩,g3⟩:=tS b l hb hm
     refine⟨⟨by omega,by omega⟩,?_⟩
     rcases g3 with g3 | g3
     ·exact .inl (Nat.le_trans I.tr.size g3)
     ·exact .inr (.inl fun hl=>g3 ((jO (OU b g2)).1 hl))
   ·rw[KI rb (Nat.lt_of_lt_of_le Ed I.tr.size),I.tr.cJ rb Ed hk]
  ·intro b l hb
   cases hm:m b with
   | some l'=>exact(I.dom b l' hm).imp id fun⟨i,h1,h2⟩=>⟨i,.inr h1,h2⟩
   | none=>exact .inr ⟨k,.inl rfl,bH,(tS b l hb hm).1⟩
 | pure=>exact TV (.inl oR)
 | look=>exact TV (.inr oR)
end
end Go.PM
namespace Go.PM
section
variable {P:Program} {E:BL} {n:Nat} {call:gQ} {lo L0:Nat}
theorem Trans.fresh {m m':dR} {H H1 H2:aF} {w w':World} (h:Trans lo m H w m' H1 w') (h1:H.length≤H1.length) (hf:∀b,H.length≤b→b<H2.length→m b=none):∀b,H1.length≤b→b<H2.length→m' b=none:=by
 intro b C2 hb2
 cases hm:m' b with
 | none=>rfl
 |
  some l =>
  exfalso
  have hn:=hf b (by omega) hb2
  have:=(h.new b l hm hn).1
  omega
structure JK (n L0:Nat) (m:dR) (ρ:Env) (H:aF) (a:Act) (w:World):Prop where
 IN:a.tmps.size=n
 defs:a.defers=[]
 env:∀t,RV m (ρ t) (a.tmps.getD t undef)
 rel:Rel m L0 H w
theorem Rf {p q:Nat→Bool}:∀ {l:List Nat} {i:Nat},(∀x∈l,q x=true→p x=true)→i∈l→p i=true→q i=false→l.countP q<l.countP p
 |
  x::l,i,h,hi,hp,hq=>by
  rw[List.countP_cons,List.countP_cons]
  have hle:l.countP q≤l.countP p:=List.countP_mono_left fun x hx=>h x (List.mem_cons_of_mem _ hx)
  rcases List.mem_cons.1 hi with rfl | hi
  ·rw[if_neg (by simp[hq]),if_pos hp];omega
  ·have:=Rf (fun x hx=>h x (List.mem_cons_of_mem _ hx)) hi hp hq
   have:(if q x=true then 1 else 0)≤(if p x=true then 1 else 0):=by
    by_cases hqx:q x=true
    ·rw[if_pos hqx,if_pos (h x List.mem_cons_self hqx)];omega
    ·rw[if_neg hqx];omega
   omega
theorem NA {listed:Array Bool} {k i:Nat} (hk:k<listed.size):(listed.setIfInBounds k true).getD i false=true↔(i=k∨listed.getD i false=true):=by
 rcases Nat.lt_or_ge i listed.size with h | h
 ·by_cases e:i=k
  ·subst e;simp[h]
  ·simp[h,e,Ne.symm e]
 ·have:i≠k:=by omega
  simp[h,this]
theorem akP {ops:Array Oper} {uZ:List PI} {ps:List oQ} {M:List Nat} {st:Nat→Env×aF} {m0:dR} {w0:World} (T:Text P E n ops uZ ps M call lo st) (pI:yV P L0 call) (dV:L0≤lo) (Bv:L0≤(st 0).2.length)
  (Cr:∀b,(st 0).2.length≤b→b<(st ops.size).2.length→m0 b=none) {Q:Exit→Act→World→Prop}
  (hQ:∀m' a' w',JK n L0 m' (st ops.size).1 (st ops.size).2 a' w'→Trans lo m0 (st 0).2 w0 m' (st ops.size).2 w'→Q .normal a' w') :
  ∀(fuel:Nat) (listed:Array Bool) (m:dR) (c:Nat) (a:Act) (w:World),listed.size=ops.size→((List.range ops.size).countP fun i => !listed.getD i false)≤fuel →
  uL E n ops ps lo L0 st m0 w0 [] (fun i=>listed.getD i false=true) m c a w→wpAny P .any ops Q fuel listed a w:=by
 have fin:∀(listed:Array Bool) (m:dR) (c:Nat) (a:Act) (w:World),listed.size=ops.size→(Region.ready .any ops listed=[])→uL E n ops ps lo L0 st m0 w0 [] (fun i=>listed.getD i false=true) m c a w→Q .normal a w:=by
  intro listed m c a w hs hr I
  have all:∀i,i<ops.size→listed.getD i false=true:=by
   intro i
   induction i using Nat.strongRecOn with
   |
    _ i ih =>
    intro hi
    cases hl:listed.getD i false with
    | true=>rfl
    |
     false =>
     exfalso
     obtain⟨o,p,pi,ho,_,_,_,hdr,_⟩:=T.at hi
     have:i∈Region.ready .any ops listed:=by
      rw[mem_ready]
      refine⟨?_,o,ho,fun e he hb => ?_⟩
      ·have Wm:i<listed.size:=by omega
       simpa[Wm] using hl
      ·have:=hdr.back e (by simpa using he) hb
       exact ih e.on this (by omega)
     rw[hr] at this
     cases this
  have hcN:c=ops.size:=by
   rcases Nat.lt_or_ge c ops.size with h | h
   ·exact absurd (all c h) (I.atc h).1
   ·have:=I.Qb;omega
  subst hcN
  exact hQ m a w ⟨I.IN,I.defs,fun t=>I.tm t ops.size (Nat.le_refl _) fun i o hi _=>⟨fun _=>Hq hi,fun h=>all i h⟩,I.rel⟩ I.tr
 intro fuel
 induction fuel with
 |
  zero =>
  intro listed m c a w hs hc I
  have hr:Region.ready .any ops listed=[]:=by
   rw[List.eq_nil_iff_forall_not_mem]
   intro i hi
   have nH:=mem_ready.1 hi
   obtain⟨h1,o,ho,_⟩:=nH
   have bH:i<ops.size:=(Array.getElem?_eq_some_iff.1 ho).1
   have h0:((List.range ops.size).countP fun i => !listed.getD i false)=0:=by omega
   rw[List.countP_eq_zero] at h0
   have:=h0 i (List.mem_range.2 bH)
   have Wm:i<listed.size:=by omega
   simp[Wm] at this h1
   rw[h1] at this
   cases this
  exact⟨hr,fin listed m c a w hs hr I⟩
 |
  succ fuel ih =>
  intro listed m c a w hs hc I
  refine⟨fun hr=>fin listed m c a w hs hr I,fun k hk => ?_⟩
  obtain⟨h1,o,ho,hb⟩:=mem_ready.1 hk
  have bH:k<ops.size:=(Array.getElem?_eq_some_iff.1 ho).1
  have hkl:k<listed.size:=by omega
  have hkf:listed.getD k false=false:=by simpa[hkl] using h1
  refine adR T pI dV Bv Cr I ho (by rw[hkf];exact fun h=>by cases h) (fun e he hbd=>hb e (by simpa using he) hbd) fun m' c' a' w' I'=>ih _ m' c' a' w' (by simpa using hs) ?_ ?_
  ·have:((List.range ops.size).countP fun i => !(listed.setIfInBounds k true).getD i false)<((List.range ops.size).countP fun i => !listed.getD i false):=by
    refine Rf (i:=k) (fun x _ hx => ?_) (List.mem_range.2 bH) (by rw[hkf];rfl) ?_
    ·cases hlx:listed.getD x false with
     | false=>rfl
     |
      true =>
      have:=(NA (i:=x) hkl).2 (.inr hlx)
      rw[this] at hx
      cases hx
    ·rw[(NA hkl).2 (.inl rfl)];rfl
   omega
  ·have e:(fun i=>(listed.setIfInBounds k true).getD i false=true)=fun i=>i=k∨listed.getD i false=true:=by
    funext i
    exact propext (NA hkl)
   rw[e]
   exact I'
theorem Rel.drew {m:dR} {H:aF} {w w':World} (h:Rel m L0 H w) (hw:w'.heap=w.heap):Rel m L0 H w':=by
 have hc:∀x,w'.cell? x=w.cell? x:=fun x=>by unfold World.cell?;rw[hw]
 refine⟨fun b l hb=>by rw[hw];exact h.valid b l hb,fun b l cs e p hm hb => ?_,h.inj,fun x hx=>⟨by rw[hw];exact(h.Ev x hx).1,(h.Ev x hx).2⟩⟩
 obtain⟨h1,h2,h3,h4⟩:=h.row b l cs e p hm hb
 refine⟨h1,h2,h3,fun i hi => ?_⟩
 rw[hc]
 exact h4 i hi
theorem XA {id:Nat} {ops:Array Oper} {draw:Bool} {uZ:List PI} (ES:P.follows .mixedOrders=true) (pI:yV P L0 call) (sQ:tD call) (hp:Ag P E n ops draw=some uZ) {ρ bI:Env} {H H':aF}
  (hv:iQ call lo uZ ρ H=some (bI,H')) {m:dR} {a:Act} {w:World} (h:JK n L0 m ρ H a w) (dV:L0≤lo) (hlen:L0≤H.length) (hf:∀b,H.length≤b→b<H'.length→m b=none) {Q:Exit→Act→World→Prop}
  (hQ:∀m' a' w',JK n L0 m' bI H' a' w'→Trans lo m H w m' H' w'→Q .normal a' w'):(Code.region id ops draw).wp P Q a w:=by
 obtain⟨ps,M,Fs⟩:=Mr hp
 obtain⟨st,hs0,hsn,DZ⟩:=Jn hv
 have hN:uZ.length=ops.size:=by rw[Fs.aA6];simp
 rw[hN] at hsn
 cases draw with
 |
  true =>
  have T:Text P E n ops uZ ps M call lo st:=⟨Fs,sQ,DZ⟩
  apply wp_region_any ES
  have e0:(st 0).1=ρ:=by rw[hs0]
  have e1:(st 0).2=H:=by rw[hs0]
  have e2:(st ops.size).1=bI:=by rw[hsn]
  have e3:(st ops.size).2=H':=by rw[hsn]
  obtain⟨c,hc1,hc2,hc3,hc4⟩:=G3 (fun i=>∃q,ps[i]? = some q∧gN E q = .write) _ 0 ops.size rfl (Nat.zero_le _)
  have XQ:=T.same hc1 hc2 fun i h1 h2 q hq hw=>hc3 i h1 h2 ⟨q,hq,hw⟩
  have avH:=T.len hc1 hc2
  have ayV:=T.len (i:=c) (j:=ops.size) hc2 (Nat.le_refl _)
  have hgr:=h.rel.grow (by rw[←e1];exact XQ) (fun b h1 h2=>hf b h1 (by rw[←e3];omega))
  have ahO:∀i,(Array.replicate ops.size false).getD i false=true→False:=by
   intro i hi
   rcases Nat.lt_or_ge i ops.size with h | h<;>simp[h] at hi
  refine akP (m0:=m) (w0:=w) T pI dV (by rw[e1];exact hlen) (by rw[e1,e3];exact hf) (by rw[e1,e2,e3];exact hQ) ops.size _ m c a _ (by simp) (Nat.le_trans List.countP_le_length (by simp)) ?_
  refine⟨h.IN,h.defs,fun i o _ hi=>(ahO i hi).elim,fun t j hj hw => ?_,hc2,fun i q hi hq hw=>absurd ⟨q,hq,hw⟩ (hc3 i (Nat.zero_le _) hi),fun hc=>⟨fun h=>ahO _ h,hc4 hc⟩,hgr.drew rfl,?_,fun b l hb => .inl (by rw[hb];exact fun h=>by cases h)⟩
  ·have e:(st j).1 t=ρ t:=by
    rw[←e0]
    refine T.RJ (Nat.zero_le _) hj fun i oi _ Mz hoi hd => ?_
    have Td:ops.toList[i]? = some oi:=by simpa using hoi
    exact(ahO i ((hw i oi Td hd).2 Mz)).elim
   rw[e]
   exact h.env t
  ·rw[e1]
   refine⟨fun _ _ h=>h,fun b l hb hn=>(by rw[hb] at hn;cases hn),Nat.le_refl _,fun _ _ _=>rfl,rfl,rfl,rfl⟩
 |
  false =>
  apply wp_region
  have key:∀d i,ops.size-i=d→i≤ops.size→∀m1 a1 w1,JK n L0 m1 (st i).1 (st i).2 a1 w1→L0≤(st i).2.length→(∀b,(st i).2.length≤b→b<H'.length→m1 b=none) →
    (∀m' a' w',JK n L0 m' bI H' a' w'→Trans lo m1 (st i).2 w1 m' H' w'→Q .normal a' w')→wpOps P ops Q ((List.range ops.size).drop i) a1 w1:=by
   intro d
   induction d with
   |
    zero =>
    intro i hd hi m1 a1 w1 h1 _ _ hQ1
    have:i=ops.size:=by omega
    subst this
    rw[List.drop_eq_nil_of_le (by simp)]
    rw[hsn] at h1 hQ1
    exact hQ1 m1 a1 w1 h1 (Trans.refl _ _ _ _)
   |
    succ d ih =>
    intro i hd hi m1 a1 w1 h1 CC hf1 hQ1
    have bH:i<ops.size:=by omega
    rw[List.drop_eq_getElem_cons (by simpa using bH),wpOps_cons]
    have ho:ops.toList[i]? = some ops[i]:=by simp[bH]
    obtain⟨p,pi,hp1,MH,apY,_,hdr⟩:=Fs.each i _ ho
    have apF:=DZ i pi MH
    obtain⟨v,hv1,hv2⟩:=Ae apF
    have hq:pi.quiet=false:=(hdr rfl).1
    have hE1:=JL sQ apF
    have hE2:Ext lo (st (i+1)).2 H':=by
     have:∀d j,ops.size-j=d→j≤ops.size→Ext lo (st j).2 H':=by
      intro d
      induction d with
      | zero =>
        intro j hd hj;have:j=ops.size:=by omega
        subst this;rw[hsn];exact Ext.refl _ _
      |
       succ d ih =>
       intro j hd hj
       have hjl:j<uZ.length:=by omega
       exact(JL sQ (DZ j uZ[j] (List.getElem?_eq_getElem hjl))).trans (ih (j+1) (by omega) (by omega))
     exact this _ (i+1) rfl bH
    have DV:(List.range ops.size)[i]'(by simpa using bH)=i:=by simp
    rw[DV]
    refine Sm (by simp[bH]) apY (fun h=>by rw[hq] at h;cases h) hv1 (fun t _=>h1.env t) h1.rel dV CC (fun b C2 hb2=>hf1 b C2 (Nat.lt_of_lt_of_le hb2 hE2.len)) pI fun m' rv w' Wt hR hT => ?_
    rw[hq] at hT
    simp only[Bool.false_eq_true,if_false] at hT
    refine ih (i+1) (by omega) bH m' _ w' ⟨by rw[HZ];exact h1.IN,by rw[HJ];exact h1.defs,fun t => ?_,hR⟩ (Nat.le_trans CC hE1.len) (hT.fresh hE1.len hf1) fun m2 a2 w2 h2 hT2=>hQ1 m2 a2 w2 h2 (Trans.trans hf1 hE1 hE2 hT hT2)
    rw[hv2,apY.dst]
    cases hd:ops[i].dst with
    | none=>exact(h1.env t).mono hT.ext
    |
     some d =>
     rw[UN (by rw[h1.IN];exact apY.bound d hd)]
     show RV m' (if t=d then v else (st i).1 t) _
     by_cases e:t=d
     ·rw[if_pos e,if_pos e];exact Wt
     ·rw[if_neg e,if_neg e];exact(h1.env t).mono hT.ext
  have:=key ops.size 0 (by omega) (Nat.zero_le _) m a w (by rw[hs0];exact h) (by rw[hs0];exact hlen) (by rw[hs0];exact hf) (by rw[hs0];exact hQ)
  simpa using this
end
end Go.PM