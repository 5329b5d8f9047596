/- Texts of a claim, in one: part 2. -/
import Derived.LoopN
import Derived.Test.YtodamlihdkalfaaGreatDoorKUa
set_option linter.unusedSimpArgs false
set_option linter.unusedVariables false
namespace Go.PM
section
variable {P:Program} {m:dF} {L0:Nat} {H:aE} {w:World}
theorem RL.const {zs:List Value} (h:zs.all kM=true):RL m zs zs :=
 ⟨rfl,fun j hj=>by
  have:=RV.const (m:=m) (List.all_eq_true.1 h _ (List.getElem_mem hj))
  simpa[List.getD_eq_getElem?_getD,List.getElem?_eq_getElem hj] using this⟩
theorem uP (n:Nat) (zs:List Value):(cV n zs).length=n*zs.length:=by simp[cV]
theorem wI (n:Nat) {zs:List Value} (h:zs.all kM=true) (h0:1≤zs.length):RL m (cV n zs) (cV n zs):=by
 refine⟨rfl,fun i hi => ?_⟩
 rw[uP] at hi
 have bB:i % zs.length<zs.length:=Nat.mod_lt _ h0
 have e:(cV n zs).getD i undef=zs.getD (i % zs.length) undef:=by simp[cV,List.getD_eq_getElem?_getD,hi]
 rw[e]
 exact(RL.const h).2 _ bB
theorem Q0 (n:Nat) {zs:List Value} (h:zs.all fQ=true) (h0:1≤zs.length):(cV n zs).all fQ=true:=by
 rw[List.all_eq_true]
 intro x hx
 obtain⟨i,_,rfl⟩:=List.mem_map.1 hx
 have bB:i % zs.length<zs.length:=Nat.mod_lt _ h0
 have:=List.all_eq_true.1 h _ (List.getElem_mem bB)
 simpa[List.getD_eq_getElem?_getD,List.getElem?_eq_getElem bB] using this
theorem IP (z:Array Value) (n:Nat) (h0:1≤z.size):(madeCells z (n*z.size)).toList=cV n z.toList:=by
 apply List.ext_getElem
 ·simp[madeCells,cV]
 ·intro i h1 h2
  have bB:i % z.size<z.size:=Nat.mod_lt _ h0
  simp[madeCells,cV,bB]
theorem GU (z:Array Value) (n:Nat) (h0:1≤z.size):(Builtin.zeroCells z n).toList=cV n z.toList:=by
 apply List.ext_getElem
 ·simp[Builtin.zeroCells,cV]
 ·intro i h1 h2
  have bB:i % z.size<z.size:=Nat.mod_lt _ h0
  simp[Builtin.zeroCells,cV,bB]
theorem Yz {t:TypeId} {agg:Bool} {size nb lo:Nat} {z:List Value} (ht:mD P t=some (agg,size,z,nb)) (Hg:z.all fQ=true) (SA:z.all kM=true) (hR:Rel m L0 H w) (hf:m H.length=none) :
  cI P (do pure (.value (←Instr.alloc t true (.tuple #[])))) L0 lo m H w (.pointer (some ⟨H.length,0,none⟩)) (H++[.row z z.length false]):=by
 obtain⟨i,d,zz,hi,hd,Ho,rfl,rfl,rfl,rfl⟩:=iR ht
 have pJ:(Instr.alloc t true (.tuple #[])).run P w = .ok (.pointer (some ⟨w.heap.size,0,none⟩)) (w.alloc (.cells zz.cells t)):=by
  simp[Instr.alloc,zeroValue,typeInfo,hi,Ho,newVar,newRow]
 have hA:=wY hR hf (w':=w.alloc (.cells zz.cells t)) (arr:=zz.cells) (e:=t) (fz:=(0,0)) rfl ⟨rfl,rfl,rfl⟩ (cs:=aL zz) (fO:=(aL zz).length) (Qt:=false)
  (by rw[eZ];exact Nat.le_refl _) (fun i hi=>by
   have:=(RL.const (m:=m) SA).2 i hi
   rwa [←zQ,fT]) Hg (fun j _ h=>by simp at h)
 exact cI.value pJ (.ptr _ 0 _ (bQ m _ _)) hA.1 (hA.2 lo)
theorem Zh {t:TypeId} {v r:Value} {lo:Nat} (hv:RV m v r) (hs:(aL v).all fQ=true) (hR:Rel m L0 H w) (hf:m H.length=none) :
  cI P (do pure (.value (←Instr.box t r))) L0 lo m H w (.pointer (some ⟨H.length,0,none⟩)) (H++[.row (aL v) (aL v).length false]):=by
 have pJ:(Instr.box t r).run P w = .ok (.pointer (some ⟨w.heap.size,0,none⟩)) (w.alloc (.cells r.cells t)):=by
  simp[Instr.box,newVar,newRow]
 have hA:=wY hR hf (w':=w.alloc (.cells r.cells t)) (arr:=r.cells) (e:=t) (fz:=(0,0)) rfl ⟨rfl,rfl,rfl⟩ (cs:=aL v) (fO:=(aL v).length) (Qt:=false)
  (by rw[eZ,hv.aL.1];exact Nat.le_refl _) (fun i hi=>by
   have:=hv.aL.2 i hi
   rwa [←zQ,fT]) hs (fun j _ h=>by simp at h)
 exact cI.value pJ (.ptr _ 0 _ (bQ m _ _)) hA.1 (hA.2 lo)
theorem WQ {t:TypeId} {agg:Bool} {size nb lo:Nat} {z:List Value} {kl kc:IntKind} {l c:Int} (ht:jX P t=some (agg,size,z,nb)) (Hg:z.all fQ=true) (SA:z.all kM=true) (VC:size=z.length) (Ez:1≤size)
  (hl:0≤l) (hlc:l≤c) (hb:c*nb≤281474976710656) (hc:c≤9223372036854775807) (hR:Rel m L0 H w) (hf:m H.length=none) :
  cI P (do pure (.value (←Instr.makeSlice t (.int kl l) (.int kc c)))) L0 lo m H w (.slice (some ⟨H.length,0,none⟩) l.toNat c.toNat) (H++[.row (cV c.toNat z) z.length false]):=by
 obtain⟨e,hu,II⟩:=jF ht
 obtain⟨i,d,zz,hi,hd,Ho,rfl,rfl,rfl,rfl⟩:=iR II
 have pJ:=run_make (P:=P) w t e i zz hu hi Ho kl kc l c hl hlc (by rw[Int.mul_comm];exact hb) hc
 have CP:i.size=zz.cells.size:=by rw[VC,eZ]
 rw[CP] at pJ Ez
 have TE:(madeCells zz.cells (c.toNat*zz.cells.size)).toList=cV c.toNat (aL zz):=by rw[IP _ _ Ez,fT]
 have amL:(madeCells zz.cells (c.toNat*zz.cells.size)).size=c.toNat*(aL zz).length:=by rw[size_madeCells,eZ]
 have Wq:1≤(aL zz).length:=by rw[←eZ];exact Ez
 have hA:=wY hR hf (w':=w.alloc (.cells (madeCells zz.cells (c.toNat*zz.cells.size)) e)) (arr:=madeCells zz.cells (c.toNat*zz.cells.size)) (e:=e) (fz:=(0,0)) rfl ⟨rfl,rfl,rfl⟩
  (cs:=cV c.toNat (aL zz)) (fO:=(aL zz).length) (Qt:=false) (by rw[amL,uP];exact Nat.le_refl _) (fun j hj=>by
   have:=(wI (m:=m) c.toNat SA Wq).2 j hj
   rwa [←zQ,TE]) (Q0 _ Hg Wq) (fun j _ h=>by simp at h)
 refine cI.value pJ ?_ hA.1 (hA.2 lo)
 exact .slice _ 0 _ _ _ _ _ (bQ m _ _) (by omega) (Nat.le_refl _) (fun _=>rfl) (.inr ⟨rfl,by simp only[amL];omega⟩)
theorem aaE {t:TypeId} {agg:Bool} {size nb lo n:Nat} {z cs:List Value} {parts:List (Nat×Operand)} {ρ:Env} {a:Act} (ht:jX P t=some (agg,size,z,nb)) (Hg:z.all fQ=true) (SA:z.all kM=true) (VC:size=z.length) (Ez:1≤size) (hn:n*size≤16777216)
  (agB:wB ((List.range n).map fun i=>(i*z.length,z.length)) (cV n z) (parts.map fun(i,x)=>(i,ev ρ x))=some cs) (vJ:cs.all fQ=true) (hr:∀p∈parts,RV m (ev ρ p.2) (a.eval p.2))
  (hR:Rel m L0 H w) (hf:m H.length=none) :
  cI P (do pure (.value (←Instr.buildSlice t n (parts.toArray.map fun(i,x)=>(i,a.eval x))))) L0 lo m H w (.slice (some ⟨H.length,0,none⟩) n n) (H++[.row cs z.length false]):=by
 obtain⟨e,hu,II⟩:=jF ht
 obtain⟨i,d,zz,hi,hd,Ho,rfl,rfl,rfl,rfl⟩:=iR II
 have CP:i.size=zz.cells.size:=by rw[VC,eZ]
 have Wq:1≤(aL zz).length:=by rw[←eZ,←CP];exact Ez
 have Mv:∀j q,((List.range n).map fun i=>(i*(aL zz).length,(aL zz).length))[j]? = some q→(fun i'=>some (i'*i.size,i.size):Nat→Option (Nat×Nat)) j=some q:=by
  intro j q hj
  simp only[List.getElem?_map,Option.map_eq_some_iff] at hj
  obtain⟨k,hk,rfl⟩:=hj
  have XS:=(List.getElem?_eq_some_iff.1 hk)
  obtain⟨hk1,hk2⟩:=XS
  simp at hk2
  subst hk2
  rw[←VC]
 have hz:RL m (cV n (aL zz)) ((Array.range (n*i.size)).map (zz.cells[· % zz.cells.size]!)).toList:=by
  have:=wI (m:=m) n SA Wq
  rw[CP]
  have e1:=IP zz.cells n (by rw[←CP];exact Ez)
  rw[fT] at e1
  show RL m _ (madeCells zz.cells (n*zz.cells.size)).toList
  rw[e1]
  exact this
 obtain⟨Lx,h1,h2⟩:=Qw (m:=m) _ _ Mv (parts.map fun(i,x)=>(i,ev ρ x)) (parts.map fun(i,x)=>(i,a.eval x)) _ _ cs
  (by simp[Function.comp_def]) (by simpa[Function.comp_def] using RL.map (l:=parts) (f:=fun p=>ev ρ p.2) (g:=fun p=>a.eval p.2) hr) hz agB
 have hlen:cs.length=n*(aL zz).length:=by rw[O6 _ _ _ _ agB,uP]
 have emap:(Array.map (fun x:Nat×Operand=>(x.1,a.eval x.2)) parts.toArray).toList=parts.map fun(i,x)=>(i,a.eval x):=by simp
 have SW:¬(2^24<n*i.size):=by omega
 have pJ:(Instr.buildSlice t n (parts.toArray.map fun(i,x)=>(i,a.eval x))).run P w = .ok (.slice (some ⟨w.heap.size,0,none⟩) n n) (w.alloc (.cells Lx e)):=by
  have Xz:Instr.fill (fun i'=>some (i'*i.size,i.size)) ((Array.range (n*i.size)).map (zz.cells[· % zz.cells.size]!)) (Array.map (fun x:Nat×Operand=>(x.1,a.eval x.2)) parts.toArray).toList=some Lx:=by rw[emap];exact h1
  by_cases XZ:n*i.size=0
  ·rw[XZ] at Xz
   simp only[show ∀f:Nat→Value,(Array.range 0).map f = #[] from fun f=>by simp] at Xz
   unfold Instr.buildSlice
   simp only[Sem.run_bind,run_underlying hu,Result.andThen_ok,run_sizeOf e i hi,XZ,if_true,Sem.run_pure,show ¬(0>2^24) by omega,if_false]
   rw[show ∀f:Nat→Value,(Array.range 0).map f = #[] from fun f=>by simp]
   simp only[Xz]
   simp[newRow]
  ·unfold Instr.buildSlice
   simp only[Sem.run_bind,run_underlying hu,Result.andThen_ok,run_sizeOf e i hi,XZ,if_false,Sem.run_pure,gt_iff_lt,SW,zeroValue,typeInfo,run_program,hi,Ho]
   simp only[Xz]
   simp[newRow]
 have Th:Lx.size=n*(aL zz).length:=by rw[←hlen];simpa using h2.1.symm
 have hA:=wY hR hf (w':=w.alloc (.cells Lx e)) (arr:=Lx) (e:=e) (fz:=(0,0)) rfl ⟨rfl,rfl,rfl⟩ (cs:=cs) (fO:=(aL zz).length) (Qt:=false)
  (by rw[hlen,Th];exact Nat.le_refl _) (fun j hj=>by rw[←zQ];exact h2.2 j hj) vJ (fun j _ h=>by simp at h)
 refine cI.value pJ ?_ hA.1 (hA.2 lo)
 exact .slice _ 0 _ _ _ _ _ (bQ m _ _) (Nat.le_refl _) (Nat.le_refl _) (fun _=>rfl) (.inr ⟨rfl,by simp only[Th];omega⟩)
theorem TM (g:Value→ByteArray→Sem (ForInStep ByteArray)) (hg:∀n s,g (.int .u8 n) s=pure (ForInStep.yield (s.push (UInt8.ofNat n.toNat)))):∀(cs rs:List Value) (bs:List UInt8) (acc:ByteArray),RL m cs rs→tZ cs=some bs→∀w,
  (forIn rs acc g).run P w = .ok ⟨(acc.data.toList++bs).toArray⟩ w:=by
 intro cs
 induction cs with
 |
  nil =>
  intro rs bs acc hr hb w
  have e0:rs=[]:=List.eq_nil_of_length_eq_zero hr.1.symm
  subst e0
  cases hb
  simp
 |
  cons c cs ih =>
  intro rs bs acc hr hb w
  cases rs with
  | nil=>exact absurd hr.1 (by simp)
  |
   cons r rs =>
   obtain⟨hc,Nv⟩:=hr.jL
   unfold tZ at hb
   split at hb
   ·rename_i heq;cases heq
   ·rename_i n rest heq
    cases heq
    cases hc
    cases h2:tZ cs with
    | none=>rw[h2] at hb;cases hb
    |
     some bs' =>
     rw[h2] at hb
     cases hb
     simp only[List.forIn_cons,hg,Sem.run_bind,Sem.run_pure,Result.andThen_ok]
     rw[ih rs bs' _ Nv h2 w]
     simp[ByteArray.push]
   ·cases hb
theorem YY {s d e:TypeId} {rp:Value} {lo n b off c:Nat} {cs:List Value} {bs:List UInt8} (hs:P.underlying s=some (.slice e)) (hd:P.underlying d=some .string) (he:P.underlying e=some (.int .u8))
  (SB:H.read b off n=some cs) (hb:tZ cs=some bs) (hR:Rel m L0 H w) (hp:RV m (.slice (some ⟨b,off,none⟩) n c) rp) :
  cI P (do pure (.value (←convert s d rp))) L0 lo m H w (.string ⟨bs.toArray⟩) H:=by
 cases hp with
 |
  slice _ _ _ _ l ra rc hm hn hc hx ha =>
  obtain⟨rs,h1,h2,_,h3⟩:=yX hR hm SB
  have apZ:(loadCells ra n).run P w = .ok rs.toArray w:=by
   rcases ha with ha | ⟨rfl,ha⟩
   ·have h0:n=0:=by omega
    subst h0
    have e0:rs=[]:=List.eq_nil_of_length_eq_zero h2
    subst e0
    rfl
   ·rw[←h2]
    exact run_loadCells_list w _ rs h3
  refine cI.value (rv := .string ⟨bs.toArray⟩) (w':=w) (m':=m) ?_ (.str _) hR (Trans.refl lo m H w)
  simp only[convert,Sem.run_bind,run_underlying hs,run_underlying hd,Result.andThen_ok,run_underlying he,Conv.bytesToString,apZ,←Array.forIn_toList]
  rw[TM (P:=P) (m:=m) _ (fun n s=>rfl) cs rs bs ByteArray.empty h1 hb w]
  simp
theorem NI {t e:TypeId} {i:TypeInfo} (hu:P.underlying t=some (.slice e)) (hi:P.info? e=some i) {a:Option Addr} {n c:Nat} {lo pL mx:Option Value} {l h k:Nat}
  (hb:(Instr.sliceBounds true n c lo pL mx).run P w = .ok (l,h,k) w) :
  (Instr.sliceAt t (.slice a n c) lo pL mx).run P w = .ok (.slice (if k=l then a else a.map (·.add (l*i.size))) (h-l) (k-l)) w:=by
 have h1:(Instr.sliceAt t (.slice a n c) lo pL mx).run P w=(Instr.slice t (.slice a n c) lo pL mx).run P w:=by
  unfold Instr.sliceAt
  rw[Sem.run_bind,run_underlying hu,Result.andThen_ok]
 rw[h1]
 unfold Instr.slice
 rw[Sem.run_bind,run_underlying hu,Result.andThen_ok]
 simp[hb,run_sizeOf e i hi]
theorem Z2 {t e:TypeId} {i:TypeInfo} {lo:Nat} {x rx v:Value} {l h mx l' h' mx':Option Value} {H':aE} (hu:P.underlying t=some (.slice e)) (hi:P.info? e=some i)
  (hs:CJ i.size x l h mx H=some (v,H')) (hx:RV m x rx) (hl:RO m l l') (hh:RO m h h') (hm:RO m mx mx') (hR:Rel m L0 H w) (hf:∀b,H.length≤b→b<H'.length→m b=none) :
  cI P (do pure (.value (←Instr.sliceAt t rx l' h' mx'))) L0 lo m H w v H':=by
 unfold CJ at hs
 split at hs
 ·rename_i n c
  split at hs
  ·rename_i h0
   obtain⟨rfl,rfl⟩:=h0
   cases hx
   split at hs
   ·cases hs
   ·rename_i M hM
    split at hs
    ·cases hs
    ·rename_i hb hhb
     split at hs
     ·cases hs
     ·rename_i lb EF
      cases hs
      have key:∃k1 k2 k3,(Instr.sliceBounds true 0 0 l' h' mx').run P w = .ok (k1,k2,k3) w∧k1=0∧k2=0∧k3=0:=by
       rcases oM (P:=P) hM hm with⟨rfl,rfl,e1⟩ | ⟨_,r1,rfl,rfl,q1,e1⟩<;>rcases oM (P:=P) hhb hh with⟨_,rfl,e2⟩ | ⟨_,r2,_,rfl,q2,e2⟩<;>rcases oM (P:=P) EF hl with⟨_,rfl,e3⟩ | ⟨_,r3,_,rfl,q3,e3⟩
       ·cases e1;cases e2;cases e3
        exact⟨0,0,0,rfl,rfl,rfl,rfl⟩
       ·cases e1;cases e2
        exact⟨lb,0,0,by simp[Instr.sliceBounds,e3 0 (Nat.le_refl _)],by omega,rfl,rfl⟩
       ·cases e1;cases e3
        exact⟨0,hb,0,by simp[Instr.sliceBounds,e2 0 (Nat.le_refl _)],rfl,by omega,rfl⟩
       ·cases e1
        exact⟨lb,hb,0,by simp[Instr.sliceBounds,e2 0 (Nat.le_refl _),e3 hb (Nat.le_refl _)],by omega,by omega,rfl⟩
       ·cases e2
       ·cases e2
       ·cases e3
        exact⟨0,hb,M,by simp[Instr.sliceBounds,e1 0 (Nat.le_refl _),e2 M (Nat.le_refl _)],rfl,by omega,by omega⟩
       ·exact⟨lb,hb,M,by simp[Instr.sliceBounds,e1 0 (Nat.le_refl _),e2 M (Nat.le_refl _),e3 hb (Nat.le_refl _)],by omega,by omega,by omega⟩
      obtain⟨k1,k2,k3,hk,rfl,rfl,rfl⟩:=key
      exact cI.value (NI hu hi hk) (by simpa using RV.MN) hR (Trans.refl lo m H w)
  ·cases hs
 ·rename_i b o n c
  cases hx with
  |
   slice _ _ _ _ lc ra rc Uv X4 hcr hxp ha =>
   split at hs
   ·rename_i cells es p VF
    obtain⟨g1,g2,g3,g4⟩:=hR.row b lc cells es p Uv VF
    split at hs
    ·rename_i MC
     subst MC
     split at hs
     ·cases hs
     ·rename_i M hM
      split at hs
      ·cases hs
      ·rename_i hb hhb
       split at hs
       ·cases hs
       ·rename_i lb EF
        have key:∃k3,(Instr.sliceBounds true n rc l' h' mx').run P w = .ok (lb,hb,k3) w∧lb≤hb∧hb≤M∧M≤c∧((mx=none∧k3=rc∧M=c)∨(mx.isSome=true∧k3=M)):=by
         rcases oM (P:=P) hM hm with⟨rfl,rfl,e1⟩ | ⟨_,r1,rfl,rfl,q1,e1⟩<;>rcases oM (P:=P) hhb hh with⟨_,rfl,e2⟩ | ⟨_,r2,_,rfl,q2,e2⟩<;>rcases oM (P:=P) EF hl with⟨_,rfl,e3⟩ | ⟨_,r3,_,rfl,q3,e3⟩
         ·cases e1;cases e2;cases e3
          exact⟨rc,rfl,Nat.zero_le _,X4,Nat.le_refl _,.inl ⟨rfl,rfl,rfl⟩⟩
         ·cases e1;cases e2
          exact⟨rc,by simp[Instr.sliceBounds,e3 n (Nat.le_refl _)],q3,X4,Nat.le_refl _,.inl ⟨rfl,rfl,rfl⟩⟩
         ·cases e1;cases e3
          exact⟨rc,by simp[Instr.sliceBounds,e2 rc hcr],Nat.zero_le _,q2,Nat.le_refl _,.inl ⟨rfl,rfl,rfl⟩⟩
         ·cases e1
          exact⟨rc,by simp[Instr.sliceBounds,e2 rc hcr,e3 hb (Nat.le_refl _)],q3,q2,Nat.le_refl _,.inl ⟨rfl,rfl,rfl⟩⟩
         ·cases e2
         ·cases e2
         ·cases e3
          exact⟨M,by simp[Instr.sliceBounds,e1 rc hcr,e2 M (Nat.le_refl _)],Nat.zero_le _,q2,q1,.inr ⟨rfl,rfl⟩⟩
         ·exact⟨M,by simp[Instr.sliceBounds,e1 rc hcr,e2 M (Nat.le_refl _),e3 hb (Nat.le_refl _)],q3,q2,q1,.inr ⟨rfl,rfl⟩⟩
        obtain⟨k3,hk,hlh,hhM,hMc,Kg⟩:=key
        have pJ:=NI (a:=some ra) hu hi hk
        have place:k3-lb=0∨((if k3=lb then some ra else (some ra).map (·.add (lb*i.size)))=some (⟨lc.rb,lc.base+(o+lb*i.size),none⟩:Addr)∧lc.base+(o+lb*i.size)+(k3-lb)*lc.fO≤lc.PJ):=by
         by_cases hz:k3-lb=0
         ·exact .inl hz
         ·right
          have hk3:k3≤rc:=by rcases Kg with⟨_,rfl,_⟩ | ⟨_,rfl⟩<;>omega
          rcases ha with ha | ⟨rfl,ha⟩
          ·omega
          ·rw[if_neg (by omega)]
           refine⟨by simp[Addr.add_lit,Nat.add_assoc],?_⟩
           rw[g1] at ha ⊢
           have e1:(k3-lb)*i.size=k3*i.size-lb*i.size:=Nat.sub_mul _ _ _
           have e2:lb*i.size≤k3*i.size:=Nat.mul_le_mul_right _ (by omega)
           have e3:k3*i.size≤rc*i.size:=Nat.mul_le_mul_right _ hk3
           omega
        obtain⟨ra',aoQ⟩:∃ra',(if k3=lb then some ra else (some ra).map (·.add (lb*i.size)))=some ra':=by split<;>exact⟨_,rfl⟩
        rw[aoQ] at pJ
        have ahY:k3-lb=0∨(ra'=⟨lc.rb,lc.base+(o+lb*i.size),none⟩∧lc.base+(o+lb*i.size)+(k3-lb)*lc.fO≤lc.PJ):=by
         rcases place with hp | ⟨hp1,V5⟩
         ·exact .inl hp
         ·rw[aoQ] at hp1
          exact .inr ⟨by injection hp1,V5⟩
        split at hs
        ·rename_i awJ
         cases hs
         obtain⟨amR,hMl⟩:=awJ
         rcases Kg with⟨rfl,_⟩ | ⟨_,rfl⟩
         ·cases amR
         ·have hA:=W3 hR (hf H.length (Nat.le_refl _) (by simp)) Uv i.size
          refine cI.value (rv := .slice (some ra') 0 0) (by rw[pJ];congr 2<;>omega) ?_ hA.1 (hA.2 lo)
          exact .slice _ 0 0 0 _ _ 0 (bQ m _ _) (Nat.le_refl _) (Nat.le_refl _) (fun _=>rfl) (.inl rfl)
        ·cases hs
         refine cI.value pJ ?_ hR (Trans.refl lo m H w)
         refine .slice b _ _ _ lc _ _ Uv (by omega) ?_ ?_ ahY
         ·rcases Kg with⟨_,rfl,rfl⟩ | ⟨_,rfl⟩<;>omega
         ·intro ho
          have:=hxp ho
          rcases Kg with⟨_,rfl,rfl⟩ | ⟨_,rfl⟩<;>omega
    ·cases hs
   ·cases hs
 ·cases hs
end
end Go.PM
namespace Go.PM
section
variable {P:Program} {m:dF} {L0:Nat} {H:aE} {w:World}
theorem T2 {t:TypeId} {i:TypeInfo} {lo b o:Nat} {v r rp:Value} {H':aE} (hi:P.info? t=some i) (hp:RV m (.pointer (some ⟨b,o,none⟩)) rp) (hv:RV m v r) (hs:(aL v).length=i.size)
  (hw:H.write lo b o (aL v)=some H') (hR:Rel m L0 H w) (eW:L0≤lo) :
  cI P (do Instr.storeAt t rp r;pure .skip) L0 lo m H w undef H':=by
 cases hp with
 |
  ptr _ _ l hm =>
  obtain⟨w',s1,s2,s3⟩:=DX P hR eW hm hw hv.aL
  refine⟨undef,w',m,.inr ⟨?_,rfl⟩,RV.undef m,s2,s3⟩
  have CP:r.cells.size=i.size:=by rw[eZ,←hv.aL.1,hs]
  have h1:(Instr.storeAt t (.pointer (some ⟨l.rb,l.base+o,none⟩)) r).run P w = .ok () w':=by
   show (storeVar t ⟨l.rb,l.base+o,none⟩ r).run P w=_
   unfold storeVar
   simp only[Sem.run_bind,run_sizeOf t i hi,Result.andThen_ok,CP,ne_eq,not_true_eq_false,if_false,fT]
   exact s1
  rw[Sem.run_bind,h1]
  rfl
theorem HB {pv rv:Value} {k:Nat} (h:sE pv=some k) (hr:RV m pv rv):Builtin.lenOf rv=pure k:=by
 unfold sE at h
 split at h
 ·cases h;cases hr<;>rfl
 ·cases h;cases hr;rfl
 ·cases h
theorem Cp (a b:Array Value) (xs:List Value) (h:a.toList=xs) (i:Nat) (hi:i<xs.length):(a++b).getD i undef=xs.getD i undef:=by
 subst h
 have:i<a.size:=by simpa using hi
 simp[Array.getD_eq_getD_getElem?,Array.getElem?_append_left this,List.getD_eq_getElem?_getD]
theorem Yk {t u ty:TypeId} {agg:Bool} {size bytes lo k:Nat} {z:List Value} {d:TypeDesc} {x y rx ry v:Value} {new:List Value} {H':aE} (ht:jX P t=some (agg,size,z,bytes)) (hu:P.underlying u=some d) (hd:Mk d=true)
  (hk:sE y=some k) (Bm:jD H size k y=some new) (tB:eK lo size bytes x k new H=some (v,H')) (hx:RV m x rx) (hy:RV m y ry) (VC:size=z.length)
  (hR:Rel m L0 H w) (eW:L0≤lo) (hf:∀b,H.length≤b→b<H'.length→m b=none) :
  cI P (do pure (.value (←Builtin.append_ #[t,u] ty #[rx,ry]))) L0 lo m H w v H':=by
 obtain⟨e,II,Pm⟩:=jF ht
 obtain⟨i,de,zz,hi,_,Ho,rfl,rfl,rfl,rfl⟩:=iR Pm
 obtain⟨pP,h1,h2,h3⟩:=Jc Bm hk (Nat.le_refl _) hR hy
 have hl:=HB hk hy
 have Aa:1≤i.bytes:=by
  unfold eK at tB
  split at tB
  ·rename_i h;exact h.1
  ·cases tB
 have hnl:new.length=k*i.size:=by
  unfold eK at tB
  split at tB
  ·rename_i h;exact h.2.2.2
  ·cases tB
 obtain⟨rv,w',m',g1,g2,g3,g4⟩:=Jq (P:=P) (s:=Builtin.append_ #[t,u] ty #[rx,ry]) (e:=e) tB hR eW hx h1 hf
  (fun a n c w' JD Cm Ik=>by
   subst JD
   exact OO II hu hd hi hl (h3 w rfl) Cm Ik)
  (fun JD hk0=>by
   subst JD
   subst hk0
   exact Qm II hu hd hi hl (h3 w rfl))
  (fun base n c CL JD Z5 iQ hg hb=>by
   subst JD
   refine⟨grownCap w (n+k) c e,_,grownCap_ge w _ _ _,PG II hu hd hi Ho hl Z5 (h3 w.drew rfl) hg Aa hb,?_,?_⟩
   ·have CE:=grownCap_ge w (n+k) c e
    have D1:pP.length=k*i.size:=by rw[←h1.1,hnl]
    simp only[Array.size_append,List.size_toArray,size_zeroCells,iQ,D1]
    rw[←eZ] at VC
    rw[←VC,←Nat.add_mul,←Nat.add_mul]
    congr 1
    omega
   ·intro j hj
    exact Cp _ _ _ (by simp) j hj)
 exact cI.value g1 g2 g3 g4
section
variable {t u ty e:TypeId} {ku:IntKind} {i:TypeInfo} {zz:Value} {k:Nat}
theorem F7 {k:Nat} (h:k≤140737488355328):IntKind.i64.wrap (k:Int)=(k:Int):=by rw[IntKind.wrap_i64];omega
theorem M3 (ht:P.underlying t=some (.slice e)) (hu:P.underlying u=some (.int ku)) (hi:P.info? e=some i) (Ho:i.zero=some zz) (hk:k≤140737488355328) (SH:k*i.bytes≤140737488355328)
  {a:Addr} {n c:Nat} {w':World} (Cm:n+k≤c) (hz:k*i.size=0→Builtin.zeroCells zz.cells k = #[]) (Ik:(storeCells (a.add (n*i.size)) (Builtin.zeroCells zz.cells k).toList).run P w = .ok () w') :
  (Builtin.append_ #[t,u] ty #[.slice (some a) n c,.int .i64 k]).run P w = .ok (.slice (some a) (n+k) c) w':=by
 have h0:¬((k:Int)<0):=by omega
 have hb:¬(281474976710656<(k:Int)*(i.bytes:Int)):=by rw[←Int.natCast_mul];omega
 by_cases Ez:k*i.size=0
 ·rw[hz Ez] at Ik
  simp[Builtin.append_,run_underlying ht,run_underlying hu,run_sizeOf e i hi,asInt,asIntOf,F7 hk,typeInfo,hi,h0,hb,Cm,Ez,Ik]
 ·simp[Builtin.append_,run_underlying ht,run_underlying hu,run_sizeOf e i hi,asInt,asIntOf,F7 hk,typeInfo,hi,h0,hb,Cm,Ez,zeroValue,Ho,Ik]
theorem O7 (ht:P.underlying t=some (.slice e)) (hu:P.underlying u=some (.int ku)) (hi:P.info? e=some i) :
  (Builtin.append_ #[t,u] ty #[.slice none 0 0,.int .i64 (0:Nat)]).run P w = .ok (.slice none 0 0) w:=by
 have hw:IntKind.i64.wrap 0=0:=rfl
 simp[Builtin.append_,run_underlying ht,run_underlying hu,run_sizeOf e i hi,asInt,asIntOf,hw,typeInfo,hi]
theorem MB (ht:P.underlying t=some (.slice e)) (hu:P.underlying u=some (.int ku)) (hi:P.info? e=some i) (Ho:i.zero=some zz) (hk:k≤140737488355328) (SH:k*i.bytes≤140737488355328)
  {base:Option Addr} {n c:Nat} {CL:List Value} (Z5:(Builtin.firstCells i.size n (.slice base n c)).run P w.drew = .ok CL.toArray w.drew) (hz:k*i.size=0→Builtin.zeroCells zz.cells k = #[])
  (hg:c<n+k) (Aa:1≤i.bytes) (LP:(n+k)*i.bytes≤140737488355328) :
  (Builtin.append_ #[t,u] ty #[.slice base n c,.int .i64 k]).run P w = .ok (.slice (some ⟨w.heap.size,0,none⟩) (n+k) (grownCap w (n+k) c e))
   (w.drew.alloc (.cells (CL.toArray++Builtin.zeroCells zz.cells k++Builtin.zeroCells zz.cells (grownCap w (n+k) c e-(n+k))) e)):=by
 have qR:=growslice_fits (bytes:=i.bytes) hg LP
 have h0:¬((k:Int)<0):=by omega
 have hb:¬(281474976710656<(k:Int)*(i.bytes:Int)):=by rw[←Int.natCast_mul];omega
 have h1:¬(n+k≤c):=by omega
 have h2:¬(281474976710656<Builtin.nextslicecap (n+k) c*i.bytes):=by omega
 have h4:n+k≤140737488355328:=Nat.le_trans (Nat.le_mul_of_pos_right _ Aa) LP
 have h3:¬(9223372036854775807<(n:Int)+(k:Int)):=by omega
 by_cases Ez:k*i.size=0
 ·have e0:=hz Ez
  simp[Builtin.append_,run_underlying ht,run_underlying hu,run_sizeOf e i hi,asInt,asIntOf,F7 hk,typeInfo,hi,h0,hb,h1,h2,h3,e0,zeroValue,Ho,Question.forced,Z5,newRow,grownCap]
 ·simp[Builtin.append_,run_underlying ht,run_underlying hu,run_sizeOf e i hi,asInt,asIntOf,F7 hk,typeInfo,hi,h0,hb,h1,h2,h3,Ez,zeroValue,Ho,Question.forced,Z5,newRow,grownCap]
end
theorem Xc {t u ty:TypeId} {agg:Bool} {size bytes lo:Nat} {z:List Value} {ku:IntKind} {n:Int} {x rx v:Value} {H':aE} (ht:jX P t=some (agg,size,z,bytes)) (hu:P.underlying u=some (.int ku))
  (hn:0≤n∧n*bytes≤140737488355328) (tB:eK lo z.length bytes x n.toNat (cV n.toNat z) H=some (v,H')) (hx:RV m x rx) (VC:size=z.length) (Hg:z.all fQ=true) (SA:z.all kM=true) (Ez:1≤z.length)
  (hR:Rel m L0 H w) (eW:L0≤lo) (hf:∀b,H.length≤b→b<H'.length→m b=none) :
  cI P (do pure (.value (←Builtin.append_ #[t,u] ty #[rx,.int .i64 n]))) L0 lo m H w v H':=by
 obtain⟨e,II,Pm⟩:=jF ht
 obtain⟨i,de,zz,hi,_,Ho,rfl,rfl,rfl,rfl⟩:=iR Pm
 obtain⟨k,rfl⟩:=Int.eq_ofNat_of_zero_le hn.1
 simp only[Int.toNat_natCast] at tB
 have Aa:1≤i.bytes:=by
  unfold eK at tB
  split at tB
  ·rename_i h;exact h.1
  ·cases tB
 have SH:k*i.bytes≤140737488355328:=by have:=hn.2;omega
 have hk:k≤140737488355328:=Nat.le_trans (Nat.le_mul_of_pos_right _ Aa) SH
 have CP:i.size=zz.cells.size:=by rw[VC,eZ]
 have Wq:1≤zz.cells.size:=by rw[eZ];exact Ez
 have sG:(Builtin.zeroCells zz.cells k).toList=cV k (aL zz):=by rw[GU _ _ Wq,fT]
 have aoI:k*i.size=0→Builtin.zeroCells zz.cells k = #[]:=by
  intro h0
  apply Array.ext'
  rw[sG]
  exact List.eq_nil_of_length_eq_zero (by rw[uP,←VC];exact h0)
 obtain⟨rv,w',m',g1,g2,g3,g4⟩:=Jq (P:=P) (s:=Builtin.append_ #[t,u] ty #[rx,.int .i64 k]) (e:=e) (pP:=cV k (aL zz)) tB hR eW hx (wI k SA Ez) hf
  (fun a n c w' JD Cm Ik=>by
   subst JD
   exact M3 II hu hi Ho hk SH Cm aoI (by rw[sG,VC];exact Ik))
  (fun JD hk0=>by
   subst JD
   subst hk0
   exact O7 II hu hi)
  (fun base n c CL JD Z5 iQ hg hb=>by
   subst JD
   refine⟨grownCap w (n+k) c e,_,grownCap_ge w _ _ _,MB II hu hi Ho hk SH (by rw[VC];exact Z5) aoI hg Aa hb,?_,?_⟩
   ·have CE:=grownCap_ge w (n+k) c e
    simp only[Array.size_append,List.size_toArray,size_zeroCells,iQ,eZ]
    rw[←Nat.add_mul,←Nat.add_mul]
    congr 1
    omega
   ·intro j hj
    exact Cp _ _ _ (by simp[sG]) j hj)
 exact cI.value g1 g2 g3 g4
theorem Wu {t ty:TypeId} {ts:List TypeId} {agg:Bool} {size bytes lo b o d c k:Nat} {z new:List Value} {y rx ry:Value} {H':aE} (ht:jX P t=some (agg,size,z,bytes))
  (hk:sE y=some k) (Bm:jD H size (Nat.min k d) y=some new) (hw:H.write lo b o new=some H') (hx:RV m (.slice (some ⟨b,o,none⟩) d c) rx) (hy:RV m y ry)
  (hR:Rel m L0 H w) (eW:L0≤lo) :
  cI P (do pure (.value (←Builtin.copy_ (t::ts).toArray ty #[rx,ry]))) L0 lo m H w (.int .i64 (Nat.min k d)) H':=by
 obtain⟨e,II,Pm⟩:=jF ht
 obtain⟨i,de,zz,hi,_,Ho,rfl,rfl,rfl,rfl⟩:=iR Pm
 obtain⟨pP,h1,h2,h3⟩:=Jc (P:=P) Bm hk (Nat.min_le_left _ _) hR hy
 have hl:=HB hk hy
 cases hx with
 |
  slice _ _ _ _ l ra rc hm hn hc hxp ha =>
  rcases ha with ha | ⟨rfl,ha⟩
  ·have Du:d=0:=by omega
   subst Du
   have adR:Nat.min k 0=0:=Nat.min_zero k
   rw[adR] at Bm h3 ⊢
   have sG:new=[]:=by
    have:pP.length=new.length:=h1.1.symm
    unfold jD at Bm
    split at Bm
    ·obtain⟨_,_,_,_,_,_,hlen⟩:=NR Bm
     exact List.eq_nil_of_length_eq_zero (by simpa using hlen)
    ·split at Bm
     ·cases Bm;rfl
     ·cases Bm
    ·split at Bm
     ·cases Bm;simp
     ·cases Bm
    ·cases Bm
   subst sG
   have hrn:pP=[]:=List.eq_nil_of_length_eq_zero h1.1.symm
   subst hrn
   have hHH:H'=H:=by
    obtain⟨cs,e',p',q1,q2,q3,q4,rfl⟩:=BH hw
    apply List.ext_getElem?
    intro j
    by_cases hj:b=j
    ·subst hj
     rw[List.getElem?_set_self (List.getElem?_eq_some_iff.1 q1).1,q1]
     simp[iU]
    ·rw[List.getElem?_set_ne hj]
   rw[hHH]
   refine cI.value (rv := .int .i64 0) (w':=w) ?_ (.int _ _) hR (Trans.refl lo m _ w)
   have hf0:=h3 w rfl
   simp[Builtin.copy_,run_underlying II,hl,run_sizeOf e i hi,goInt,hf0,storeCells]
  ·obtain⟨w',s1,s2,s3⟩:=DX P hR eW hm hw h1
   refine cI.value (rv := .int .i64 (Nat.min k d)) ?_ (.int _ _) s2 s3
   have hf0:=h3 w rfl
   unfold Builtin.copy_
   simp only[List.getElem?_toArray,List.getElem?_cons_zero,List.getElem?_cons_succ,Sem.run_bind,run_underlying II,Result.andThen_ok,hl,Sem.run_pure,run_sizeOf e i hi]
   rw[hf0]
   simp only[Result.andThen_ok,s1,goInt]
theorem Ut {t ty e:TypeId} {ts:List TypeId} {i:TypeInfo} {zz:Value} {lo b o n c:Nat} {rx:Value} {H':aE} (II:P.underlying t=some (.slice e)) (hi:P.info? e=some i) (Ho:i.zero=some zz)
  (XZ:n≠0) (hw:H.write lo b o (cV n (aL zz))=some H') (hx:RV m (.slice (some ⟨b,o,none⟩) n c) rx) (SA:(aL zz).all kM=true) (Ez:1≤(aL zz).length) (hR:Rel m L0 H w) (eW:L0≤lo) :
  cI P (do pure (.value (←Builtin.clear_ (t::ts).toArray ty #[rx]))) L0 lo m H w undef H':=by
 cases hx with
 |
  slice _ _ _ _ l ra rc hm hn hc hxp ha =>
  rcases ha with ha | ⟨rfl,ha⟩
  ·omega
  ·obtain⟨w',s1,s2,s3⟩:=DX P hR eW hm hw (wI n SA Ez)
   have sG:(Builtin.zeroCells zz.cells n).toList=cV n (aL zz):=by rw[GU _ _ (by rw[eZ];exact Ez),fT]
   refine cI.value (rv:=undef) ?_ (RV.undef m) s2 s3
   rw[←sG] at s1
   obtain⟨n',rfl⟩:∃n',n=n'+1:=⟨n-1,by omega⟩
   simp[Builtin.clear_,run_underlying II,zeroValue,typeInfo,hi,Ho,s1,undef]
theorem Jt {t ty e:TypeId} {ts:List TypeId} {lo c:Nat} {a:Option Addr} {rx:Value} (II:P.underlying t=some (.slice e)) (hx:RV m (.slice a 0 c) rx) (hR:Rel m L0 H w) :
  cI P (do pure (.value (←Builtin.clear_ (t::ts).toArray ty #[rx]))) L0 lo m H w undef H:=by
 refine cI.value (rv:=undef) (w':=w) ?_ (RV.undef m) hR (Trans.refl lo m _ w)
 cases hx<;>simp[Builtin.clear_,run_underlying II,undef]
end
end Go.PM
namespace Go.PM
section
variable {P:Program} {m:dF} {L0:Nat} {H:aE} {w:World}
theorem C6 {po:nN} {ρ:Env} {v:Value} {H':aE} (h:(iN po ρ).map (Out.val · H)=some (.val v H')):iN po ρ=some v∧H'=H:=by
 cases hp:iN po ρ with
 | none=>rw[hp] at h;cases h
 | some u=>rw[hp] at h;cases h;exact⟨rfl,rfl⟩
def tJ:nN→Bool
 | .load .. | .sub .. | .b2s _ | .new _ | .box _ | .make .. | .lit .. | .call .. | .store .. | .app .. | .appz .. | .copy .. | .clear .. | .callv .. => false
 | _=>true
theorem xV {lo:Nat} {po:nN} {ρ:Env} (h:tJ po=true):pop lo po ρ H=(iN po ρ).map (.val · H):=by
 cases po<;>first | rfl | cases h
theorem Ss {pv rv:Value} {k:Nat} (size:Nat) (h:sE pv=some k) (hr:RV m pv rv):(Builtin.firstCells size 0 rv).run P w = .ok #[] w:=by
 unfold sE at h
 split at h
 ·cases hr
  ·rfl
  ·simp only[Builtin.firstCells,Nat.zero_mul]
   rfl
 ·cases hr
  simp[Builtin.firstCells]
 ·cases h
theorem VU {o:Oper} {po:nN} {ρ:Env} {a:Act} {lo:Nat} {v:Value} {H':aE} (hp:pV P o.op=some po) (hv:pop lo po ρ H=some (.val v H')) (hr:∀x∈o.op.operands,RV m (ev ρ x) (a.eval x))
  (hR:Rel m L0 H w) (eW:L0≤lo) (hf:∀b,H.length≤b→b<H'.length→m b=none):cI P (execOp a.eval o) L0 lo m H w v H':=by
 by_cases iZ:tJ po=true
 ·rw[xV iZ] at hv
  obtain⟨h1,rfl⟩:=C6 hv
  obtain⟨rv,h2,h3⟩:=YO hp h1 hr
  exact⟨rv,w,m,.inl (h3 w),h2,hR,Trans.refl lo m _ w⟩
 obtain⟨dst,op,type,pos,after,guard⟩:=o
 unfold pV at hp
 simp only at hp hr ⊢
 split at hp
 case isFalse=>cases hp
 cases op with
 | move x=>cases hp;exact absurd rfl iZ
 | assign x=>cases hp;exact absurd rfl iZ
 | pick c x y=>cases hp;exact absurd rfl iZ
 |
  binOp op t x y yt =>
  unfold Cd at hp
  simp only at hp
  split at hp
  ·cases hp;exact absurd rfl iZ
  ·cases hp;exact absurd rfl iZ
  ·split at hp<;>first | (cases hp;done) | (cases hp;exact absurd rfl iZ)
  ·split at hp<;>first | (cases hp;done) | (split at hp<;>first | (cases hp;done) | (cases hp;exact absurd rfl iZ))
  ·split at hp<;>first | (cases hp;done) | (cases hp;exact absurd rfl iZ)
  ·cases hp
 | unOp op t x=>cases hp;exact absurd rfl iZ
 | extract x i=>cases hp;exact absurd rfl iZ
 |
  convert s d x =>
  have hx:=hr x (by simp[Op.operands])
  simp only at hp
  split at hp
  ·cases hp;exact absurd rfl iZ
  ·cases hp;exact absurd rfl iZ
  ·rename_i e hs hd
   split at hp
   ·rename_i he
    cases hp
    simp only[pop] at hv
    split at hv
    ·rename_i n c V8
     cases hv
     rw[V8] at hx
     show cI P (do pure (.value (←convert s d (a.eval x)))) L0 lo m H w _ H
     generalize a.eval x=rx at hx ⊢
     cases hx
     refine cI.value (rv := .string ByteArray.empty) ?_ (.str _) hR (Trans.refl lo m _ w)
     simp[convert,run_underlying hs,run_underlying hd,run_underlying he,Conv.bytesToString]
    ·rename_i b o n c V8
     split at hv
     ·rename_i cs Nv
      cases hb:tZ cs with
      | none=>rw[hb] at hv;cases hv
      |
       some bs =>
       rw[hb] at hv
       cases hv
       rw[V8] at hx
       exact YY hs hd he Nv hb hR hx
     ·cases hv
    ·cases hv
   ·cases hp
  ·cases hp
 |
  field t x i =>
  simp only at hp
  split at hp
  ·split at hp
   ·rename_i f hf'
    cases ht:mD P f.type with
    | none=>rw[ht] at hp;cases hp
    | some q=>rw[ht] at hp;cases hp;exact absurd rfl iZ
   ·cases hp
  ·cases hp
 |
  build t parts =>
  simp only at hp
  split at hp
  ·split at hp
   ·split at hp
    ·cases hp;exact absurd rfl iZ
    ·cases hp
   ·cases hp
  ·cases hp
 | nilCheck x=>cases hp;exact absurd rfl iZ
 |
  fieldAddr t x i =>
  simp only at hp
  split at hp
  ·split at hp
   ·split at hp
    ·split at hp
     ·cases hp
     ·cases hp;exact absurd rfl iZ
    ·cases hp
   ·cases hp
  ·cases hp
 |
  indexAddr t x i =>
  simp only at hp
  cases ht:jX P t with
  | none=>rw[ht] at hp;cases hp
  | some q=>rw[ht] at hp;cases hp;exact absurd rfl iZ
 |
  index t x i =>
  simp only at hp
  split at hp
  ·cases hp;exact absurd rfl iZ
  ·cases hp
 |
  slice t x kP hi mx =>
  have hx:=hr x (by simp[Op.operands])
  simp only at hp
  split at hp
  ·split at hp
   ·cases hp;exact absurd rfl iZ
   ·cases hp
  ·rename_i e hu
   cases ht:mD P e with
   | none=>rw[ht] at hp;cases hp
   |
    some q =>
    obtain⟨agg,size,z,nb⟩:=q
    rw[ht] at hp
    cases hp
    obtain⟨i,d,zz,pL,_,_,rfl,rfl,rfl,rfl⟩:=iR ht
    simp only[pop] at hv
    cases hs:CJ i.size (ev ρ x) (kP.map (ev ρ)) (hi.map (ev ρ)) (mx.map (ev ρ)) H with
    | none=>rw[hs] at hv;cases hv
    |
     some q =>
     obtain⟨u,H1⟩:=q
     rw[hs] at hv
     cases hv
     exact Z2 hu pL hs hx (RO.map fun y hy=>hr y (by simp[Op.operands,hy])) (RO.map fun y hy=>hr y (by simp[Op.operands,hy])) (RO.map fun y hy=>hr y (by simp[Op.operands,hy])) hR hf
  ·cases hp
 |
  makeFunc fn first fR =>
  cases fn with
  |
   func f =>
   simp only at hp
   split at hp
   ·cases hp;exact absurd rfl iZ
   ·cases hp
  | _=>cases hp
 | makeInterface t x=>cases hp;exact absurd rfl iZ
 | panic x=>cases hp;exact absurd rfl iZ
 |
  load t p =>
  have hx:=hr p (by simp[Op.operands])
  simp only at hp
  cases ht:mD P t with
  | none=>rw[ht] at hp;cases hp
  |
   some q =>
   obtain⟨agg,size,z,nb⟩:=q
   rw[ht] at hp
   cases hp
   simp only[pop] at hv
   cases hl:nT agg size (ev ρ p) H with
   | none=>rw[hl] at hv;cases hv
   |
    some u =>
    rw[hl] at hv
    cases hv
    obtain⟨rv,h1,h2⟩:=N0 ht hl hR hx
    exact cI.value h2 h1 hR (Trans.refl lo m _ w)
 |
  store t p x =>
  have hpp:=hr p (by simp[Op.operands])
  have hx:=hr x (by simp[Op.operands])
  simp only at hp
  cases ht:P.info? t with
  | none=>rw[ht] at hp;cases hp
  |
   some i =>
   rw[ht] at hp
   cases hp
   simp only[pop] at hv
   split at hv
   ·rename_i b o hpo
    split at hv
    ·rename_i hs
     cases hw:H.write lo b o (aL (ev ρ x)) with
     | none=>rw[hw] at hv;cases hv
     |
      some H1 =>
      rw[hw] at hv
      cases hv
      rw[hpo] at hpp
      exact T2 ht hpp hx hs hw hR eW
    ·cases hv
   ·cases hv
 |
  alloc t =>
  simp only at hp
  split at hp
  ·rename_i agg size z nb ht
   split at hp
   ·rename_i hz
    cases hp
    simp only[Bool.and_eq_true] at hz
    cases hv
    exact Yz ht hz.1 hz.2 hR (hf _ (Nat.le_refl _) (by simp))
   ·cases hp
  ·cases hp
 |
  box t x =>
  have hx:=hr x (by simp[Op.operands])
  cases hp
  simp only[pop] at hv
  split at hv
  ·rename_i hs
   cases hv
   exact Zh hx hs hR (hf _ (Nat.le_refl _) (by simp))
  ·cases hv
 |
  makeSlice t l c =>
  have hl:=hr l (by simp[Op.operands])
  have hc:=hr c (by simp[Op.operands])
  simp only at hp
  split at hp
  ·rename_i agg size z nb ht
   split at hp
   ·rename_i hz
    cases hp
    simp only[Bool.and_eq_true,beq_iff_eq,decide_eq_true_eq] at hz
    obtain⟨⟨⟨z1,z2⟩,z3⟩,z4⟩:=hz
    simp only[pop] at hv
    split at hv
    ·rename_i l' c' BJ hc'
     split at hv
     ·rename_i hb
      cases hv
      rw[BJ] at hl
      rw[hc'] at hc
      show cI P (do pure (.value (←Instr.makeSlice t (a.eval l) (a.eval c)))) L0 lo m H w _ _
      generalize a.eval l=rl at hl ⊢
      generalize a.eval c=rc at hc ⊢
      cases hl
      cases hc
      exact WQ ht z1 z2 z3 z4 hb.1 hb.2.1 hb.2.2.1 hb.2.2.2 hR (hf _ (Nat.le_refl _) (by simp))
     ·cases hv
    ·cases hv
   ·cases hp
  ·cases hp
 |
  buildSlice t n parts =>
  simp only at hp
  split at hp
  ·rename_i agg size z nb ht
   split at hp
   ·rename_i hz
    cases hp
    simp only[Bool.and_eq_true,beq_iff_eq,decide_eq_true_eq] at hz
    obtain⟨⟨⟨⟨z1,z2⟩,z3⟩,z4⟩,z5⟩:=hz
    simp only[pop] at hv
    split at hv
    ·rename_i cs Nv
     split at hv
     ·rename_i vJ
      cases hv
      have:=aaE (P:=P) (w:=w) (lo:=lo) (a:=a) ht z1 z2 z3 z4 z5 Nv vJ (fun p hpm=>hr p.2 (by simp only[Op.operands];simp;exact⟨p.1,by simpa using hpm⟩)) hR (hf _ (Nat.le_refl _) (by simp))
      rw[Array.toArray_toList] at this
      exact this
     ·cases hv
    ·cases hv
   ·cases hp
  ·cases hp
 |
  call c =>
  obtain⟨callee,args,ts⟩:=c
  cases callee with
  |
   builtin b =>
   have Sy:∀x∈args,RV m (ev ρ x) (a.eval x):=fun x hx=>hr x (by simpa[Op.operands,Call.operands] using hx)
   simp only at hp
   unfold oT at hp
   split at hp
   ·split at hp<;>first | (cases hp;done) | (cases hp;exact absurd rfl iZ)
   ·split at hp<;>first | (cases hp;done) | (cases hp;exact absurd rfl iZ)
   ·cases hp;exact absurd rfl iZ
   ·cases hp;exact absurd rfl iZ
   ·rename_i x y t u Dw xI hts _
    have ea:args = #[x,y]:=Array.toList_inj.1 (by simpa using xI)
    subst ea
    have hx:=Sy x (by simp)
    have hy:=Sy y (by simp)
    have avK:∃tr,ts=(t::u::tr).toArray:=⟨Dw,Array.toList_inj.1 (by simpa using hts)⟩
    obtain⟨tr,rfl⟩:=avK
    show cI P (do pure (.value (←Builtin.append_ (t::u::tr).toArray type ((#[x,y]:Array Operand).map a.eval)))) L0 lo m H w v H'
    rw[J3]
    have awK:∀r1 r2,Builtin.append_ (t::u::tr).toArray type #[r1,r2]=Builtin.append_ #[t,u] type #[r1,r2]:=fun r1 r2=>by simp[Builtin.append_]
    rw[awK]
    split at hp
    ·rename_i agg size zero bytes ku ht hu
     split at hp
     ·rename_i hz
      cases hp
      simp only[Bool.and_eq_true,beq_iff_eq,decide_eq_true_eq] at hz
      obtain⟨⟨⟨z1,z2⟩,z3⟩,z4⟩:=hz
      simp only[pop] at hv
      split at hv
      ·rename_i n hn
       split at hv
       ·rename_i hb
        cases tB:eK lo zero.length bytes (ev ρ x) n.toNat (cV n.toNat zero) H with
        | none=>rw[tB] at hv;cases hv
        |
         some q =>
         obtain⟨u',H1⟩:=q
         rw[tB] at hv
         cases hv
         rw[hn] at hy
         generalize a.eval y=ry at hy ⊢
         cases hy
         exact Xc ht hu hb tB hx z4 z1 z2 z3 hR eW hf
       ·cases hv
      ·cases hv
     ·cases hp
    ·rename_i agg size zero bytes d _ ht hu
     split at hp
     ·rename_i hd
      split at hp
      ·rename_i VC
       cases hp
       simp only[pop] at hv
       split at hv
       ·rename_i k hk
        split at hv
        ·rename_i new sG
         cases tB:eK lo size bytes (ev ρ x) k new H with
         | none=>rw[tB] at hv;cases hv
         |
          some q =>
          obtain⟨u',H1⟩:=q
          rw[tB] at hv
          cases hv
          exact Yk ht hu hd hk sG tB hx hy (by simpa using VC) hR eW hf
        ·cases hv
       ·cases hv
      ·cases hp
     ·cases hp
    ·cases hp
   ·rename_i x y t Dw xI hts _
    have ea:args = #[x,y]:=Array.toList_inj.1 (by simpa using xI)
    have et:ts=(t::Dw).toArray:=Array.toList_inj.1 (by simpa using hts)
    subst ea;subst et
    have hx:=Sy x (by simp)
    have hy:=Sy y (by simp)
    show cI P (do pure (.value (←Builtin.copy_ (t::Dw).toArray type ((#[x,y]:Array Operand).map a.eval)))) L0 lo m H w v H'
    rw[J3]
    split at hp
    ·rename_i agg size zero bytes ht
     cases hp
     simp only[pop] at hv
     split at hv
     ·rename_i n c k V8 hk
      cases hv
      rw[V8] at hx
      generalize a.eval x=rx at hx ⊢
      cases hx
      obtain⟨e,II,Pm⟩:=jF ht
      obtain⟨i,de,zz,hi,_,Ho,_,_,_,_⟩:=iR Pm
      refine cI.value (rv := .int .i64 0) (w':=w) ?_ (.int _ _) hR (Trans.refl lo m _ w)
      have hl:=HB hk hy
      have hf0:=Ss (P:=P) (w:=w) i.size hk hy
      simp[Builtin.copy_,run_underlying II,hl,run_sizeOf e i hi,goInt,hf0]
     ·rename_i b o d c k V8 hk
      split at hv
      ·rename_i new sG
       cases hw:H.write lo b o new with
       | none=>rw[hw] at hv;cases hv
       |
        some H1 =>
        rw[hw] at hv
        cases hv
        rw[V8] at hx
        exact Wu ht hk sG hw hx hy hR eW
      ·cases hv
     ·cases hv
    ·cases hp
   ·rename_i x t Dw xI hts _
    have ea:args = #[x]:=Array.toList_inj.1 (by simpa using xI)
    have et:ts=(t::Dw).toArray:=Array.toList_inj.1 (by simpa using hts)
    subst ea;subst et
    have hx:=Sy x (by simp)
    show cI P (do pure (.value (←Builtin.clear_ (t::Dw).toArray type ((#[x]:Array Operand).map a.eval)))) L0 lo m H w v H'
    rw[Py]
    split at hp
    ·rename_i agg size zero bytes ht
     split at hp
     ·rename_i hz
      cases hp
      simp only[Bool.and_eq_true,beq_iff_eq,decide_eq_true_eq] at hz
      obtain⟨⟨⟨z1,z2⟩,z3⟩,z4⟩:=hz
      obtain⟨e,II,Pm⟩:=jF ht
      obtain⟨i,de,zz,hi,_,Ho,rfl,rfl,rfl,rfl⟩:=iR Pm
      simp only[pop] at hv
      split at hv
      ·rename_i n c V8
       cases hv
       rw[V8] at hx
       generalize a.eval x=rx at hx ⊢
       cases hx
       exact Jt II .MN hR
      ·rename_i b o n c V8
       rw[V8] at hx
       split at hv
       ·rename_i XZ
        cases hv
        subst XZ
        exact Jt II hx hR
       ·rename_i XZ
        cases hw:H.write lo b o (cV n (aL zz)) with
        | none=>rw[hw] at hv;cases hv
        |
         some H1 =>
         rw[hw] at hv
         cases hv
         exact Ut II hi Ho XZ hw hx z2 z4 hR eW
      ·cases hv
     ·cases hp
    ·cases hp
   ·cases hp
  |
   value f =>
   cases f with
   | func g=>cases hp;cases hv
   |
    tmp t =>
    cases hp
    simp only[pop] at hv
    split at hv<;>cases hv
   | const c=>cases hp
   | global g=>cases hp
  | invoke r s=>cases hp
 | _=>cases hp
def KG (P:Program) (f:Nat):Prop:=∃fn,P.funcs[f]? = some fn∧(fn.name == "runtime.NumGoroutine")=false∧fn.body.isNone=false
theorem G3 {f:Nat} {args:Array Value} (h:KG P f):(callFunc f args).run P w = .ok (.enter f args) w:=by
 obtain⟨fn,h1,h2,h3⟩:=h
 unfold callFunc
 rw[Sem.run_bind,run_program,Result.andThen_ok,h1]
 simp[h2,h3]
theorem map_none {α β:Type} {o:Option α} {f:α→β} {x:β} (h:o.map f=some x) (hf:∀y,f y≠x):False:=by
 cases o with
 | none=>cases h
 | some y=>injection h with h;exact hf y h
theorem Xg {op:Op} {g:Nat} {as:List Operand} (h:pV P op=some (.call g as)):∃args ts,op = .call ⟨.value (.func g),args,ts⟩∧as=args.toList:=by
 unfold pV at h
 split at h
 case isFalse=>cases h
 cases op with
 |
  call c =>
  obtain⟨callee,args,ts⟩:=c
  cases callee with
  |
   builtin b =>
   exfalso
   simp only[oT] at h
   repeat' (split at h)
   all_goals cases h
  |
   value f =>
   cases f with
   | func g'=>cases h;exact⟨args,ts,rfl,rfl⟩
   | _=>cases h
  | invoke r s=>cases h
 |
  _ =>
  exfalso
  dsimp only at h
  try unfold Cd at h
  repeat' (split at h)
  all_goals first
   | contradiction
   | (cases h;done)
   | exact map_none h (by intro y h;cases h)
theorem SL {op:Op} {fv:Operand} {as:List Operand} (h:pV P op=some (.callv fv as)):∃args ts,op = .call ⟨.value fv,args,ts⟩∧as=args.toList:=by
 unfold pV at h
 split at h
 case isFalse=>cases h
 cases op with
 |
  call c =>
  obtain⟨callee,args,ts⟩:=c
  cases callee with
  |
   builtin b =>
   exfalso
   simp only[oT] at h
   repeat' (split at h)
   all_goals cases h
  |
   value f =>
   cases f with
   | tmp g'=>cases h;exact⟨args,ts,rfl,rfl⟩
   | _=>cases h
  | invoke r s=>cases h
 |
  _ =>
  exfalso
  dsimp only at h
  try unfold Cd at h
  repeat' (split at h)
  all_goals first
   | contradiction
   | (cases h;done)
   | exact map_none h (by intro y h;cases h)
theorem sD {po:nN} {ρ:Env} {lo f:Nat} {args:List Value} (hv:pop lo po ρ H=some (.call f args)):(∃g as,po = .call g as)∨(∃g as,po = .callv g as):=by
 by_cases iZ:tJ po=true
 ·rw[xV iZ] at hv
  cases hpp:iN po ρ with
  | none=>rw[hpp] at hv;cases hv
  | some u=>rw[hpp] at hv;cases hv
 cases po<;>first | exact absurd rfl iZ | exact .inl ⟨_,_,rfl⟩ | exact .inr ⟨_,_,rfl⟩ | skip
 all_goals
  exfalso
  simp only[pop] at hv
  repeat' (split at hv)
  all_goals first
   | (cases hv;done)
   | (revert hv;generalize aE.write _ _ _ _ _=q;cases q<;>intro hv<;>cases hv)
   | (revert hv;generalize nT _ _ _ _=q;cases q<;>intro hv<;>cases hv)
   | (revert hv;generalize CJ _ _ _ _ _ _=q;cases q<;>intro hv<;>cases hv)
   | (revert hv;generalize eK _ _ _ _ _ _ _=q;cases q<;>intro hv<;>cases hv)
   | (revert hv;generalize tZ _=q;cases q<;>intro hv<;>cases hv)
theorem Xj {o:Oper} {po:nN} {ρ:Env} {a:Act} {lo f:Nat} {args:List Value} (hp:pV P o.op=some po) (hv:pop lo po ρ H=some (.call f args)) (hr:∀x∈o.op.operands,RV m (ev ρ x) (a.eval x)) :
  ∃gM,RL m args gM∧(KG P f→∀w,(execOp a.eval o).run P w = .ok (.enter f gM.toArray) w):=by
 have key:=sD hv
 obtain⟨dst,op,type,pos,after,guard⟩:=o
 simp only at hp hr ⊢
 rcases key with⟨g,as,rfl⟩ | ⟨g,as,rfl⟩
 ·obtain⟨Ct,ts,rfl,rfl⟩:=Xg hp
  cases hv
  refine⟨Ct.toList.map a.eval,RL.map fun x hx=>hr x (by simp[Op.operands,Call.operands];right;simpa using hx),fun hc w => ?_⟩
  have e1:(Ct.toList.map a.eval).toArray=Ct.map a.eval:=Array.toList_inj.1 (by rw[Array.toList_map])
  rw[e1]
  have e2:execOp a.eval ⟨dst,.call ⟨.value (.func f),Ct,ts⟩,type,pos,after,guard⟩=callFunc f ((#[]++Ct.map a.eval) ++ #[]):=rfl
  rw[e2,G3 hc]
  simp
 ·obtain⟨Ct,ts,rfl,rfl⟩:=SL hp
  have hg:=hr g (by simp[Op.operands,Call.operands])
  simp only[pop] at hv
  split at hv
  ·rename_i f' first fR hfv
   cases hv
   rw[hfv] at hg
   generalize hrg:a.eval g=rg at hg
   cases hg with
   |
    func fn f1 g1 c1 d1 h1 h2 h3 h4 =>
    refine⟨g1.toList++Ct.toList.map a.eval++d1.toList,((RL.arr h1 h2).append (RL.map fun x hx=>hr x (by simp[Op.operands,Call.operands];right;simpa using hx))).append (RL.arr h3 h4),fun hc w => ?_⟩
    have e1:(g1.toList++Ct.toList.map a.eval++d1.toList).toArray=(g1++Ct.map a.eval)++d1:=by
     apply Array.ext'
     simp
    rw[e1]
    have e2:(execOp a.eval ⟨dst,.call ⟨.value g,Ct,ts⟩,type,pos,after,guard⟩)=(do let d ←Deferred.ofValue (a.eval g) (Ct.map a.eval);invoke d.target d.args):=rfl
    rw[e2,hrg]
    show (callFunc f ((g1++Ct.map a.eval)++d1)).run P w=_
    exact G3 hc
  ·cases hv
end
end Go.PM
namespace Go.PM
section
variable {H:aE}
theorem V6 {lo:Nat} {H':aE} (h:Ext H.length H H'):Ext lo H H' :=
 ⟨h.len,fun b _ hl=>h.low b hl hl,h.liv⟩
theorem I5 {lo size bytes add:Nat} {x v:Value} {new:List Value} {H':aE} (h:eK lo size bytes x add new H=some (v,H')):Ext lo H H':=by
 unfold eK at h
 split at h
 case isFalse=>cases h
 split at h
 ·split at h
  ·split at h
   ·cases h;exact Ext.refl _ _
   ·split at h
    ·cases h;exact pE _ _ _
    ·cases h
  ·cases h
 ·split at h
  ·split at h
   ·split at h
    ·split at h
     ·cases h;exact Ext.refl _ _
     ·cases hw:aE.write H lo _ _ new with
      | none=>rw[hw] at h;cases h
      | some H1=>rw[hw] at h;cases h;exact D0 hw
    ·split at h
     ·split at h
      ·split at h
       ·rename_i EF
        cases h
        exact XA EF
       ·cases h
      ·cases h;exact pE _ _ _
     ·cases h
   ·cases h
  ·cases h
 ·cases h
theorem Yc {lo size:Nat} {x v:Value} {l h' mx:Option Value} {H':aE} (h:CJ size x l h' mx H=some (v,H')):Ext lo H H':=by
 unfold CJ at h
 repeat' (split at h)
 all_goals first
  | (cases h;done)
  | (cases h;exact Ext.refl _ _)
  | (cases h;exact pE _ _ _)
theorem UH {lo:Nat} {po:nN} {ρ:Env} {v:Value} {H':aE} (h:pop lo po ρ H=some (.val v H')):Ext lo H H':=by
 by_cases iZ:tJ po=true
 ·rw[xV iZ] at h
  obtain⟨_,rfl⟩:=C6 h
  exact Ext.refl _ _
 cases po<;>first | exact absurd rfl iZ | skip
 case load agg size p =>
  simp only[pop] at h
  cases hl:nT agg size (ev ρ p) H with
  | none=>rw[hl] at h;cases h
  | some u=>rw[hl] at h;cases h;exact Ext.refl _ _
 case sub size x l hh mx =>
  simp only[pop] at h
  cases hs:CJ size (ev ρ x) (l.map (ev ρ)) (hh.map (ev ρ)) (mx.map (ev ρ)) H with
  | none=>rw[hs] at h;cases h
  |
   some q =>
   obtain⟨u,H1⟩:=q
   rw[hs] at h;cases h;exact Yc hs
 case b2s x =>
  simp only[pop] at h
  split at h
  ·cases h;exact Ext.refl _ _
  ·split at h
   ·rename_i cs _
    cases hb:tZ cs with
    | none=>rw[hb] at h;cases h
    | some bs=>rw[hb] at h;cases h;exact Ext.refl _ _
   ·cases h
  ·cases h
 case new z=>cases h;exact pE _ _ _
 case box x =>
  simp only[pop] at h
  split at h
  ·cases h;exact pE _ _ _
  ·cases h
 case make z b l c =>
  simp only[pop] at h
  split at h
  ·split at h
   ·cases h;exact pE _ _ _
   ·cases h
  ·cases h
 case lit z n parts =>
  simp only[pop] at h
  split at h
  ·split at h
   ·cases h;exact pE _ _ _
   ·cases h
  ·cases h
 case call f args=>cases h
 case callv f args =>
  simp only[pop] at h
  split at h<;>cases h
 case store size p x =>
  simp only[pop] at h
  split at h
  ·rename_i b o _
   split at h
   ·cases hw:H.write lo b o (aL (ev ρ x)) with
    | none=>rw[hw] at h;cases h
    | some H1=>rw[hw] at h;cases h;exact D0 hw
   ·cases h
  ·cases h
 case app size bytes x y =>
  simp only[pop] at h
  split at h
  ·rename_i n _
   split at h
   ·rename_i new _
    cases ha:eK lo size bytes (ev ρ x) n new H with
    | none=>rw[ha] at h;cases h
    |
     some q =>
     obtain⟨u,H1⟩:=q
     rw[ha] at h;cases h;exact I5 ha
   ·cases h
  ·cases h
 case appz z bytes x n =>
  simp only[pop] at h
  split at h
  ·rename_i k _
   split at h
   ·cases ha:eK lo z.length bytes (ev ρ x) k.toNat (cV k.toNat z) H with
    | none=>rw[ha] at h;cases h
    |
     some q =>
     obtain⟨u,H1⟩:=q
     rw[ha] at h;cases h;exact I5 ha
   ·cases h
  ·cases h
 case copy size x y =>
  simp only[pop] at h
  split at h
  ·cases h;exact Ext.refl _ _
  ·rename_i b o d _ s _ _
   split at h
   ·rename_i new _
    cases hw:H.write lo b o new with
    | none=>rw[hw] at h;cases h
    | some H1=>rw[hw] at h;cases h;exact D0 hw
   ·cases h
  ·cases h
 case clear z x =>
  simp only[pop] at h
  split at h
  ·cases h;exact Ext.refl _ _
  ·rename_i b o n _ _
   split at h
   ·cases h;exact Ext.refl _ _
   ·cases hw:H.write lo b o (cV n z) with
    | none=>rw[hw] at h;cases h
    | some H1=>rw[hw] at h;cases h;exact D0 hw
  ·cases h
def rJ (call:gC):Prop:=∀f args lo H v H',call f args lo H=some (v,H')→Ext lo H H'
theorem Mq {call:gC} (hc:rJ call) {lo:Nat} {i:PI} {ρ:Env} {v:Value} {H':aE} (h:zM call lo i ρ H=some (v,H')):Ext lo H H':=by
 unfold zM at h
 split at h
 ·cases h
 ·cases h;exact Ext.refl _ _
 ·split at h
  ·split at h
   ·rename_i hp
    cases h
    exact UH hp
   ·rename_i f args _
    have:=hc _ _ _ _ _ _ h
    split at this
    ·exact V6 this
    ·exact this
   ·cases h
  ·cases h
theorem yB {call:gC} {lo:Nat} {i:PI} {ρ bC:Env} {H':aE} (h:zE call lo i ρ H=some (bC,H')):∃v,zM call lo i ρ H=some (v,H')∧bC=put ρ i.dst v:=by
 unfold zE at h
 split at h
 ·rename_i v H1 hv
  cases h
  exact⟨v,hv,rfl⟩
 ·cases h
theorem Hz {call:gC} (hc:rJ call) {lo:Nat} {i:PI} {ρ bC:Env} {H':aE} (h:zE call lo i ρ H=some (bC,H')):Ext lo H H':=by
 obtain⟨v,h1,_⟩:=yB h
 exact Mq hc h1
theorem Ll {call:gC} (hc:rJ call) {lo:Nat}:∀(is:List PI) {ρ bC:Env} {H H':aE},gR call lo is ρ H=some (bC,H')→Ext lo H H'
 | [],ρ,bC,H,H',h=>by cases h;exact Ext.refl _ _
 |
  i::is,ρ,bC,H,H',h=>by
  rw[gR] at h
  split at h
  ·rename_i h1
   exact(Hz hc h1).trans (Ll hc is h)
  ·cases h
theorem Hm {lo:Nat} {body:Env→aE→Option (Ex×Env×aE)} (hb:∀ρ H x bC H',body ρ H=some (x,bC,H')→Ext lo H H'):∀(n:Nat) {ρ bC:Env} {H H':aE} {x:Ex},xU body n ρ H=some (x,bC,H')→Ext lo H H'
 | 0,_,_,_,_,_,h=>by cases h
 |
  n+1,ρ,bC,H,H',x,h=>by
  rw[xU] at h
  split at h
  ·rename_i h1
   exact(hb _ _ _ _ _ h1).trans (Hm hb n h)
  ·exact hb _ _ _ _ _ h
theorem jK {call:gC} (hc:rJ call) {lo n:Nat}:∀(c:aD) {ρ bC:Env} {H H':aE} {x:Ex},dH call lo n c ρ H=some (x,bC,H')→Ext lo H H'
 | .skip,_,_,_,_,_,h=>by cases h;exact Ext.refl _ _
 |
  .dI ops,ρ,bC,H,H',x,h=>by
  rw[dH] at h
  cases hp:gR call lo ops ρ H with
  | none=>rw[hp] at h;cases h
  |
   some q =>
   obtain⟨wW,H1⟩:=q
   rw[hp] at h;cases h
   exact Ll hc ops hp
 |
  .seq a b,ρ,bC,H,H',x,h=>by
  rw[dH] at h
  split at h
  ·rename_i h1
   exact(jK hc a h1).trans (jK hc b h)
  ·exact jK hc a h
 |
  .cond c a b,ρ,bC,H,H',x,h=>by
  rw[dH] at h
  split at h
  ·split at h
   ·exact jK hc a h
   ·exact jK hc b h
  ·cases h
 |
  .block id a,ρ,bC,H,H',x,h=>by
  rw[dH] at h
  split at h
  ·rename_i h1
   split at h<;>(cases h;exact jK hc a h1)
  ·exact jK hc a h
 |
  .loop a,ρ,bC,H,H',x,h=>by
  rw[dH] at h
  exact Hm (fun ρ H x bC H' h=>jK hc a h) n h
 | .exit id,_,_,_,_,_,h=>by cases h;exact Ext.refl _ _
 | .ret,_,_,_,_,_,h=>by cases h;exact Ext.refl _ _
theorem Em (E:Bl) (T:Tab):∀n,rJ (mE E T n)
 | 0=>fun _ _ _ _ _ _ h=>by cases h
 |
  n+1=>fun f args lo H v H' h=>by
  rw[mE] at h
  split at h
  ·rename_i p _
   cases hp:p args H with
   | none=>rw[hp] at h;cases h
   | some u=>rw[hp] at h;cases h;exact Ext.refl _ _
  ·split at h
   ·cases h
   ·rename_i pf _
    split at h
    ·split at h
     ·rename_i wW H1 h1
      cases hr:qM pf.res wW H1 with
      | none=>rw[hr] at h;cases h
      | some u=>rw[hr] at h;cases h;exact jK (Em E T n) _ h1
     ·rename_i wW H1 h1
      cases hr:qM pf.res wW H1 with
      | none=>rw[hr] at h;cases h
      | some u=>rw[hr] at h;cases h;exact jK (Em E T n) _ h1
     ·cases h
    ·cases h
end
end Go.PM
namespace Go.PM
theorem D9 {α β:Type} {f:α→Option β}:∀ {l:List α} {ys:List β},l.mapM f=some ys→ys.length=l.length∧∀i (h:i<l.length),f l[i]=ys[i]?
 |
  [],ys,h=>by
  simp at h
  subst h
  exact⟨rfl,fun i h=>absurd h (by simp)⟩
 |
  x::l,ys,h=>by
  simp only[List.mapM_cons,Option.pure_def,Option.bind_eq_bind] at h
  cases h1:f x with
  | none=>rw[h1] at h;cases h
  |
   some y =>
   rw[h1] at h
   cases h2:l.mapM f with
   | none=>rw[h2] at h;cases h
   |
    some zs =>
    rw[h2] at h
    cases h
    obtain⟨k1,k2⟩:=D9 h2
    refine⟨by simp[k1],fun i hi => ?_⟩
    cases i with
    | zero=>simpa using h1
    | succ i=>simpa using k2 i (by simpa using hi)
theorem Q1 {α β:Type} {f:α→Option β} {l:List α} {ys:List β} (h:l.mapM f=some ys) {i:Nat} {x:α} (hx:l[i]? = some x):∃y,ys[i]? = some y∧f x=some y:=by
 obtain⟨h1,h2⟩:=D9 h
 obtain⟨bB,rfl⟩:=List.getElem?_eq_some_iff.1 hx
 have LJ:i<ys.length:=by omega
 refine⟨ys[i],List.getElem?_eq_getElem LJ,?_⟩
 rw[h2 i bB,List.getElem?_eq_getElem LJ]
def Ev (E:Bl) (ops:List Oper) (M:List Nat) (i j:Nat) (pi pj:nN) (l:List (Operand×Operand)):Prop :=
 match fS E pi,fS E pj with
 | .look,.write | .write,.look=>ahead M i j=true∨∃a b,EC pi=some a∧EC pj=some b∧Eh ops i j a=true∧(a,b)∈l
 | .write,.write | .quiet,.write | .write,.quiet=>ahead M i j=true
 | _,_=>True
theorem Ev.mono {E:Bl} {ops:List Oper} {M:List Nat} {i j:Nat} {pi pj:nN} {l l':List (Operand×Operand)} (h:Ev E ops M i j pi pj l) (hl:∀x∈l,x∈l'):Ev E ops M i j pi pj l':=by
 unfold Ev at h ⊢
 split at h
 all_goals first
  | exact h
  | exact h.imp id fun⟨a,b,h1,h2,h3,h4⟩=>⟨a,b,h1,h2,h3,hl _ h4⟩
theorem KP {E:Bl} {ops:List Oper} {ps:List nN} {M:List Nat} {j:Nat} {pj:nN} {l:List (Operand×Operand)} (h:conflicts E ops ps M j pj=some l) :
  ∀i,i<j→∀pi,ps[i]? = some pi→Ev E ops M i j pi pj l:=by
 have key:∀(is:List Nat) (l:List (Operand×Operand)),(is.foldr (fun i acc=>match acc,ps[i]? with
  |
   some l,some pi =>
   match fS E pi,fS E pj with
   |
    .look,.write | .write,.look =>
    if ahead M i j then some l
    else match EC pi,EC pj with
     | some a,some b=>if Eh ops i j a then some ((a,b)::l) else none
     | _,_=>none
   | .write,.write | .quiet,.write | .write,.quiet=>if ahead M i j then some l else none
   | _,_=>some l
  | _,_=>none) (some []))=some l→∀i∈is,∀pi,ps[i]? = some pi→Ev E ops M i j pi pj l:=by
  intro is
  induction is with
  | nil=>intro l _ i hi;cases hi
  |
   cons i0 is ih =>
   intro l h i hi pi Xa
   rw[List.foldr_cons] at h
   revert h
   generalize atV:is.foldr _ (some [])=acc
   intro h
   cases acc with
   | none=>cases h
   |
    some l0 =>
    have ih':=ih l0 atV
    cases hp0:ps[i0]? with
    | none=>rw[hp0] at h;cases h
    |
     some p0 =>
     rw[hp0] at h
     simp only at h
     have step:(∀x∈l0,x∈l)∧Ev E ops M i0 j p0 pj l:=by
      unfold Ev
      split at h
      ·rename_i c1 c2
       try rw[c1,c2]
       split at h
       ·rename_i ha;cases h;exact⟨fun x hx=>hx,.inl ha⟩
       ·split at h
        ·rename_i a b ta tb
         split at h
         ·rename_i hu;cases h;exact⟨fun x hx=>List.mem_cons_of_mem _ hx,.inr ⟨a,b,ta,tb,hu,List.mem_cons_self⟩⟩
         ·cases h
        ·cases h
      ·rename_i c1 c2
       try rw[c1,c2]
       split at h
       ·rename_i ha;cases h;exact⟨fun x hx=>hx,.inl ha⟩
       ·split at h
        ·rename_i a b ta tb
         split at h
         ·rename_i hu;cases h;exact⟨fun x hx=>List.mem_cons_of_mem _ hx,.inr ⟨a,b,ta,tb,hu,List.mem_cons_self⟩⟩
         ·cases h
        ·cases h
      ·rename_i c1 c2
       try rw[c1,c2]
       split at h
       ·rename_i ha;cases h;exact⟨fun x hx=>hx,ha⟩
       ·cases h
      ·rename_i c1 c2
       try rw[c1,c2]
       split at h
       ·rename_i ha;cases h;exact⟨fun x hx=>hx,ha⟩
       ·cases h
      ·rename_i c1 c2
       try rw[c1,c2]
       split at h
       ·rename_i ha;cases h;exact⟨fun x hx=>hx,ha⟩
       ·cases h
      ·cases h
       refine⟨fun x hx=>hx,?_⟩
       first | trivial | (split<;>first | trivial | (simp_all;done)) | (simp_all;done)
     rcases List.mem_cons.1 hi with rfl | hi
     ·rw[hp0] at Xa
      cases Xa
      exact step.2
     ·exact(ih' i hi pi Xa).mono step.1
 exact fun i hi pi Xa=>key _ l h i (List.mem_range.2 hi) pi Xa
structure YI (P:Program) (E:Bl) (n:Nat) (ops:List Oper) (i:Nat) (o:Oper) (p:nN) (pi:PI):Prop where
 WJ:pV P o.op=some p
 dst:pi.dst=o.dst
 op:pi.op=p
 guard:guardOf ops i o=some pi.g
 bound:∀d,o.dst=some d→d<n
structure PL (E:Bl) (ops:List Oper) (ps:List nN) (M:List Nat) (i:Nat) (o:Oper) (p:nN) (pi:PI):Prop where
 back:∀e∈o.after.toList,Region.binds .any e=true→e.on<i
 guard:∀j w,o.guard=some (j,w)→(M.getD i 0).testBit j=true
 N2:∀t∈o.dst.toList++wM ops o,∀k ok,ops[k]? = some ok→ok.dst=some t→k=i∨ahead M i k=true
 mask:M.getD i 0=xD o M
 quiet:pi.quiet=(match fS E p with | .quiet=>true | _=>false)
 anE:∀k,k<i→∀pk,ps[k]? = some pk→Ev E ops M k i pk p pi.cf
theorem Sl {P:Program} {E:Bl} {n:Nat} {ops:List Oper} {ps:List nN} {M:List Nat} {draw:Bool} {i:Nat} {pi:PI} (h:Tm E ops ps M n draw i=some pi) {o:Oper} {p:nN} (ho:ops[i]? = some o) (hp:ps[i]? = some p)
  (U7:pV P o.op=some p):YI P E n ops i o p pi∧(draw=true→PL E ops ps M i o p pi)∧(draw=false→pi.quiet=false∧pi.cf=[]):=by
 unfold Tm at h
 rw[ho,hp] at h
 simp only at h
 split at h
 case isFalse=>cases h
 rename_i hb
 have hbound:∀d,o.dst=some d→d<n:=by
  intro d hd
  rw[hd] at hb
  simpa[agP] using hb
 split at h
 ·cases h
 ·rename_i g hg
  cases draw with
  |
   false =>
   simp only[Bool.false_eq_true,if_false] at h
   cases h
   exact⟨⟨U7,rfl,rfl,hg,hbound⟩,(fun h=>by cases h),fun _=>⟨rfl,rfl⟩⟩
  |
   true =>
   simp only[if_true] at h
   split at h
   case isFalse=>cases h
   rename_i hc
   simp only[Bool.and_eq_true,beq_iff_eq] at hc
   obtain⟨⟨⟨c1,c2⟩,c3⟩,c4⟩:=hc
   cases PT:conflicts E ops ps M i p with
   | none=>rw[PT] at h;cases h
   |
    some cf =>
    rw[PT] at h
    cases h
    refine⟨⟨U7,rfl,rfl,hg,hbound⟩,fun _=>⟨fun e he hbd => ?_,fun j w hj => ?_,fun t ht k ok hk hkd => ?_,c4,rfl,KP PT⟩,(fun h=>by cases h)⟩
    ·have:=List.all_eq_true.1 c1 e he
     simpa[hbd] using this
    ·rw[hj] at c2
     exact c2
    ·have h1:=List.all_eq_true.1 c3 t ht
     have XS:k<ops.length:=(List.getElem?_eq_some_iff.1 hk).1
     have h2:=List.all_eq_true.1 h1 k (List.mem_range.2 XS)
     rw[hk] at h2
     simp only[Bool.or_eq_true,bne_iff_ne,ne_eq,beq_iff_eq] at h2
     rcases h2 with(h2 | h2) | h2
     ·exact absurd hkd h2
     ·exact .inl h2
     ·exact .inr h2
structure agJ (P:Program) (E:Bl) (n:Nat) (ops:List Oper) (draw:Bool) (tC:List PI) (ps:List nN) (M:List Nat):Prop where
 Eo:ps.length=ops.length
 avJ:tC.length=ops.length
 each:∀i o,ops[i]? = some o→∃p pi,ps[i]? = some p∧tC[i]? = some pi∧YI P E n ops i o p pi∧(draw=true→PL E ops ps M i o p pi)∧(draw=false→pi.quiet=false∧pi.cf=[])
theorem JB {P:Program} {E:Bl} {n:Nat} {ops:Array Oper} {draw:Bool} {tC:List PI} (h:xN P E n ops draw=some tC):∃ps M,agJ P E n ops.toList draw tC ps M:=by
 unfold xN at h
 split at h
 ·rename_i ps hps
  simp only at h
  generalize (if draw=true then Pk ops.toList [] else [])=M at h
  obtain⟨h1,h2⟩:=D9 hps
  obtain⟨h3,h4⟩:=D9 h
  refine⟨ps,M,h1,by simpa using h3,fun i o ho => ?_⟩
  have bB:=(List.getElem?_eq_some_iff.1 ho).1
  obtain⟨p,hp,U7⟩:=Q1 hps ho
  have hr:(List.range ops.size)[i]? = some i:=by rw[List.getElem?_range];simpa using bB
  obtain⟨pi,Xa,hpp⟩:=Q1 h hr
  exact⟨p,pi,hp,Xa,Sl hpp ho hp U7⟩
 ·cases h
theorem MZ {o:Oper} {M:List Nat} {i:Nat} (h:(xD o M).testBit i=true):∃e∈o.after.toList,Region.binds .any e=true∧(e.on=i∨(M.getD e.on 0).testBit i=true):=by
 unfold xD at h
 revert h
 generalize o.after.toList=es
 induction es with
 | nil=>intro h;simp at h
 |
  cons e es ih =>
  intro h
  rw[List.foldr_cons] at h
  split at h
  ·rename_i hb
   rw[Nat.testBit_or,Nat.testBit_or,Bool.or_eq_true,Bool.or_eq_true] at h
   rcases h with(h | h) | h
   ·obtain⟨e',h1,h2⟩:=ih h
    exact⟨e',List.mem_cons_of_mem _ h1,h2⟩
   ·refine⟨e,List.mem_cons_self,hb,.inl ?_⟩
    rw[Nat.testBit_two_pow] at h
    simpa using h
   ·exact⟨e,List.mem_cons_self,hb,.inr h⟩
  ·obtain⟨e',h1,h2⟩:=ih h
   exact⟨e',List.mem_cons_of_mem _ h1,h2⟩
theorem Ue {ops:List Oper} {M:List Nat} {S:Nat→Prop} (hb:∀i o,ops[i]? = some o→∀e∈o.after.toList,Region.binds .any e=true→e.on<i) (hm:∀i o,ops[i]? = some o→M.getD i 0=xD o M)
  (hS:∀i o,ops[i]? = some o→S i→∀e∈o.after.toList,Region.binds .any e=true→S e.on):∀j o,ops[j]? = some o→(∀e∈o.after.toList,Region.binds .any e=true→S e.on)→∀i,(M.getD j 0).testBit i=true→S i:=by
 intro j
 induction j using Nat.strongRecOn with
 |
  _ j ih =>
  intro o ho hj i hi
  rw[hm j o ho] at hi
  obtain⟨e,he,hbd,h1⟩:=MZ hi
  rcases h1 with rfl | h1
  ·exact hj e he hbd
  ·have bB:=hb j o ho e he hbd
   have hjl:=(List.getElem?_eq_some_iff.1 ho).1
   have hel:e.on<ops.length:=by omega
   exact ih e.on bB ops[e.on] (List.getElem?_eq_getElem hel) (hS e.on _ (List.getElem?_eq_getElem hel) (hj e he hbd)) i h1
end Go.PM
namespace Go.PM
def xB (P:Program) (L0:Nat) (call:gC):Prop :=
 ∀f args lo H v H',call f args lo H=some (v,H')→∀m w gM,Rel m L0 H w→L0≤lo→L0≤H.length→RL m args gM→(∀b,H.length≤b→b<H'.length→m b=none) →
  KG P f∧Calls P f gM.toArray w fun e w'=>∃m' rv,e = .returned rv∧RV m' v rv∧Rel m' L0 H' w'∧Trans lo m H w m' H' w'
section
variable {P:Program} {m:dF} {L0:Nat} {H:aE} {w:World}
theorem tT {call:gC} {lo:Nat} {i:PI} {ρ:Env} {v:Value} {H':aE} (h:zM call lo i ρ H=some (v,H')) :
  (An i.g ρ=some false∧v=undef∧H'=H) ∨
  (An i.g ρ=some true∧i.cf.all (AW ρ)=true∧(pop lo i.op ρ H=some (.val v H') ∨
   ∃f args,pop lo i.op ρ H=some (.call f args)∧call f args (if i.quiet then H.length else lo) H=some (v,H'))):=by
 unfold zM at h
 split at h
 ·cases h
 ·rename_i hw;cases h;exact .inl ⟨hw,rfl,rfl⟩
 ·rename_i hw
  split at h
  ·rename_i PT
   refine .inr ⟨hw,PT,?_⟩
   split at h
   ·rename_i hp;cases h;exact .inl hp
   ·rename_i f args hp;exact .inr ⟨f,args,hp,h⟩
   ·cases h
  ·cases h
theorem WL {t:Array Value} {d:Nat} {b:Bool} (h:t.getD d undef = .bool b):t[d]? = some (.bool b):=by
 rcases Nat.lt_or_ge d t.size with hd | hd
 ·simp[hd] at h ⊢
  exact h
 ·simp[Array.getElem?_eq_none hd,undef] at h
theorem FE {ops:Array Oper} {i:Nat} {o:Oper} {g:Option (Nat×Bool)} {ρ:Env} {a:Act} {t:Bool} (hg:guardOf ops.toList i o=some g) (hw:An g ρ=some t)
  (hr:∀d∈wM ops.toList o,RV m (ρ d) (a.tmps.getD d undef)):Region.wanted o (yielded ops a.tmps)=t:=by
 unfold guardOf at hg
 unfold Region.wanted
 cases hgd:o.guard with
 |
  none =>
  rw[hgd] at hg
  cases hg
  cases hw
  rfl
 |
  some jw =>
  obtain⟨j,want⟩:=jw
  rw[hgd] at hg
  simp only at hg
  split at hg
  ·split at hg
   ·rename_i d hd
    cases hg
    have K8:d∈wM ops.toList o:=by
     unfold wM
     rw[hgd]
     simp only[List.mem_append]
     right
     rw[hd]
     simp
    have SB:=hr d K8
    simp only[An] at hw
    split at hw
    ·rename_i b hb
     cases hw
     rw[hb] at SB
     generalize hx:a.tmps.getD d undef=x at SB
     cases SB
     have hy:yielded ops a.tmps j=some b:=by
      unfold yielded
      have W2:(ops[j]?).bind (·.dst)=some d:=by simpa using hd
      rw[W2,Option.bind_some,WL hx]
     simp only[hy]
     cases b<;>cases want<;>rfl
    ·rename_i vs hb
     cases hw
     rw[hb] at SB
     generalize hx:a.tmps.getD d undef=x at SB
     obtain⟨ws,rfl⟩:∃ws,x = .tuple ws:=by cases SB;exact⟨_,rfl⟩
     have W2:(ops[j]?).bind (·.dst)=some d:=by simpa using hd
     have hy:yielded ops a.tmps j=none:=by
      unfold yielded
      rw[W2,Option.bind_some]
      rcases Nat.lt_or_ge d a.tmps.size with bB | bB
      ·have:a.tmps[d]? = some (.tuple ws):=by rw[←hx];simp[bB]
       rw[this]
      ·rw[Array.getElem?_eq_none bB]
     simp only[hy]
     rfl
    ·cases hw
   ·cases hg
  ·cases hg
theorem ZL {E:Bl} {p:nN} {lo kP:Nat} {ρ:Env} (h:fS E p = .quiet):pop lo p ρ H=pop kP p ρ H:=by
 cases p<;>first | rfl | (simp[fS] at h;done)
theorem EP {ops:List Oper} {o:Oper} {t:Nat} (h:Operand.tmp t∈o.op.operands):t∈wM ops o:=by
 unfold wM tmpsOf
 rw[List.mem_append]
 left
 rw[List.mem_filterMap]
 exact⟨.tmp t,by simpa using h,rfl⟩
theorem KW {op:Op} {p:nN} (h:pV P op=some p):∀x∈op.operands,OS x=true:=by
 intro x hx
 unfold pV at h
 split at h
 ·rename_i lM
  obtain⟨i,hi,rfl⟩:=Array.getElem_of_mem hx
  exact Array.all_eq_true.1 lM i hi
 ·cases h
theorem Pr {E:Bl} {n lo k:Nat} {ops:Array Oper} {o:Oper} {p:nN} {pi:PI} {call:gC} {ρ:Env} {v:Value} {H':aE} {a:Act} {K:Act→World→Prop} {Q:Exit→Act→World→Prop} (ho:ops[k]? = some o) (BQ:YI P E n ops.toList k o p pi)
  (hq:pi.quiet=true→fS E p = .quiet) (hv:zM call lo pi ρ H=some (v,H')) (hr:∀t∈wM ops.toList o,RV m (ρ t) (a.tmps.getD t undef)) (hR:Rel m L0 H w) (eW:L0≤lo) (hlen:L0≤H.length)
  (hf:∀b,H.length≤b→b<H'.length→m b=none) (oF:xB P L0 call)
  (hK:∀m' rv w',RV m' v rv→Rel m' L0 H' w'→Trans (if pi.quiet then H.length else lo) m H w m' H' w'→K (a.put o.dst rv) w'):wpOp P ops Q k K a w:=by
 have hro:∀x∈o.op.operands,RV m (ev ρ x) (a.eval x):=fun x hx=>TP (KW BQ.WJ x hx) fun t ht=>hr t (EP (ht▸hx))
 unfold wpOp
 rw[ho]
 simp only
 rcases tT hv with⟨hw,rfl,rfl⟩ | ⟨hw,_,hp | ⟨f,args,hp,hc⟩⟩
 ·rw[FE BQ.guard hw hr]
  simp only[Bool.false_eq_true,if_false]
  exact hK m undef w (RV.undef m) hR (Trans.refl _ m _ w)
 ·rw[FE BQ.guard hw hr]
  simp only[if_true]
  left
  rw[BQ.op] at hp
  have hs:cI P (execOp a.eval o) L0 (if pi.quiet then H.length else lo) m H w v H':=by
   split
   ·rename_i hqq
    rw[ZL (kP:=H.length) (hq hqq)] at hp
    exact VU BQ.WJ hp hro hR hlen hf
   ·exact VU BQ.WJ hp hro hR eW hf
  obtain⟨rv,w',m',pJ,h1,h2,h3⟩:=hs
  unfold Oper.wp
  rcases pJ with pJ | ⟨pJ,rfl⟩
  ·rw[pJ]
   exact hK m' rv w' h1 h2 h3
  ·rw[pJ]
   exact hK m' undef w' h1 h2 h3
 ·rw[FE BQ.guard hw hr]
  simp only[if_true]
  left
  rw[BQ.op] at hp
  have aoL:L0≤(if pi.quiet then H.length else lo):=by split<;>assumption
  obtain⟨gM,Sy,apR⟩:=Xj BQ.WJ hp hro
  have pJ:=apR (oF f args _ H v H' hc m w gM hR aoL hlen Sy hf).1
  unfold Oper.wp
  rw[pJ w]
  show Calls P f gM.toArray w _
  refine(oF f args _ H v H' hc m w gM hR aoL hlen Sy hf).2.mono ?_
  rintro e w' ⟨m',rv,rfl,h1,h2,h3⟩
  exact hK m' rv w' h1 h2 h3
end
end Go.PM
namespace Go.PM
theorem GI {call:gC} {lo:Nat}:∀ {tC:List PI} {ρ bC:Env} {H H':aE},gR call lo tC ρ H=some (bC,H') →
  ∃st:Nat→Env×aE,st 0=(ρ,H)∧st tC.length=(bC,H')∧∀i pi,tC[i]? = some pi→zE call lo pi (st i).1 (st i).2=some (st (i+1))
 |
  [],ρ,bC,H,H',h=>by
  cases h
  exact⟨fun _=>(ρ,H),rfl,rfl,fun i pi hi=>by simp at hi⟩
 |
  x::tC,ρ,bC,H,H',h=>by
  rw[gR] at h
  split at h
  ·rename_i wW H1 h1
   obtain⟨st,h2,h3,h4⟩:=GI h
   refine⟨fun i=>match i with | 0=>(ρ,H) | i+1=>st i,rfl,h3,fun i pi hi => ?_⟩
   cases i with
   |
    zero =>
    simp at hi
    subst hi
    show zE call lo x ρ H=some (st 0)
    rw[h1,h2]
   | succ i=>exact h4 i pi (by simpa using hi)
  ·cases h
theorem iS {H1 H2:aE} {b:Nat} (h:H2[b]? = H1[b]?):Live H2 b↔Live H1 b:=by
 unfold Live
 rw[h]
theorem Rel.restrict {m:dF} {L0:Nat} {H1 H2:aE} {w:World} (h:Rel m L0 H2 w) (hs:∀b,b<H1.length→H2[b]? = H1[b]?):Rel m L0 H1 w:=by
 refine⟨h.valid,fun b l cs e p hm hb=>h.row b l cs e p hm ?_,fun b1 b2 l1 l2 hb h1 h2 DF HP=>h.inj b1 b2 l1 l2 hb h1 h2 ((iS (hs b1 DF.lt)).2 DF) ((iS (hs b2 HP.lt)).2 HP),fun x hx=>⟨(h.DE x hx).1,fun b l hb hm hl=>(h.DE x hx).2 b l hb hm ((iS (hs b hl.lt)).2 hl)⟩⟩
 rw[hs b (List.getElem?_eq_some_iff.1 hb).1]
 exact hb
theorem Rel.grow {m:dF} {L0:Nat} {H1 H2:aE} {w:World} (h:Rel m L0 H1 w) (hs:∀b,b<H1.length→H2[b]? = H1[b]?) (hd:∀b,H1.length≤b→b<H2.length→m b=none):Rel m L0 H2 w:=by
 have lt:∀b l,m b=some l→b<H2.length→b<H1.length:=fun b l hm hb=>by
  rcases Nat.lt_or_ge b H1.length with h | h
  ·exact h
  ·rw[hd b h hb] at hm;cases hm
 refine⟨h.valid,fun b l cs e p hm hb=>h.row b l cs e p hm ?_,fun b1 b2 l1 l2 hb h1 h2 DF HP=>h.inj b1 b2 l1 l2 hb h1 h2 ((iS (hs b1 (lt b1 l1 h1 DF.lt))).1 DF) ((iS (hs b2 (lt b2 l2 h2 HP.lt))).1 HP),fun x hx=>⟨(h.DE x hx).1,fun b l hb hm hl=>(h.DE x hx).2 b l hb hm ((iS (hs b (lt b l hm hl.lt))).1 hl)⟩⟩
 rw[←hs b (lt b l hm (List.getElem?_eq_some_iff.1 hb).1)]
 exact hb
structure Text (P:Program) (E:Bl) (n:Nat) (ops:Array Oper) (tC:List PI) (ps:List nN) (M:List Nat) (call:gC) (lo:Nat) (st:Nat→Env×aE):Prop where
 ok:agJ P E n ops.toList true tC ps M
 ext:rJ call
 step:∀i pi,tC[i]? = some pi→zE call lo pi (st i).1 (st i).2=some (st (i+1))
section
variable {P:Program} {E:Bl} {n:Nat} {ops:Array Oper} {tC:List PI} {ps:List nN} {M:List Nat} {call:gC} {lo:Nat} {st:Nat→Env×aE}
theorem Text.at (T:Text P E n ops tC ps M call lo st) {i:Nat} (hi:i<ops.size):∃o p pi,ops[i]? = some o∧ps[i]? = some p∧tC[i]? = some pi∧YI P E n ops.toList i o p pi∧PL E ops.toList ps M i o p pi ∧
  ∃v,zM call lo pi (st i).1 (st i).2=some (v,(st (i+1)).2)∧(st (i+1)).1=put (st i).1 o.dst v:=by
 have ho:ops.toList[i]? = some ops[i]:=by simp[hi]
 obtain⟨p,pi,h1,h2,h3,h4,_⟩:=T.ok.each i _ ho
 obtain⟨v,h5,h6⟩:=yB (T.step i pi h2)
 exact⟨ops[i],p,pi,by simp[hi],h1,h2,h3,h4 rfl,v,h5,by rw[h6,h3.dst]⟩
theorem Text.apK (T:Text P E n ops tC ps M call lo st) {i:Nat} (hi:i<ops.size):(st i).2.length≤(st (i+1)).2.length:=by
 obtain⟨o,p,pi,_,_,_,_,_,v,hv,_⟩:=T.at hi
 exact(Mq T.ext hv).len
theorem Text.len (T:Text P E n ops tC ps M call lo st) {i:Nat}:∀ {j:Nat},i≤j→j≤ops.size→(st i).2.length≤(st j).2.length:=by
 intro j TI
 induction j with
 | zero =>
    intro _;have:i=0:=by omega
    subst this;exact Nat.le_refl _
 |
  succ j ih =>
  intro hj
  rcases Nat.lt_or_ge i (j+1) with h | h
  ·exact Nat.le_trans (ih (by omega) (by omega)) (T.apK (by omega))
  ·have:i=j+1:=by omega
   subst this;exact Nat.le_refl _
theorem Text.aoX (T:Text P E n ops tC ps M call lo st) {i:Nat} {p:nN} (hi:i<ops.size) (hp:ps[i]? = some p) (hw:fS E p ≠ .write):∀b,b<(st i).2.length→(st (i+1)).2[b]? = (st i).2[b]? := by
 intro b hb
 obtain⟨o,p',pi,_,DN,_,BQ,W7,v,hv,_⟩:=T.at hi
 rw[hp] at DN
 cases DN
 rcases tT hv with⟨_,_,h⟩ | ⟨_,_,h | ⟨f,args,h1,h2⟩⟩
 ·rw[h]
 ·rw[BQ.op] at h
  by_cases hq:fS E p = .quiet
  ·rw[ZL (kP:=(st i).2.length) hq] at h
   exact(UH h).low b hb hb
  ·
   have:(st (i+1)).2=(st i).2:=by
    cases p<;>first
     | (exact absurd rfl hw)
     | (exact absurd rfl hq)
     | (rw[xV rfl] at h;exact(C6 h).2)
     | skip
    case load agg size q =>
     simp only[pop] at h
     cases hl:nT agg size (ev (st i).1 q) (st i).2 with
     | none=>rw[hl] at h;cases h
     | some u=>rw[hl] at h;injection h with h;injection h with _ h;exact h.symm
    case b2s x =>
     simp only[pop] at h
     split at h
     ·injection h with h;injection h with _ h;exact h.symm
     ·split at h
      ·rename_i cs _
       cases hb:tZ cs with
       | none=>rw[hb] at h;cases h
       | some bs=>rw[hb] at h;injection h with h;injection h with _ h;exact h.symm
      ·cases h
     ·cases h
    case sub size x l hh mx =>
     simp only[pop] at h
     cases mx with
     | some mx=>exact absurd rfl hq
     |
      none =>
      cases hs:CJ size (ev (st i).1 x) (l.map (ev (st i).1)) (hh.map (ev (st i).1)) ((none:Option Operand).map (ev (st i).1)) (st i).2 with
      | none=>rw[hs] at h;cases h
      |
       some q =>
       obtain⟨u,H1⟩:=q
       rw[hs] at h
       injection h with h;injection h with _ h
       subst h
       unfold CJ at hs
       simp only[Option.map_none,Option.isSome_none,Bool.false_eq_true,false_and,if_false] at hs
       repeat' (split at hs)
       all_goals first
        | (cases hs;done)
        | (injection hs with hs;injection hs with _ hs;exact hs.symm)
    case call f args=>cases h
   rw[this]
 ·rw[BQ.op] at h1
  have hq:pi.quiet=true:=by
   rw[W7.quiet]
   rcases sD h1 with⟨g,as,rfl⟩ | ⟨g,as,rfl⟩
   ·simp only[fS] at hw ⊢
    split at hw
    ·exact absurd rfl hw
    ·rename_i h;rw[if_neg h]
   ·exact absurd rfl hw
  rw[hq] at h2
  exact(T.ext _ _ _ _ _ _ h2).low b hb hb
end
end Go.PM
namespace Go.PM
theorem Ed {H H':aE} {lo b o:Nat} {new:List Value} (h:H.write lo b o new=some H') {b':Nat} (hb:b'≠b):H'[b']? = H[b']? := by
 obtain⟨cs,e,p,h1,h2,h3,h4,rfl⟩:=BH h
 exact List.getElem?_set_ne (Ne.symm hb)
theorem IL {H H':aE} {lo size bytes add:Nat} {x v:Value} {new:List Value} (h:eK lo size bytes x add new H=some (v,H')) {b':Nat} (hb:iX x≠some b') (bB:b'<H.length):H'[b']? = H[b']? := by
 unfold eK at h
 split at h
 case isFalse=>cases h
 split at h
 ·split at h
  ·split at h
   ·cases h;rfl
   ·split at h
    ·cases h;exact List.getElem?_append_left bB
    ·cases h
  ·cases h
 ·rename_i b o n c
  have fH:b'≠b:=fun e=>hb (by rw[e];rfl)
  split at h
  ·split at h
   ·split at h
    ·split at h
     ·cases h;rfl
     ·cases hw:aE.write H lo b (o+n*size) new with
      | none=>rw[hw] at h;cases h
      | some H1=>rw[hw] at h;cases h;exact Ed hw fH
    ·split at h
     ·split at h
      ·split at h
       ·cases h
        rw[List.getElem?_append_left (by simpa using bB)]
        exact List.getElem?_set_ne (Ne.symm fH)
       ·cases h
      ·cases h;exact List.getElem?_append_left bB
     ·cases h
   ·cases h
  ·cases h
 ·cases h
theorem acT {E:Bl} {lo:Nat} {p:nN} {ρ:Env} {H H':aE} {v:Value} {x:Operand} (h:pop lo p ρ H=some (.val v H')) (hw:fS E p = .write) (ht:EC p=some x) {b':Nat} (hb:iX (ev ρ x)≠some b') (bB:b'<H.length):H'[b']? = H[b']? := by
 cases p<;>first | (cases ht;done) | (cases hw;done) | skip
 case sub size y l hh mx=>cases mx<;>cases hw
 case store size q y =>
  cases ht
  simp only[pop] at h
  split at h
  ·rename_i b o he
   rw[he] at hb
   have fH:b'≠b:=fun e=>hb (by rw[e];rfl)
   split at h
   ·cases hw:H.write lo b o (aL (ev ρ y)) with
    | none=>rw[hw] at h;cases h
    | some H1=>rw[hw] at h;cases h;exact Ed hw fH
   ·cases h
  ·cases h
 case app size bytes y z =>
  cases ht
  simp only[pop] at h
  split at h
  ·rename_i n _
   split at h
   ·rename_i new _
    cases ha:eK lo size bytes (ev ρ x) n new H with
    | none=>rw[ha] at h;cases h
    |
     some q =>
     obtain⟨u,H1⟩:=q
     rw[ha] at h;cases h;exact IL ha hb bB
   ·cases h
  ·cases h
 case appz z bytes y n =>
  cases ht
  simp only[pop] at h
  split at h
  ·rename_i k _
   split at h
   ·cases ha:eK lo z.length bytes (ev ρ x) k.toNat (cV k.toNat z) H with
    | none=>rw[ha] at h;cases h
    |
     some q =>
     obtain⟨u,H1⟩:=q
     rw[ha] at h;cases h;exact IL ha hb bB
   ·cases h
  ·cases h
 case copy size y z =>
  cases ht
  simp only[pop] at h
  split at h
  ·cases h;rfl
  ·rename_i b o d _ s he _
   rw[he] at hb
   have fH:b'≠b:=fun e=>hb (by rw[e];rfl)
   split at h
   ·rename_i new _
    cases hw:H.write lo b o new with
    | none=>rw[hw] at h;cases h
    | some H1=>rw[hw] at h;cases h;exact Ed hw fH
   ·cases h
  ·cases h
 case clear z y =>
  cases ht
  simp only[pop] at h
  split at h
  ·cases h;rfl
  ·rename_i b o n _ he
   rw[he] at hb
   have fH:b'≠b:=fun e=>hb (by rw[e];rfl)
   split at h
   ·cases h;rfl
   ·cases hw:H.write lo b o (cV n z) with
    | none=>rw[hw] at h;cases h
    | some H1=>rw[hw] at h;cases h;exact Ed hw fH
  ·cases h
theorem Oy {H:aE} {b o n:Nat} {cs:List Value} (h:H.read b o n=some cs):b<H.length:=by
 unfold aE.read at h
 split at h
 ·rename_i hb;exact(List.getElem?_eq_some_iff.1 hb).1
 ·cases h
theorem Fy {H H2:aE} {b o n:Nat} (h:H2[b]? = H[b]?):H2.read b o n=H.read b o n:=by
 unfold aE.read
 rw[h]
theorem T7 {agg:Bool} {size:Nat} {x v:Value} {H H2:aE} (h:nT agg size x H=some v) (hb:∀b,iX x=some b→b<H.length→H2[b]? = H[b]?):nT agg size x H2=some v:=by
 unfold nT at h ⊢
 split at h
 ·rename_i b o
  have bB:b<H.length:=by
   split at h
   ·cases hr:H.read b o size with
    | none=>rw[hr] at h;cases h
    | some cs=>exact Oy hr
   ·cases hr:H.read b o 1 with
    | none=>rw[hr] at h;cases h
    | some cs=>exact Oy hr
  have e:=hb b rfl bB
  simp only[Fy e]
  exact h
 ·cases h
theorem R9 {E:Bl} {lo:Nat} {p:nN} {ρ:Env} {H H' H2:aE} {v:Value} (h:pop lo p ρ H=some (.val v H')) (hc:fS E p = .look) (hb:∀x,EC p=some x→∀b,iX (ev ρ x)=some b→b<H.length→H2[b]? = H[b]?) :
  H'=H∧pop lo p ρ H2=some (.val v H2):=by
 cases p<;>first | (cases hc;done) | skip
 case call f args=>simp only[fS] at hc;split at hc<;>cases hc
 case load agg size q =>
  simp only[pop] at h ⊢
  cases hl:nT agg size (ev ρ q) H with
  | none=>rw[hl] at h;cases h
  |
   some u =>
   rw[hl] at h
   cases h
   refine⟨rfl,?_⟩
   rw[T7 hl (hb q rfl)]
   rfl
 case b2s x =>
  simp only[pop] at h ⊢
  split at h
  ·cases h;exact⟨rfl,rfl⟩
  ·rename_i b o n _ he
   split at h
   ·rename_i cs hr
    cases hbs:tZ cs with
    | none=>rw[hbs] at h;cases h
    |
     some bs =>
     rw[hbs] at h
     cases h
     refine⟨rfl,?_⟩
     have e:=hb x rfl b (by rw[he];rfl) (Oy hr)
     rw[Fy e,hr]
     simp only[hbs]
     rfl
   ·cases h
  ·cases h
 case sub size x l hh mx =>
  cases mx with
  | some mx=>cases hc
  |
   none =>
   simp only[pop] at h ⊢
   cases hs:CJ size (ev ρ x) (l.map (ev ρ)) (hh.map (ev ρ)) ((none:Option Operand).map (ev ρ)) H with
   | none=>rw[hs] at h;cases h
   |
    some q =>
    obtain⟨u,H1⟩:=q
    rw[hs] at h
    cases h
    have pZ:=hb x rfl
    generalize ev ρ x=xv at hs pZ
    have key:H1=H∧CJ size xv (l.map (ev ρ)) (hh.map (ev ρ)) ((none:Option Operand).map (ev ρ)) H2=some (u,H2):=by
     unfold CJ at hs ⊢
     simp only[Option.map_none,Option.isSome_none,Bool.false_eq_true,false_and,if_false] at hs ⊢
     split at hs
     ·repeat' (split at hs)
      all_goals first | (cases hs;done) | skip
      cases hs
      simp_all
     ·rename_i b o n c
      split at hs
      ·rename_i cs e p rN
       have e1:=pZ b rfl (List.getElem?_eq_some_iff.1 rN).1
       rw[e1,rN]
       simp only
       repeat' (split at hs)
       all_goals first | (cases hs;done) | skip
       cases hs
       simp_all
      ·cases hs
     ·cases hs
    rw[key.2]
    exact⟨key.1,rfl⟩
section
variable {P:Program} {E:Bl} {n:Nat} {ops:Array Oper} {tC:List PI} {ps:List nN} {M:List Nat} {call:gC} {lo:Nat} {st:Nat→Env×aE}
theorem Text.aaQ (T:Text P E n ops tC ps M call lo st) {i:Nat}:∀ {j:Nat},i≤j→j≤ops.size→Ext lo (st i).2 (st j).2:=by
 intro j TI
 induction j with
 | zero =>
    intro _;have:i=0:=by omega
    subst this;exact Ext.refl _ _
 |
  succ j ih =>
  intro hj
  rcases Nat.lt_or_ge i (j+1) with h | h
  ·obtain⟨o,p,pi,_,_,_,_,_,v,hv,_⟩:=T.at (i:=j) (by omega)
   exact(ih (by omega) (by omega)).trans (Mq T.ext hv)
  ·have:i=j+1:=by omega
   subst this;exact Ext.refl _ _
theorem Text.Y5 (T:Text P E n ops tC ps M call lo st) {i:Nat}:∀ {j:Nat},i≤j→j≤ops.size→∀b,b<(st i).2.length →
  (∀k,i≤k→k<j→∀p pi,ps[k]? = some p→tC[k]? = some pi→fS E p = .write→An pi.g (st k).1=some true→∃x,EC p=some x∧iX (ev (st k).1 x)≠some b) →
  (st j).2[b]? = (st i).2[b]? := by
 intro j TI
 induction j with
 | zero =>
      intro _ b _ _;have:i=0:=by omega
      subst this;rfl
 |
  succ j ih =>
  intro hj b hb hk
  rcases Nat.lt_or_ge i (j+1) with h | h
  ·have bB:b<(st j).2.length:=Nat.lt_of_lt_of_le hb (T.len (by omega) (by omega))
   have h1:(st (j+1)).2[b]? = (st j).2[b]? := by
    obtain⟨o,p,pi,_,hp,Xa,BQ,_,v,hv,_⟩:=T.at (i:=j) (by omega)
    by_cases hw:fS E p = .write
    ·rcases tT hv with⟨_,_,h⟩ | ⟨hwt,_,h | ⟨f,args,h1,h2⟩⟩
     ·rw[h]
     ·rw[BQ.op] at h
      obtain⟨x,hx,fH⟩:=hk j (by omega) (by omega) p pi hp Xa hw hwt
      exact acT h hw hx fH bB
     ·rw[BQ.op] at h1
      obtain⟨x,hx,fH⟩:=hk j (by omega) (by omega) p pi hp Xa hw hwt
      rcases sD h1 with⟨g,as,rfl⟩ | ⟨g,as,rfl⟩<;>cases hx
    ·exact T.aoX (by omega) hp hw b bB
   rw[h1]
   exact ih (by omega) (by omega) b hb fun k hk1 hk2=>hk k hk1 (by omega)
  ·have:i=j+1:=by omega
   subst this;rfl
theorem Text.same (T:Text P E n ops tC ps M call lo st) {i j:Nat} (TI:i≤j) (hj:j≤ops.size) (hk:∀k,i≤k→k<j→∀p,ps[k]? = some p→fS E p ≠ .write):∀b,b<(st i).2.length→(st j).2[b]? = (st i).2[b]? :=
 fun b hb=>T.Y5 TI hj b hb fun k h1 h2 p _ hp _ hw _=>absurd hw (hk k h1 h2 p hp)
theorem Text.OP (T:Text P E n ops tC ps M call lo st) {i t:Nat}:∀ {j:Nat},i≤j→j≤ops.size→(∀k o,i≤k→k<j→ops[k]? = some o→o.dst≠some t)→(st j).1 t=(st i).1 t:=by
 intro j TI
 induction j with
 | zero =>
      intro _ _;have:i=0:=by omega
      subst this;rfl
 |
  succ j ih =>
  intro hj hk
  rcases Nat.lt_or_ge i (j+1) with h | h
  ·obtain⟨o,p,pi,ho,hp,Xa,BQ,_,v,hv,he⟩:=T.at (i:=j) (by omega)
   rw[he]
   have fH:=hk j o (by omega) (by omega) ho
   have h1:put (st j).1 o.dst v t=(st j).1 t:=by
    cases hd:o.dst with
    | none=>rfl
    |
     some d =>
     rw[hd] at fH
     show (if t=d then v else _)=_
     rw[if_neg (fun e=>fH (by rw[e]))]
   rw[h1]
   exact ih (by omega) (by omega) fun k o hk1 hk2=>hk k o hk1 (by omega)
  ·have:i=j+1:=by omega
   subst this;rfl
end
end Go.PM
namespace Go.PM
theorem yD {M:List Nat} {i j:Nat} (h:i<j):ahead M i j=(M.getD j 0).testBit i:=by
 unfold ahead
 have e1:Nat.max i j=j:=Nat.max_eq_right (by omega)
 have e2:Nat.min i j=i:=Nat.min_eq_left (by omega)
 rw[e1,e2]
theorem Zw {M:List Nat} {i j:Nat} (h:j<i):ahead M i j=(M.getD i 0).testBit j:=by
 unfold ahead
 have e1:Nat.max i j=i:=Nat.max_eq_left (by omega)
 have e2:Nat.min i j=j:=Nat.min_eq_right (by omega)
 rw[e1,e2]
theorem Qz {a:Act} {d t:Nat} {v:Value} (hd:d<a.tmps.size):(a.put (some d) v).tmps.getD t undef=if t=d then v else a.tmps.getD t undef:=by
 show (a.tmps.setIfInBounds d v).getD t undef=_
 rcases Nat.lt_or_ge t a.tmps.size with h | h
 ·by_cases e:t=d
  ·subst e;simp[h]
  ·simp[h,e,Ne.symm e]
 ·have:t≠d:=by omega
  simp[h,this]
theorem Gw (a:Act) (d:Option Nat) (v:Value):(a.put d v).tmps.size=a.tmps.size:=by
 cases d<;>simp[Act.put]
theorem F6 (a:Act) (d:Option Nat) (v:Value):(a.put d v).defers=a.defers:=by
 cases d<;>rfl
section
variable {P:Program} {E:Bl} {n:Nat} {ops:Array Oper} {tC:List PI} {ps:List nN} {M:List Nat} {call:gC} {lo L0:Nat} {st:Nat→Env×aE}
structure sF (E:Bl) (n:Nat) (ops:Array Oper) (ps:List nN) (lo L0:Nat) (st:Nat→Env×aE) (m0:dF) (w0:World) (ds:List Deferred) (S:Nat→Prop) (m:dF) (c:Nat) (a:Act) (w:World):Prop where
 Ha:a.tmps.size=n
 defs:a.defers=ds
 back:∀i o,ops.toList[i]? = some o→S i→∀e∈o.after.toList,Region.binds .any e=true→S e.on
 tm:∀t j,j≤ops.size→(∀i o,ops.toList[i]? = some o→o.dst=some t→(S i↔i<j))→RV m ((st j).1 t) (a.tmps.getD t undef)
 Nx:c≤ops.size
 before:∀i p,i<c→ps[i]? = some p→fS E p = .write→S i
 atc:c<ops.size→¬S c∧∃p,ps[c]? = some p∧fS E p = .write
 rel:Rel m L0 (st c).2 w
 tr:Trans lo m0 (st 0).2 w0 m (st c).2 w
 XT:∀b l,m b=some l→m0 b≠none∨∃i,S i∧i<ops.size∧(st i).2.length≤b∧b<(st (i+1)).2.length
theorem Text.anc (T:Text P E n ops tC ps M call lo st) {S:Nat→Prop} (hS:∀i o,ops.toList[i]? = some o→S i→∀e∈o.after.toList,Region.binds .any e=true→S e.on) {k:Nat} {o:Oper} (ho:ops.toList[k]? = some o)
  (hk:∀e∈o.after.toList,Region.binds .any e=true→S e.on) {i:Nat} (hi:(M.getD k 0).testBit i=true):S i :=
 Ue (fun i o hio=>by
   obtain⟨p,pi,_,_,_,hd,_⟩:=T.ok.each i o hio
   exact(hd rfl).back) (fun i o hio=>by
   obtain⟨p,pi,_,_,_,hd,_⟩:=T.ok.each i o hio
   exact(hd rfl).mask) hS k o ho hk i hi
theorem Text.Vm (T:Text P E n ops tC ps M call lo st) {i:Nat} {p:nN} (hi:i<ops.size) (hp:ps[i]? = some p) (h:fS E p = .pure∨fS E p = .look):(st (i+1)).2=(st i).2:=by
 obtain⟨o,p',pi,_,DN,_,BQ,W7,v,hv,_⟩:=T.at hi
 rw[hp] at DN
 cases DN
 rcases tT hv with⟨_,_,h'⟩ | ⟨_,_,h' | ⟨f,args,h1,h2⟩⟩
 ·exact h'
 ·rw[BQ.op] at h'
  rcases h with h | h
  ·have:tJ p=true:=by
    cases p<;>first | rfl | (cases h;done) | skip
    case sub s x l hh mx=>cases mx<;>cases h
    case call f as=>simp only[fS] at h;split at h<;>cases h
   rw[xV this] at h'
   exact(C6 h').2
  ·exact(R9 h' h (fun _ _ _ _ _=>rfl)).1
 ·exfalso
  rw[BQ.op] at h1
  rcases sD h1 with⟨g,as,rfl⟩ | ⟨g,as,rfl⟩
  ·simp only[fS] at h
   split at h<;>rcases h with h | h<;>cases h
  ·rcases h with h | h<;>cases h
theorem Xx {op:Op} {p:nN} {x:Operand} (h:pV P op=some p) (ht:EC p=some x):x∈op.operands:=by
 unfold pV at h
 split at h
 case isFalse=>cases h
 cases op with
 |
  load t q =>
  dsimp only at h
  cases hi:mD P t with
  | none=>rw[hi] at h;cases h
  | some u=>rw[hi] at h;cases h;cases ht;simp[Op.operands]
 |
  store t q v =>
  dsimp only at h
  cases hi:P.info? t with
  | none=>rw[hi] at h;cases h
  | some u=>rw[hi] at h;cases h;cases ht;simp[Op.operands]
 |
  slice t y l hh mx =>
  dsimp only at h
  split at h
  ·split at h
   ·cases h;cases ht
   ·cases h
  ·rename_i e _
   cases hi:mD P e with
   | none=>rw[hi] at h;cases h
   | some u=>rw[hi] at h;cases h;cases ht;simp[Op.operands]
  ·cases h
 |
  convert s d y =>
  dsimp only at h
  repeat' (split at h)
  all_goals first
   | (cases h;done)
   | (cases h;cases ht;done)
   | (cases h;cases ht;simp[Op.operands])
 |
  call c =>
  obtain⟨callee,args,ts⟩:=c
  cases callee with
  |
   builtin b =>
   simp only[oT] at h
   repeat' (split at h)
   all_goals first
    | (cases h;done)
    | (cases h;cases ht;done)
    | skip
   all_goals
    cases h
    cases ht
    have hm:x∈args.toList:=by simp_all
    simpa[Op.operands,Call.operands] using hm
  |
   value f =>
   cases f with
   | tmp g'=>cases h;cases ht
   | func g'=>cases h;cases ht
   | _=>cases h
  | invoke r s=>cases h
 |
  _ =>
  exfalso
  dsimp only at h
  try unfold Cd at h
  repeat' (split at h)
  all_goals first
   | contradiction
   | (cases h;done)
   | (cases h;cases ht;done)
   | exact map_none h (by intro y h;cases h;cases ht)
end
end Go.PM
namespace Go.PM
theorem Fa (p:Nat→Prop):∀(d c N:Nat),N-c=d→c≤N→∃c',c≤c'∧c'≤N∧(∀i,c≤i→i<c'→¬p i)∧(c'<N→p c')
 | 0,c,N,hd,hc=>⟨c,Nat.le_refl _,hc,fun i h1 h2=>by omega,fun h=>by omega⟩
 |
  d+1,c,N,hd,hc=>by
  by_cases hp:p c
  ·exact⟨c,Nat.le_refl _,hc,fun i h1 h2=>by omega,fun _=>hp⟩
  ·obtain⟨c',h1,h2,h3,h4⟩:=Fa p d (c+1) N (by omega) (by omega)
   refine⟨c',by omega,h2,fun i hi1 J6 => ?_,h4⟩
   rcases Nat.lt_or_ge c i with h | h
   ·exact h3 i h J6
   ·have:i=c:=by omega
    subst this;exact hp
theorem Z3 {m:dF} {v r:Value} {b:Nat} (h:RV m v r) (hb:iX v=some b):∃l,m b=some l:=by
 cases h<;>first | (cases hb;done) | (cases hb;exact⟨_,by assumption⟩)
section
variable {P:Program} {E:Bl} {n:Nat} {ops:Array Oper} {tC:List PI} {ps:List nN} {M:List Nat} {call:gC} {lo L0:Nat} {st:Nat→Env×aE}
 {m0:dF} {w0:World} {ds:List Deferred} {S:Nat→Prop} {m:dF} {c:Nat} {a:Act} {w:World} {k:Nat} {o:Oper} {p:nN} {pi:PI}
structure At (P:Program) (E:Bl) (n:Nat) (ops:Array Oper) (tC:List PI) (ps:List nN) (M:List Nat) (S:Nat→Prop) (k:Nat) (o:Oper) (p:nN) (pi:PI):Prop where
 lt:k<ops.size
 eo:ops[k]? = some o
 ep:ps[k]? = some p
 epi:tC[k]? = some pi
 ok:YI P E n ops.toList k o p pi
 dr:PL E ops.toList ps M k o p pi
 atS:¬S k
 anc:∀i,(M.getD k 0).testBit i=true→S i
 desc:∀i,i<ops.size→S i→(M.getD i 0).testBit k=true→False
theorem At.ah (A:At P E n ops tC ps M S k o p pi) {i:Nat} (hi:i<ops.size) (h:i=k∨ahead M k i=true):S i↔i<k:=by
 rcases Nat.lt_trichotomy i k with h1 | h1 | h1
 ·refine⟨fun _=>h1,fun _ => ?_⟩
  rcases h with h | h
  ·omega
  ·rw[Zw h1] at h;exact A.anc i h
 ·subst h1
  exact⟨fun h=>absurd h A.atS,fun h=>by omega⟩
 ·refine⟨fun hs => ?_,fun h=>by omega⟩
  rcases h with h | h
  ·omega
  ·rw[yD h1] at h;exact absurd h (fun h=>A.desc i hi hs h)
theorem Fc {i:Nat} {oi:Oper} (h:ops.toList[i]? = some oi):i<ops.size:=by
 have:=(List.getElem?_eq_some_iff.1 h).1
 simpa using this
theorem At.reads (A:At P E n ops tC ps M S k o p pi) (I:sF E n ops ps lo L0 st m0 w0 ds S m c a w):∀t∈wM ops.toList o,RV m ((st k).1 t) (a.tmps.getD t undef):=by
 intro t ht
 refine I.tm t k (Nat.le_of_lt A.lt) fun i oi hi hd => ?_
 exact A.ah (Fc hi) (A.dr.N2 t (List.mem_append_right _ ht) i oi hi hd)
theorem At.operand (A:At P E n ops tC ps M S k o p pi) (I:sF E n ops ps lo L0 st m0 w0 ds S m c a w) {x:Operand} (hx:x∈o.op.operands):RV m (ev (st k).1 x) (a.eval x) :=
 TP (KW A.ok.WJ x hx) fun t ht=>A.reads I t (EP (ht▸hx))
theorem At.pair (T:Text P E n ops tC ps M call lo st) {i j:Nat} {p q:nN} (TI:i<j) (hj:j<ops.size) (hp:ps[i]? = some p) (hq:ps[j]? = some q):∃qi,tC[j]? = some qi∧Ev E ops.toList M i j p q qi.cf:=by
 obtain⟨o,q',qi,_,MP,Y8,_,hd,_⟩:=T.at hj
 rw[hq] at MP
 cases MP
 exact⟨qi,Y8,hd.anE i TI p hp⟩
theorem sF.late (T:Text P E n ops tC ps M call lo st) (I:sF E n ops ps lo L0 st m0 w0 ds S m c a w) {i:Nat} {q:nN} (hi:c<i) (hn:i<ops.size) (hS:S i) (hq:ps[i]? = some q):fS E q = .pure∨fS E q = .look:=by
 obtain⟨hcS,pc,hpc,Mw⟩:=I.atc (by omega)
 obtain⟨qi,_,jG⟩:=At.pair T hi hn hpc hq
 unfold Ev at jG
 rw[Mw] at jG
 obtain⟨oi,_,_,hoi,_⟩:=T.at hn
 have R8:ops.toList[i]? = some oi:=by simpa using hoi
 have fin:ahead M c i=true→False:=fun h=>by
  rw[yD hi] at h
  exact hcS (T.anc I.back R8 (I.back i oi R8 hS) h)
 cases nO:fS E q with
 | pure=>exact .inl rfl
 | look=>exact .inr rfl
 | quiet=>rw[nO] at jG;exact absurd jG fin
 | write=>rw[nO] at jG;exact absurd jG fin
theorem sF.N2 (T:Text P E n ops tC ps M call lo st) (I:sF E n ops ps lo L0 st m0 w0 ds S m c a w) (A:At P E n ops tC ps M S k o p pi) {m':dF} {v rv:Value} (hm:∀b l,m b=some l→m' b=some l) (hv:RV m' v rv)
  (he:(st (k+1)).1=put (st k).1 o.dst v):∀t j,j≤ops.size→(∀i o,ops.toList[i]? = some o→o.dst=some t→((i=k∨S i)↔i<j))→RV m' ((st j).1 t) ((a.put o.dst rv).tmps.getD t undef):=by
 intro t j hj hw
 have BQ:ops.toList[k]? = some o:=by simpa using A.eo
 cases hd:o.dst with
 |
  none =>
  show RV m' _ (a.tmps.getD t undef)
  refine(I.tm t j hj fun i oi hi hdi => ?_).mono hm
  have fH:i≠k:=fun e=>by subst e;rw[BQ] at hi;cases hi;rw[hd] at hdi;cases hdi
  rw[←hw i oi hi hdi]
  simp[fH]
 |
  some d =>
  rw[Qz (by rw[I.Ha];exact A.ok.bound d hd)]
  by_cases htd:t=d
  ·subst htd
   rw[if_pos rfl]
   have hkj:k<j:=(hw k o BQ hd).1 (.inl rfl)
   have e1:(st j).1 t=(st (k+1)).1 t:=by
    refine T.OP hkj hj fun i oi hi1 J6 hoi hdi => ?_
    have R8:ops.toList[i]? = some oi:=by simpa using hoi
    have hS:=(hw i oi R8 hdi).2 J6
    have hik:i≠k:=by omega
    have:=(A.ah (Fc R8) (A.dr.N2 t (List.mem_append_left _ (by rw[hd];simp)) i oi R8 hdi)).1 (hS.resolve_left hik)
    omega
   rw[e1,he,hd]
   show RV m' (if t=t then v else _) rv
   rw[if_pos rfl]
   exact hv
  ·rw[if_neg htd]
   refine(I.tm t j hj fun i oi hi hdi => ?_).mono hm
   have fH:i≠k:=fun e=>by subst e;rw[BQ] at hi;cases hi;rw[hd] at hdi;cases hdi;exact htd rfl
   rw[←hw i oi hi hdi]
   simp[fH]
theorem sF.Yq (I:sF E n ops ps lo L0 st m0 w0 ds S m c a w) (A:At P E n ops tC ps M S k o p pi) (hr:∀e∈o.after.toList,Region.binds .any e=true→S e.on) :
  ∀i oi,ops.toList[i]? = some oi→(i=k∨S i)→∀e∈oi.after.toList,Region.binds .any e=true→(e.on=k∨S e.on):=by
 intro i oi hi hS e he hb
 rcases hS with rfl | hS
 ·have:ops.toList[i]? = some o:=by simpa using A.eo
  rw[this] at hi
  cases hi
  exact .inr (hr e he hb)
 ·exact .inr (I.back i oi hi hS e he hb)
theorem Hf (T:Text P E n ops tC ps M call lo st) {i j:Nat} {x:Operand} (TI:i≤j) (hj:j≤ops.size) (h:Eh ops.toList i j x=true):ev (st j).1 x=ev (st i).1 x:=by
 cases x with
 |
  tmp t =>
  refine T.OP TI hj fun q oq h1 h2 hoq hd => ?_
  have lM:=List.all_eq_true.1 h oq (by
   have awD:ops.toList[q]? = some oq:=by simpa using hoq
   rw[List.mem_iff_getElem?]
   refine⟨q-i,?_⟩
   rw[List.getElem?_drop,List.getElem?_take,show i+(q-i)=q by omega,if_pos h2,awD])
  simp[hd] at lM
 | const v=>rfl
 | global g=>rfl
 | func f=>rfl
theorem sF.look (T:Text P E n ops tC ps M call lo st) (I:sF E n ops ps lo L0 st m0 w0 ds S m c a w) (A:At P E n ops tC ps M S k o p pi) (BK:∀b,(st 0).2.length≤b→b<(st ops.size).2.length→m0 b=none)
  (nO:fS E p = .pure∨fS E p = .look) {v:Value} (hv:zM call lo pi (st k).1 (st k).2=some (v,(st (k+1)).2)):zM call lo pi (st k).1 (st c).2=some (v,(st c).2):=by
 rcases tT hv with⟨hw,rfl,_⟩ | ⟨hw,PT,hp | ⟨f,args,hp,_⟩⟩
 ·unfold zM
  rw[hw]
 ·unfold zM
  rw[hw]
  simp only[PT,if_true]
  have key:pop lo pi.op (st k).1 (st c).2=some (.val v (st c).2):=by
   rw[A.ok.op] at hp ⊢
   rcases nO with nO | nO
   ·have hlp:tJ p=true:=by
     cases p<;>first | rfl | (cases nO;done) | skip
     case sub s x l hh mx=>cases mx<;>cases nO
     case call f as=>simp only[fS] at nO;split at nO<;>cases nO
    rw[xV hlp] at hp ⊢
    rw[(C6 hp).1]
    rfl
   ·refine(R9 hp nO fun x hx b hb bB => ?_).2
    rcases Nat.lt_or_ge c k with hck | hck
    ·obtain⟨hcS,pc,hpc,Mw⟩:=I.atc (Nat.lt_trans hck A.lt)
     have LJ:b<(st c).2.length:=by
      rcases Nat.lt_or_ge b (st c).2.length with h | h
      ·exact h
      ·exfalso
       obtain⟨l,hl⟩:=Z3 (A.operand I (Xx A.ok.WJ hx)) hb
       have h0:=T.len (i:=0) (j:=c) (Nat.zero_le _) I.Nx
       have h1:=T.len (i:=k) (j:=ops.size) (Nat.le_of_lt A.lt) (Nat.le_refl _)
       rcases I.XT b l hl with h2 | ⟨i,hiS,cN,hi1,J6⟩
       ·exact h2 (BK b (by omega) (by omega))
       ·rcases Nat.lt_trichotomy i c with h3 | h3 | h3
        ·have:=T.len (i:=i+1) (j:=c) h3 I.Nx
         omega
        ·subst h3;exact hcS hiS
        ·obtain⟨oi,qi,pii,_,Y8,_⟩:=T.at cN
         have:=I.late T h3 cN hiS Y8
         rw[T.Vm cN Y8 this] at J6
         omega
     refine(T.Y5 (Nat.le_of_lt hck) (Nat.le_of_lt A.lt) b LJ fun j hj1 X6 q qi hq Y8 hqw afW => ?_).symm
     obtain⟨pi',anO,jG⟩:=At.pair T X6 A.lt hq A.ep
     rw[A.epi] at anO
     cases anO
     unfold Ev at jG
     rw[hqw,nO] at jG
     rcases jG with h | ⟨xa,xb,ha,pZ,hun,K8⟩
     ·exfalso
      rw[yD X6] at h
      have hjS:=A.anc j h
      rcases Nat.lt_or_ge c j with h3 | h3
      ·rcases I.late T h3 (Nat.lt_trans X6 A.lt) hjS hq with h4 | h4<;>(rw[hqw] at h4;cases h4)
      ·have:j=c:=by omega
       subst this;exact hcS hjS
     ·rw[hx] at pZ
      cases pZ
      refine⟨xa,ha,fun e => ?_⟩
      have hk:=List.all_eq_true.1 PT _ K8
      unfold AW at hk
      rw[Hf T (Nat.le_of_lt X6) (Nat.le_of_lt A.lt) hun,e,hb] at hk
      simp at hk
    ·refine T.Y5 hck I.Nx b bB fun j hj1 X6 q qi hq Y8 hqw afW => ?_
     have hjk:k<j:=by
      rcases Nat.lt_or_ge k j with h | h
      ·exact h
      ·have:j=k:=by omega
       subst this
       rw[A.ep] at hq
       cases hq
       rw[hqw] at nO
       cases nO
     have hjn:j<ops.size:=Nat.lt_of_lt_of_le X6 I.Nx
     obtain⟨oj,q',qi',hoj,MP,YU,aCd,_,vj,hvj,_⟩:=T.at hjn
     rw[hq] at MP
     cases MP
     rw[Y8] at YU
     cases YU
     obtain⟨qi',YU,jG⟩:=At.pair T hjk hjn A.ep hq
     rw[Y8] at YU
     cases YU
     unfold Ev at jG
     rw[hqw,nO] at jG
     rcases jG with h | ⟨xa,xb,ha,pZ,hun,K8⟩
     ·exfalso
      rw[yD hjk] at h
      exact A.desc j hjn (I.before j q X6 hq hqw) h
     ·rw[hx] at ha
      cases ha
      refine⟨xb,pZ,fun e => ?_⟩
      have atA:qi.cf.all (AW (st j).1)=true:=by
       rcases tT hvj with⟨h,_⟩ | ⟨_,h,_⟩
       ·rw[afW] at h;cases h
       ·exact h
      have hk:=List.all_eq_true.1 atA _ K8
      unfold AW at hk
      rw[Hf T (Nat.le_of_lt hjk) (Nat.le_of_lt hjn) hun,e,hb] at hk
      simp at hk
  rw[key]
 ·exfalso
  rw[A.ok.op] at hp
  rcases sD hp with⟨g,as,rfl⟩ | ⟨g,as,rfl⟩
  ·simp only[fS] at nO
   split at nO<;>rcases nO with h | h<;>cases h
  ·rcases nO with h | h<;>cases h
end
end Go.PM
namespace Go.PM
section
variable {P:Program} {E:Bl} {n:Nat} {ops:Array Oper} {tC:List PI} {ps:List nN} {M:List Nat} {call:gC} {lo L0:Nat} {st:Nat→Env×aE}
 {m0:dF} {w0:World} {ds:List Deferred}
theorem He {H:aE} {b:Nat} (h:H.length≤b):¬Live H b:=fun hl=>by have:=hl.lt;omega
theorem Yu {S:Nat→Prop} {m:dF} {c:Nat} {a:Act} {w:World} {k:Nat} {o:Oper} (T:Text P E n ops tC ps M call lo st) (oF:xB P L0 call) (eW:L0≤lo) (Ac:L0≤(st 0).2.length)
  (BK:∀b,(st 0).2.length≤b→b<(st ops.size).2.length→m0 b=none) (I:sF E n ops ps lo L0 st m0 w0 ds S m c a w) (ho:ops[k]? = some o) (hkS:¬S k)
  (hr:∀e∈o.after.toList,Region.binds .any e=true→S e.on) {K:Act→World→Prop} {Q:Exit→Act→World→Prop}
  (hK:∀m' c' a' w',sF E n ops ps lo L0 st m0 w0 ds (fun i=>i=k∨S i) m' c' a' w'→K a' w'):wpOp P ops Q k K a w:=by
 have bB:k<ops.size:=(Array.getElem?_eq_some_iff.1 ho).1
 obtain⟨o',p,pi,Zp,hp,Xa,BQ,W7,v,hv,he⟩:=T.at bB
 rw[ho] at Zp
 cases Zp
 have ho2:ops.toList[k]? = some o:=by simpa using ho
 have A:At P E n ops tC ps M S k o p pi:=⟨bB,ho,hp,Xa,BQ,W7,hkS,fun i hi=>T.anc I.back ho2 hr hi,fun i hi hS hb=>by
  have hio:ops.toList[i]? = some ops[i]:=by simp[hi]
  exact hkS (T.anc I.back hio (I.back i _ hio hS) hb)⟩
 have T8:=A.reads I
 have afO:=T.len (i:=0) (j:=c) (Nat.zero_le _) I.Nx
 have amY:=T.len (i:=c) (j:=ops.size) I.Nx (Nat.le_refl _)
 have amW:=T.len (i:=0) (j:=k) (Nat.zero_le _) (Nat.le_of_lt bB)
 have asM:=T.len (i:=k+1) (j:=ops.size) bB (Nat.le_refl _)
 have asF:=T.apK bB
 have hfk:∀b,(st k).2.length≤b→b<(st (k+1)).2.length→m b=none:=by
  intro b h1 h2
  cases hm:m b with
  | none=>rfl
  |
   some l =>
   exfalso
   rcases I.XT b l hm with h3 | ⟨i,hiS,cN,hi1,J6⟩
   ·exact h3 (BK b (by omega) (by omega))
   ·rcases Nat.lt_trichotomy i k with h3 | h3 | h3
    ·have:=T.len (i:=i+1) (j:=k) h3 (Nat.le_of_lt bB)
     omega
    ·subst h3;exact hkS hiS
    ·have:=T.len (i:=k+1) (j:=i) h3 (Nat.le_of_lt cN)
     omega
 have Qp:(fS E p = .pure∨fS E p = .look)→wpOp P ops Q k K a w:=by
  intro nO
  have hq:pi.quiet=false:=by
   rw[W7.quiet]
   rcases nO with h | h<;>rw[h]
  have hw:fS E p ≠ .write:=by rcases nO with h | h<;>(rw[h];exact fun h=>by cases h)
  refine Pr ho BQ (fun h=>by rw[hq] at h;cases h) (I.look T A BK nO hv) T8 I.rel eW (Nat.le_trans Ac afO) (fun b h1 h2=>by omega) oF fun m' rv w' Td hR hT => ?_
  rw[hq] at hT
  simp only[Bool.false_eq_true,if_false] at hT
  have hmm:m'=m:=by
   funext b
   cases hm:m b with
   | some l=>exact hT.ext b l hm
   |
    none =>
    cases hm':m' b with
    | none=>rfl
    | some l=>have:=(hT.new b l hm' hm).1;omega
  subst hmm
  refine hK m' c _ w' ⟨by rw[Gw];exact I.Ha,by rw[F6];exact I.defs,I.Yq A hr,I.N2 T A (fun _ _ h=>h) Td he,I.Nx,fun i q h1 h2 h3 => .inr (I.before i q h1 h2 h3),?_,hR,?_,?_⟩
  ·intro h
   obtain⟨h1,q,h2,h3⟩:=I.atc h
   refine⟨fun hS=>hS.elim (fun e => ?_) h1,q,h2,h3⟩
   subst e
   rw[hp] at h2
   cases h2
   exact hw h3
  ·exact Trans.trans (fun b h1 h2=>BK b h1 (by omega)) (T.aaQ (Nat.zero_le _) I.Nx) (Ext.refl _ _) I.tr hT
  ·intro b l hb
   exact(I.XT b l hb).imp id fun⟨i,h1,h2⟩=>⟨i,.inr h1,h2⟩
 cases nO:fS E p with
 |
  write =>
  have hkc:k=c:=by
   rcases Nat.lt_trichotomy k c with h | h | h
   ·exact absurd (I.before k p h hp nO) hkS
   ·exact h
   ·exfalso
    obtain⟨hcS,pc,hpc,Mw⟩:=I.atc (by omega)
    obtain⟨qi,_,jG⟩:=At.pair T h bB hpc hp
    unfold Ev at jG
    rw[Mw,nO] at jG
    simp only at jG
    rw[yD h] at jG
    exact hcS (A.anc c jG)
  subst hkc
  refine Pr ho BQ (fun hq=>by rw[W7.quiet,nO] at hq;cases hq) hv T8 I.rel eW (Nat.le_trans Ac afO) hfk oF fun m' rv w' Td hR hT => ?_
  have hq:pi.quiet=false:=by rw[W7.quiet,nO]
  rw[hq] at hT
  simp only[Bool.false_eq_true,if_false] at hT
  obtain⟨c',hc1,XO,hc3,hc4⟩:=Fa (fun i=>∃q,ps[i]? = some q∧fS E q = .write) _ (k+1) ops.size rfl bB
  have VE:∀b,b<(st (k+1)).2.length→(st c').2[b]? = (st (k+1)).2[b]? := T.same hc1 XO fun i h1 h2 q hq hw=>hc3 i h1 h2 ⟨q,hq,hw⟩
  have atY:=T.len hc1 XO
  have amK:=T.len (i:=c') (j:=ops.size) XO (Nat.le_refl _)
  have amO:∀b l,m' b=some l→m0 b≠none∨∃i,(i=k∨S i)∧i<ops.size∧(st i).2.length≤b∧b<(st (i+1)).2.length:=by
   intro b l hb
   cases hm:m b with
   | some l'=>exact(I.XT b l' hm).imp id fun⟨i,h1,h2⟩=>⟨i,.inr h1,h2⟩
   | none=>exact .inr ⟨k,.inl rfl,bB,(hT.new b l hb hm).1⟩
  have ahF:∀b,(st (k+1)).2.length≤b→b<(st c').2.length→m' b=none:=by
   intro b h1 h2
   cases hm:m' b with
   | none=>rfl
   |
    some l =>
    exfalso
    rcases amO b l hm with h3 | ⟨i,hiS,cN,hi1,J6⟩
    ·exact h3 (BK b (by omega) (by omega))
    ·rcases Nat.lt_trichotomy i k with h3 | h3 | h3
     ·have:=T.len (i:=i+1) (j:=k) h3 (Nat.le_of_lt bB)
      omega
     ·subst h3;omega
     ·obtain⟨oi,qi,pii,_,Y8,_⟩:=T.at cN
      have:=I.late T h3 cN (hiS.resolve_left (by omega)) Y8
      rw[T.Vm cN Y8 this] at J6
      omega
  have hTT:Trans lo m0 (st 0).2 w0 m' (st (k+1)).2 w':=Trans.trans (fun b h1 h2=>BK b h1 (by omega)) (T.aaQ (Nat.zero_le _) (Nat.le_of_lt bB)) (T.aaQ (Nat.le_succ _) bB) I.tr hT
  refine hK m' c' _ w' ⟨by rw[Gw];exact I.Ha,by rw[F6];exact I.defs,I.Yq A hr,I.N2 T A hT.ext Td he,XO,?_,?_,hR.grow VE ahF,?_,amO⟩
  ·intro i q hi hq hw
   rcases Nat.lt_trichotomy i k with h | h | h
   ·exact .inr (I.before i q h hq hw)
   ·exact .inl h
   ·exact absurd ⟨q,hq,hw⟩ (hc3 i h hi)
  ·intro h
   obtain⟨q,hq,hw⟩:=hc4 h
   refine⟨fun hS => ?_,q,hq,hw⟩
   rcases hS with hS | hS
   ·omega
   ·rcases I.late T (by omega) h hS hq with h4 | h4<;>(rw[hw] at h4;cases h4)
  ·refine⟨hTT.ext,fun b l hb hn => ?_,hTT.size,hTT.bU,hTT.same⟩
   obtain⟨⟨h1,h2⟩,h3⟩:=hTT.new b l hb hn
   refine⟨⟨h1,by omega⟩,?_⟩
   rcases h3 with h3 | h3 | h3
   ·exact .inl h3
   ·exact .inr (.inl fun hl=>h3 ((iS (VE b h2)).1 hl))
   ·exact .inr (.inr h3)
 |
  quiet =>
  have hkc:k<c:=by
   rcases Nat.lt_or_ge k c with h | h
   ·exact h
   ·exfalso
    rcases Nat.lt_or_ge c k with h' | h'
    ·obtain⟨hcS,pc,hpc,Mw⟩:=I.atc (by omega)
     obtain⟨qi,_,jG⟩:=At.pair T h' bB hpc hp
     unfold Ev at jG
     rw[Mw,nO] at jG
     simp only at jG
     rw[yD h'] at jG
     exact hcS (A.anc c jG)
    ·have:k=c:=by omega
     subst this
     obtain⟨_,pc,hpc,Mw⟩:=I.atc bB
     rw[hp] at hpc
     cases hpc
     rw[nO] at Mw
     cases Mw
  have WA:∀i,k<i→i<c→∀q,ps[i]? = some q→fS E q ≠ .write:=by
   intro i h1 h2 q hq hw
   have cN:i<ops.size:=Nat.lt_of_lt_of_le h2 I.Nx
   obtain⟨qi,_,jG⟩:=At.pair T h1 cN hp hq
   unfold Ev at jG
   rw[nO,hw] at jG
   simp only at jG
   rw[yD h1] at jG
   exact A.desc i cN (I.before i q h2 hq hw) jG
  have Mn:∀b,b<(st (k+1)).2.length→(st c).2[b]? = (st (k+1)).2[b]? := T.same hkc I.Nx fun i h1 h2 q hq=>WA i h1 h2 q hq
  have hs0:∀b,b<(st k).2.length→(st c).2[b]? = (st k).2[b]? := T.same (Nat.le_of_lt hkc) I.Nx fun i h1 h2 q hq=>by
   rcases Nat.lt_or_ge k i with h | h
   ·exact WA i h h2 q hq
   ·have:i=k:=by omega
    subst this
    rw[hp] at hq
    cases hq
    rw[nO]
    exact fun h=>by cases h
  have ayX:=T.len (i:=k+1) (j:=c) hkc I.Nx
  refine Pr ho BQ (fun _=>nO) hv T8 (I.rel.restrict hs0) eW (Nat.le_trans Ac amW) hfk oF fun m' rv w' Td hR hT => ?_
  have hq:pi.quiet=true:=by rw[W7.quiet,nO]
  rw[hq] at hT
  simp only[if_true] at hT
  have zR:∀rb,rb<w.heap.size→w'.heap[rb]? = w.heap[rb]? := fun rb CU=>hT.bU rb CU fun b l hb _ hl=>absurd hl (He hb)
  have sG:∀b l,m' b=some l→m b=none→((st k).2.length≤b∧b<(st (k+1)).2.length)∧(w.heap.size≤l.rb∨¬Live (st (k+1)).2 b):=by
   intro b l h1 h2
   obtain⟨h3,h4⟩:=hT.new b l h1 h2
   refine⟨h3,?_⟩
   rcases h4 with h4 | h4 | ⟨b0,l0,g1,_,g3,_⟩
   ·exact .inl h4
   ·exact .inr h4
   ·exact absurd g3 (He g1)
  have aoU:∀b l,m b=some l→l.rb<w.heap.size:=by
   intro b l hb
   obtain⟨arr,e,fz,h1,_⟩:=I.rel.valid b l hb
   exact(Array.getElem?_eq_some_iff.1 h1).1
  have UJ:∀rb j,rb<w.heap.size→w'.cell? ⟨rb,j,none⟩=w.cell? ⟨rb,j,none⟩:=by
   intro rb j CU
   unfold World.cell?
   simp only[zR rb CU]
  have B1:∀b l,m' b=some l→(st (k+1)).2.length≤b→m b=some l:=by
   intro b l hb h
   cases hm:m b with
   | some l'=>have:=hT.ext b l' hm;rw[hb] at this;exact this.symm
   | none=>have:=(sG b l hb hm).1.2;omega
  refine hK m' c _ w' ⟨by rw[Gw];exact I.Ha,by rw[F6];exact I.defs,I.Yq A hr,I.N2 T A hT.ext Td he,I.Nx,fun i q h1 h2 h3 => .inr (I.before i q h1 h2 h3),?_,⟨hR.valid,?_,?_,?_⟩,?_,?_⟩
  ·intro h
   obtain⟨h1,q,h2,h3⟩:=I.atc h
   exact⟨fun hS=>hS.elim (fun e=>by omega) h1,q,h2,h3⟩
  ·intro b l cs e pp hm hb
   rcases Nat.lt_or_ge b (st (k+1)).2.length with h | h
   ·exact hR.row b l cs e pp hm (by rw[←Mn b h];exact hb)
   ·have hmo:=B1 b l hm h
    obtain⟨h1,h2,h3,h4⟩:=I.rel.row b l cs e pp hmo hb
    refine⟨h1,h2,h3,fun i hi => ?_⟩
    obtain⟨rv',g1,g2,g3⟩:=h4 i hi
    exact⟨rv',by rw[UJ _ _ (aoU b l hmo)];exact g1,g2.mono hT.ext,g3⟩
  ·intro b1 b2 l1 l2 Aa h1 h2 DF HP CU
   have fresh:∀b b' l l',m' b=some l→m b=none→m b'=some l'→Live (st c).2 b→l.rb=l'.rb→False:=by
    intro b b' l l' g1 g2 g3 g4 g5
    obtain⟨⟨_,g6⟩,g7⟩:=sG b l g1 g2
    rcases g7 with g7 | g7
    ·have:=aoU b' l' g3;omega
    ·exact g7 ((iS (Mn b g6)).1 g4)
   cases MW:m b1 with
   |
    some l1' =>
    cases hm2:m b2 with
    |
     some l2' =>
     have e1:l1'=l1:=by have:=hT.ext b1 l1' MW;rw[h1] at this;injection this with this;exact this.symm
     have e2:l2'=l2:=by have:=hT.ext b2 l2' hm2;rw[h2] at this;injection this with this;exact this.symm
     subst e1 e2
     exact I.rel.inj b1 b2 _ _ Aa MW hm2 DF HP CU
    |
     none =>
     have e1:l1'=l1:=by have:=hT.ext b1 l1' MW;rw[h1] at this;injection this with this;exact this.symm
     subst e1
     exact(fresh b2 b1 _ _ h2 hm2 MW HP CU.symm).elim
   |
    none =>
    cases hm2:m b2 with
    |
     some l2' =>
     have e2:l2'=l2:=by have:=hT.ext b2 l2' hm2;rw[h2] at this;injection this with this;exact this.symm
     subst e2
     exact(fresh b1 b2 _ _ h1 MW hm2 DF CU).elim
    |
     none =>
     have g1:=(sG b1 l1 h1 MW).1.2
     have g2:=(sG b2 l2 h2 hm2).1.2
     exact hR.inj b1 b2 l1 l2 Aa h1 h2 ((iS (Mn b1 g1)).1 DF) ((iS (Mn b2 g2)).1 HP) CU
  ·intro x hx
   refine⟨(hR.DE x hx).1,fun b l hb hm hl => ?_⟩
   obtain⟨⟨e0,fz0,q1⟩,q2⟩:=I.rel.DE x hx
   cases MW:m b with
   |
    some l' =>
    have e1:l'=l:=by have:=hT.ext b l' MW;rw[hm] at this;injection this with this;exact this.symm
    subst e1
    exact q2 b l' hb MW hl
   |
    none =>
    obtain⟨⟨_,g6⟩,g7⟩:=sG b l hm MW
    rcases g7 with g7 | g7
    ·have:=(Array.getElem?_eq_some_iff.1 q1).1
     omega
    ·exact(g7 ((iS (Mn b g6)).1 hl)).elim
  ·refine⟨fun b l hb=>hT.ext b l (I.tr.ext b l hb),fun b l hb hn => ?_,Nat.le_trans I.tr.size hT.size,fun rb CU hk => ?_,hT.same.1.trans I.tr.same.1,hT.same.2.1.trans I.tr.same.2.1,hT.same.2.2.trans I.tr.same.2.2⟩
   ·cases hm:m b with
    |
     some l' =>
     have e1:l'=l:=by have:=hT.ext b l' hm;rw[hb] at this;injection this with this;exact this.symm
     subst e1
     exact I.tr.new b l' hm hn
    |
     none =>
     obtain⟨⟨g1,g2⟩,g3⟩:=sG b l hb hm
     refine⟨⟨by omega,by omega⟩,?_⟩
     rcases g3 with g3 | g3
     ·exact .inl (Nat.le_trans I.tr.size g3)
     ·exact .inr (.inl fun hl=>g3 ((iS (Mn b g2)).1 hl))
   ·rw[zR rb (Nat.lt_of_lt_of_le CU I.tr.size),I.tr.bU rb CU hk]
  ·intro b l hb
   cases hm:m b with
   | some l'=>exact(I.XT b l' hm).imp id fun⟨i,h1,h2⟩=>⟨i,.inr h1,h2⟩
   | none=>exact .inr ⟨k,.inl rfl,bB,(sG b l hb hm).1⟩
 | pure=>exact Qp (.inl nO)
 | look=>exact Qp (.inr nO)
end
end Go.PM
namespace Go.PM
section
variable {P:Program} {E:Bl} {n:Nat} {call:gC} {lo L0:Nat}
theorem Trans.fresh {m m':dF} {H H1 H2:aE} {w w':World} (h:Trans lo m H w m' H1 w') (h1:H.length≤H1.length) (hf:∀b,H.length≤b→b<H2.length→m b=none):∀b,H1.length≤b→b<H2.length→m' b=none:=by
 intro b Aa hb2
 cases hm:m' b with
 | none=>rfl
 |
  some l =>
  exfalso
  have hn:=hf b (by omega) hb2
  have:=(h.new b l hm hn).1
  omega
structure Is (n L0:Nat) (m:dF) (ρ:Env) (H:aE) (a:Act) (w:World):Prop where
 Ha:a.tmps.size=n
 defs:a.defers=[]
 env:∀t,RV m (ρ t) (a.tmps.getD t undef)
 rel:Rel m L0 H w
theorem Ok {p q:Nat→Bool}:∀ {l:List Nat} {i:Nat},(∀x∈l,q x=true→p x=true)→i∈l→p i=true→q i=false→l.countP q<l.countP p
 |
  x::l,i,h,hi,hp,hq=>by
  rw[List.countP_cons,List.countP_cons]
  have hle:l.countP q≤l.countP p:=List.countP_mono_left fun x hx=>h x (List.mem_cons_of_mem _ hx)
  rcases List.mem_cons.1 hi with rfl | hi
  ·rw[if_neg (by simp[hq]),if_pos hp];omega
  ·have:=Ok (fun x hx=>h x (List.mem_cons_of_mem _ hx)) hi hp hq
   have:(if q x=true then 1 else 0)≤(if p x=true then 1 else 0):=by
    by_cases hqx:q x=true
    ·rw[if_pos hqx,if_pos (h x List.mem_cons_self hqx)];omega
    ·rw[if_neg hqx];omega
   omega
theorem Lo {listed:Array Bool} {k i:Nat} (hk:k<listed.size):(listed.setIfInBounds k true).getD i false=true↔(i=k∨listed.getD i false=true):=by
 rcases Nat.lt_or_ge i listed.size with h | h
 ·by_cases e:i=k
  ·subst e;simp[h]
  ·simp[h,e,Ne.symm e]
 ·have:i≠k:=by omega
  simp[h,this]
theorem adQ {ops:Array Oper} {tC:List PI} {ps:List nN} {M:List Nat} {st:Nat→Env×aE} {m0:dF} {w0:World} (T:Text P E n ops tC ps M call lo st) (oF:xB P L0 call) (eW:L0≤lo) (Ac:L0≤(st 0).2.length)
  (BK:∀b,(st 0).2.length≤b→b<(st ops.size).2.length→m0 b=none) {Q:Exit→Act→World→Prop}
  (hQ:∀m' a' w',Is n L0 m' (st ops.size).1 (st ops.size).2 a' w'→Trans lo m0 (st 0).2 w0 m' (st ops.size).2 w'→Q .normal a' w') :
  ∀(fuel:Nat) (listed:Array Bool) (m:dF) (c:Nat) (a:Act) (w:World),listed.size=ops.size→((List.range ops.size).countP fun i => !listed.getD i false)≤fuel →
  sF E n ops ps lo L0 st m0 w0 [] (fun i=>listed.getD i false=true) m c a w→wpAny P .any ops Q fuel listed a w:=by
 have fin:∀(listed:Array Bool) (m:dF) (c:Nat) (a:Act) (w:World),listed.size=ops.size→(Region.ready .any ops listed=[])→sF E n ops ps lo L0 st m0 w0 [] (fun i=>listed.getD i false=true) m c a w→Q .normal a w:=by
  intro listed m c a w hs hr I
  have all:∀i,i<ops.size→listed.getD i false=true:=by
   intro i
   induction i using Nat.strongRecOn with
   |
    _ i ih =>
    intro hi
    cases hl:listed.getD i false with
    | true=>rfl
    |
     false =>
     exfalso
     obtain⟨o,p,pi,ho,_,_,_,W7,_⟩:=T.at hi
     have:i∈Region.ready .any ops listed:=by
      rw[mem_ready]
      refine⟨?_,o,ho,fun e he hb => ?_⟩
      ·have Uu:i<listed.size:=by omega
       simpa[Uu] using hl
      ·have:=W7.back e (by simpa using he) hb
       exact ih e.on this (by omega)
     rw[hr] at this
     cases this
  have hcN:c=ops.size:=by
   rcases Nat.lt_or_ge c ops.size with h | h
   ·exact absurd (all c h) (I.atc h).1
   ·have:=I.Nx;omega
  subst hcN
  exact hQ m a w ⟨I.Ha,I.defs,fun t=>I.tm t ops.size (Nat.le_refl _) fun i o hi _=>⟨fun _=>Fc hi,fun h=>all i h⟩,I.rel⟩ I.tr
 intro fuel
 induction fuel with
 |
  zero =>
  intro listed m c a w hs hc I
  have hr:Region.ready .any ops listed=[]:=by
   rw[List.eq_nil_iff_forall_not_mem]
   intro i hi
   have pL:=mem_ready.1 hi
   obtain⟨h1,o,ho,_⟩:=pL
   have bB:i<ops.size:=(Array.getElem?_eq_some_iff.1 ho).1
   have h0:((List.range ops.size).countP fun i => !listed.getD i false)=0:=by omega
   rw[List.countP_eq_zero] at h0
   have:=h0 i (List.mem_range.2 bB)
   have Uu:i<listed.size:=by omega
   simp[Uu] at this h1
   rw[h1] at this
   cases this
  exact⟨hr,fin listed m c a w hs hr I⟩
 |
  succ fuel ih =>
  intro listed m c a w hs hc I
  refine⟨fun hr=>fin listed m c a w hs hr I,fun k hk => ?_⟩
  obtain⟨h1,o,ho,hb⟩:=mem_ready.1 hk
  have bB:k<ops.size:=(Array.getElem?_eq_some_iff.1 ho).1
  have hkl:k<listed.size:=by omega
  have hkf:listed.getD k false=false:=by simpa[hkl] using h1
  refine Yu T oF eW Ac BK I ho (by rw[hkf];exact fun h=>by cases h) (fun e he hbd=>hb e (by simpa using he) hbd) fun m' c' a' w' I'=>ih _ m' c' a' w' (by simpa using hs) ?_ ?_
  ·have:((List.range ops.size).countP fun i => !(listed.setIfInBounds k true).getD i false)<((List.range ops.size).countP fun i => !listed.getD i false):=by
    refine Ok (i:=k) (fun x _ hx => ?_) (List.mem_range.2 bB) (by rw[hkf];rfl) ?_
    ·cases hlx:listed.getD x false with
     | false=>rfl
     |
      true =>
      have:=(Lo (i:=x) hkl).2 (.inr hlx)
      rw[this] at hx
      cases hx
    ·rw[(Lo hkl).2 (.inl rfl)];rfl
   omega
  ·have e:(fun i=>(listed.setIfInBounds k true).getD i false=true)=fun i=>i=k∨listed.getD i false=true:=by
    funext i
    exact propext (Lo hkl)
   rw[e]
   exact I'
theorem Rel.drew {m:dF} {H:aE} {w w':World} (h:Rel m L0 H w) (hw:w'.heap=w.heap):Rel m L0 H w':=by
 have hc:∀x,w'.cell? x=w.cell? x:=fun x=>by unfold World.cell?;rw[hw]
 refine⟨fun b l hb=>by rw[hw];exact h.valid b l hb,fun b l cs e p hm hb => ?_,h.inj,fun x hx=>⟨by rw[hw];exact(h.DE x hx).1,(h.DE x hx).2⟩⟩
 obtain⟨h1,h2,h3,h4⟩:=h.row b l cs e p hm hb
 refine⟨h1,h2,h3,fun i hi => ?_⟩
 rw[hc]
 exact h4 i hi
theorem SX {id:Nat} {ops:Array Oper} {draw:Bool} {tC:List PI} (DK:P.follows .mixedOrders=true) (oF:xB P L0 call) (qU:rJ call) (hp:xN P E n ops draw=some tC) {ρ bC:Env} {H H':aE}
  (hv:gR call lo tC ρ H=some (bC,H')) {m:dF} {a:Act} {w:World} (h:Is n L0 m ρ H a w) (eW:L0≤lo) (hlen:L0≤H.length) (hf:∀b,H.length≤b→b<H'.length→m b=none) {Q:Exit→Act→World→Prop}
  (hQ:∀m' a' w',Is n L0 m' bC H' a' w'→Trans lo m H w m' H' w'→Q .normal a' w'):(Code.region id ops draw).wp P Q a w:=by
 obtain⟨ps,M,BQ⟩:=JB hp
 obtain⟨st,hs0,hsn,Ik⟩:=GI hv
 have hN:tC.length=ops.size:=by rw[BQ.avJ];simp
 rw[hN] at hsn
 cases draw with
 |
  true =>
  have T:Text P E n ops tC ps M call lo st:=⟨BQ,qU,Ik⟩
  apply wp_region_any DK
  have e0:(st 0).1=ρ:=by rw[hs0]
  have e1:(st 0).2=H:=by rw[hs0]
  have e2:(st ops.size).1=bC:=by rw[hsn]
  have e3:(st ops.size).2=H':=by rw[hsn]
  obtain⟨c,hc1,XO,hc3,hc4⟩:=Fa (fun i=>∃q,ps[i]? = some q∧fS E q = .write) _ 0 ops.size rfl (Nat.zero_le _)
  have VE:=T.same hc1 XO fun i h1 h2 q hq hw=>hc3 i h1 h2 ⟨q,hq,hw⟩
  have amY:=T.len hc1 XO
  have amK:=T.len (i:=c) (j:=ops.size) XO (Nat.le_refl _)
  have hgr:=h.rel.grow (by rw[←e1];exact VE) (fun b h1 h2=>hf b h1 (by rw[←e3];omega))
  have aaB:∀i,(Array.replicate ops.size false).getD i false=true→False:=by
   intro i hi
   rcases Nat.lt_or_ge i ops.size with h | h<;>simp[h] at hi
  refine adQ (m0:=m) (w0:=w) T oF eW (by rw[e1];exact hlen) (by rw[e1,e3];exact hf) (by rw[e1,e2,e3];exact hQ) ops.size _ m c a _ (by simp) (Nat.le_trans List.countP_le_length (by simp)) ?_
  refine⟨h.Ha,h.defs,fun i o _ hi=>(aaB i hi).elim,fun t j hj hw => ?_,XO,fun i q hi hq hw=>absurd ⟨q,hq,hw⟩ (hc3 i (Nat.zero_le _) hi),fun hc=>⟨fun h=>aaB _ h,hc4 hc⟩,hgr.drew rfl,?_,fun b l hb => .inl (by rw[hb];exact fun h=>by cases h)⟩
  ·have e:(st j).1 t=ρ t:=by
    rw[←e0]
    refine T.OP (Nat.zero_le _) hj fun i oi _ J6 hoi hd => ?_
    have R8:ops.toList[i]? = some oi:=by simpa using hoi
    exact(aaB i ((hw i oi R8 hd).2 J6)).elim
   rw[e]
   exact h.env t
  ·rw[e1]
   refine⟨fun _ _ h=>h,fun b l hb hn=>(by rw[hb] at hn;cases hn),Nat.le_refl _,fun _ _ _=>rfl,rfl,rfl,rfl⟩
 |
  false =>
  apply wp_region
  have key:∀d i,ops.size-i=d→i≤ops.size→∀m1 a1 w1,Is n L0 m1 (st i).1 (st i).2 a1 w1→L0≤(st i).2.length→(∀b,(st i).2.length≤b→b<H'.length→m1 b=none) →
    (∀m' a' w',Is n L0 m' bC H' a' w'→Trans lo m1 (st i).2 w1 m' H' w'→Q .normal a' w')→wpOps P ops Q ((List.range ops.size).drop i) a1 w1:=by
   intro d
   induction d with
   |
    zero =>
    intro i hd hi m1 a1 w1 h1 _ _ hQ1
    have:i=ops.size:=by omega
    subst this
    rw[List.drop_eq_nil_of_le (by simp)]
    rw[hsn] at h1 hQ1
    exact hQ1 m1 a1 w1 h1 (Trans.refl _ _ _ _)
   |
    succ d ih =>
    intro i hd hi m1 a1 w1 h1 DF hf1 hQ1
    have bB:i<ops.size:=by omega
    rw[List.drop_eq_getElem_cons (by simpa using bB),wpOps_cons]
    have ho:ops.toList[i]? = some ops[i]:=by simp[bB]
    obtain⟨p,pi,hp1,V5,ahQ,_,W7⟩:=BQ.each i _ ho
    have agX:=Ik i pi V5
    obtain⟨v,hv1,hv2⟩:=yB agX
    have hq:pi.quiet=false:=(W7 rfl).1
    have hE1:=Hz qU agX
    have hE2:Ext lo (st (i+1)).2 H':=by
     have:∀d j,ops.size-j=d→j≤ops.size→Ext lo (st j).2 H':=by
      intro d
      induction d with
      | zero =>
        intro j hd hj;have:j=ops.size:=by omega
        subst this;rw[hsn];exact Ext.refl _ _
      |
       succ d ih =>
       intro j hd hj
       have hjl:j<tC.length:=by omega
       exact(Hz qU (Ik j tC[j] (List.getElem?_eq_getElem hjl))).trans (ih (j+1) (by omega) (by omega))
     exact this _ (i+1) rfl bB
    have CE:(List.range ops.size)[i]'(by simpa using bB)=i:=by simp
    rw[CE]
    refine Pr (by simp[bB]) ahQ (fun h=>by rw[hq] at h;cases h) hv1 (fun t _=>h1.env t) h1.rel eW DF (fun b Aa hb2=>hf1 b Aa (Nat.lt_of_lt_of_le hb2 hE2.len)) oF fun m' rv w' Td hR hT => ?_
    rw[hq] at hT
    simp only[Bool.false_eq_true,if_false] at hT
    refine ih (i+1) (by omega) bB m' _ w' ⟨by rw[Gw];exact h1.Ha,by rw[F6];exact h1.defs,fun t => ?_,hR⟩ (Nat.le_trans DF hE1.len) (hT.fresh hE1.len hf1) fun m2 a2 w2 h2 hT2=>hQ1 m2 a2 w2 h2 (Trans.trans hf1 hE1 hE2 hT hT2)
    rw[hv2,ahQ.dst]
    cases hd:ops[i].dst with
    | none=>exact(h1.env t).mono hT.ext
    |
     some d =>
     rw[Qz (by rw[h1.Ha];exact ahQ.bound d hd)]
     show RV m' (if t=d then v else (st i).1 t) _
     by_cases e:t=d
     ·rw[if_pos e,if_pos e];exact Td
     ·rw[if_neg e,if_neg e];exact(h1.env t).mono hT.ext
  have:=key ops.size 0 (by omega) (Nat.zero_le _) m a w (by rw[hs0];exact h) (by rw[hs0];exact hlen) (by rw[hs0];exact hf) (by rw[hs0];exact hQ)
  simpa using this
end
end Go.PM