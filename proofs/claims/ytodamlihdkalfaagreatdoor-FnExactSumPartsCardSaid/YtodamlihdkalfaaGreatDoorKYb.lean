/- Texts of a claim, in one: part 2. -/
import Derived.LoopN
import Derived.Test.YtodamlihdkalfaaGreatDoorKYa
set_option linter.unusedSimpArgs false
set_option linter.unusedVariables false
namespace Go.PM
section
variable {P:Program} {m:cD} {L0:Nat} {H:aE} {w:World}
theorem RL.const {zs:List Value} (h:zs.all jK=true):RL m zs zs :=
 ⟨rfl,fun j hj=>by
  have:=RV.const (m:=m) (List.all_eq_true.1 h _ (List.getElem_mem hj))
  simpa[List.getD_eq_getElem?_getD,List.getElem?_eq_getElem hj] using this⟩
theorem sZ (n:Nat) (zs:List Value):(cE n zs).length=n*zs.length:=by simp[cE]
theorem uO (n:Nat) {zs:List Value} (h:zs.all jK=true) (h0:1≤zs.length):RL m (cE n zs) (cE n zs):=by
 refine⟨rfl,fun i hi => ?_⟩
 rw[sZ] at hi
 have aV:i % zs.length<zs.length:=Nat.mod_lt _ h0
 have e:(cE n zs).getD i undef=zs.getD (i % zs.length) undef:=by simp[cE,List.getD_eq_getElem?_getD,hi]
 rw[e]
 exact(RL.const h).2 _ aV
theorem O4 (n:Nat) {zs:List Value} (h:zs.all fP=true) (h0:1≤zs.length):(cE n zs).all fP=true:=by
 rw[List.all_eq_true]
 intro x hx
 obtain⟨i,_,rfl⟩:=List.mem_map.1 hx
 have aV:i % zs.length<zs.length:=Nat.mod_lt _ h0
 have:=List.all_eq_true.1 h _ (List.getElem_mem aV)
 simpa[List.getD_eq_getElem?_getD,List.getElem?_eq_getElem aV] using this
theorem HF (z:Array Value) (n:Nat) (h0:1≤z.size):(madeCells z (n*z.size)).toList=cE n z.toList:=by
 apply List.ext_getElem
 ·simp[madeCells,cE]
 ·intro i h1 h2
  have aV:i % z.size<z.size:=Nat.mod_lt _ h0
  simp[madeCells,cE,aV]
theorem Fj (z:Array Value) (n:Nat) (h0:1≤z.size):(Builtin.zeroCells z n).toList=cE n z.toList:=by
 apply List.ext_getElem
 ·simp[Builtin.zeroCells,cE]
 ·intro i h1 h2
  have aV:i % z.size<z.size:=Nat.mod_lt _ h0
  simp[Builtin.zeroCells,cE,aV]
theorem XK {t:TypeId} {agg:Bool} {size nb lo:Nat} {z:List Value} (ht:kT P t=some (agg,size,z,nb)) (Gr:z.all fP=true) (Q0:z.all jK=true) (hR:Rel m L0 H w) (hf:m H.length=none) :
  bY P (do pure (.value (←Instr.alloc t true (.tuple #[])))) L0 lo m H w (.pointer (some ⟨H.length,0,none⟩)) (H++[.row z z.length false]):=by
 obtain⟨i,d,zz,hi,hd,FV,rfl,rfl,rfl,rfl⟩:=gT ht
 have nZ:(Instr.alloc t true (.tuple #[])).run P w = .ok (.pointer (some ⟨w.heap.size,0,none⟩)) (w.alloc (.cells zz.cells t)):=by
  simp[Instr.alloc,zeroValue,typeInfo,hi,FV,newVar,newRow]
 have hA:=vE hR hf (w':=w.alloc (.cells zz.cells t)) (arr:=zz.cells) (e:=t) (fz:=(0,0)) rfl ⟨rfl,rfl,rfl⟩ (cs:=aJ zz) (cF:=(aJ zz).length) (OR:=false)
  (by rw[dX];exact Nat.le_refl _) (fun i hi=>by
   have:=(RL.const (m:=m) Q0).2 i hi
   rwa [←xY,fB]) Gr (fun j _ h=>by simp at h)
 exact bY.value nZ (.ptr _ 0 _ (bI m _ _)) hA.1 (hA.2 lo)
theorem Y9 {t:TypeId} {v r:Value} {lo:Nat} (hv:RV m v r) (hs:(aJ v).all fP=true) (hR:Rel m L0 H w) (hf:m H.length=none) :
  bY P (do pure (.value (←Instr.box t r))) L0 lo m H w (.pointer (some ⟨H.length,0,none⟩)) (H++[.row (aJ v) (aJ v).length false]):=by
 have nZ:(Instr.box t r).run P w = .ok (.pointer (some ⟨w.heap.size,0,none⟩)) (w.alloc (.cells r.cells t)):=by
  simp[Instr.box,newVar,newRow]
 have hA:=vE hR hf (w':=w.alloc (.cells r.cells t)) (arr:=r.cells) (e:=t) (fz:=(0,0)) rfl ⟨rfl,rfl,rfl⟩ (cs:=aJ v) (cF:=(aJ v).length) (OR:=false)
  (by rw[dX,hv.aJ.1];exact Nat.le_refl _) (fun i hi=>by
   have:=hv.aJ.2 i hi
   rwa [←xY,fB]) hs (fun j _ h=>by simp at h)
 exact bY.value nZ (.ptr _ 0 _ (bI m _ _)) hA.1 (hA.2 lo)
theorem Wf {t:TypeId} {agg:Bool} {size nb lo:Nat} {z:List Value} {kl kc:IntKind} {l c:Int} (ht:iK P t=some (agg,size,z,nb)) (Gr:z.all fP=true) (Q0:z.all jK=true) (TE:size=z.length) (Dm:1≤size)
  (hl:0≤l) (hlc:l≤c) (hb:c*nb≤281474976710656) (hc:c≤9223372036854775807) (hR:Rel m L0 H w) (hf:m H.length=none) :
  bY P (do pure (.value (←Instr.makeSlice t (.int kl l) (.int kc c)))) L0 lo m H w (.slice (some ⟨H.length,0,none⟩) l.toNat c.toNat) (H++[.row (cE c.toNat z) z.length false]):=by
 obtain⟨e,hu,HN⟩:=iF ht
 obtain⟨i,d,zz,hi,hd,FV,rfl,rfl,rfl,rfl⟩:=gT HN
 have nZ:=run_make (P:=P) w t e i zz hu hi FV kl kc l c hl hlc (by rw[Int.mul_comm];exact hb) hc
 have A3:i.size=zz.cells.size:=by rw[TE,dX]
 rw[A3] at nZ Dm
 have Ns:(madeCells zz.cells (c.toNat*zz.cells.size)).toList=cE c.toNat (aJ zz):=by rw[HF _ _ Dm,fB]
 have amX:(madeCells zz.cells (c.toNat*zz.cells.size)).size=c.toNat*(aJ zz).length:=by rw[size_madeCells,dX]
 have V4:1≤(aJ zz).length:=by rw[←dX];exact Dm
 have hA:=vE hR hf (w':=w.alloc (.cells (madeCells zz.cells (c.toNat*zz.cells.size)) e)) (arr:=madeCells zz.cells (c.toNat*zz.cells.size)) (e:=e) (fz:=(0,0)) rfl ⟨rfl,rfl,rfl⟩
  (cs:=cE c.toNat (aJ zz)) (cF:=(aJ zz).length) (OR:=false) (by rw[amX,sZ];exact Nat.le_refl _) (fun j hj=>by
   have:=(uO (m:=m) c.toNat Q0 V4).2 j hj
   rwa [←xY,Ns]) (O4 _ Gr V4) (fun j _ h=>by simp at h)
 refine bY.value nZ ?_ hA.1 (hA.2 lo)
 exact .slice _ 0 _ _ _ _ _ (bI m _ _) (by omega) (Nat.le_refl _) (fun _=>rfl) (.inr ⟨rfl,by simp only[amX];omega⟩)
theorem XT {t:TypeId} {agg:Bool} {size nb lo n:Nat} {z cs:List Value} {parts:List (Nat×Operand)} {ρ:Env} {a:Act} (ht:iK P t=some (agg,size,z,nb)) (Gr:z.all fP=true) (Q0:z.all jK=true) (TE:size=z.length) (Dm:1≤size) (hn:n*size≤16777216)
  (acJ:uI ((List.range n).map fun i=>(i*z.length,z.length)) (cE n z) (parts.map fun(i,x)=>(i,ev ρ x))=some cs) (Bt:cs.all fP=true) (hr:∀p∈parts,RV m (ev ρ p.2) (a.eval p.2))
  (hR:Rel m L0 H w) (hf:m H.length=none) :
  bY P (do pure (.value (←Instr.buildSlice t n (parts.toArray.map fun(i,x)=>(i,a.eval x))))) L0 lo m H w (.slice (some ⟨H.length,0,none⟩) n n) (H++[.row cs z.length false]):=by
 obtain⟨e,hu,HN⟩:=iF ht
 obtain⟨i,d,zz,hi,hd,FV,rfl,rfl,rfl,rfl⟩:=gT HN
 have A3:i.size=zz.cells.size:=by rw[TE,dX]
 have V4:1≤(aJ zz).length:=by rw[←dX,←A3];exact Dm
 have KS:∀j q,((List.range n).map fun i=>(i*(aJ zz).length,(aJ zz).length))[j]? = some q→(fun i'=>some (i'*i.size,i.size):Nat→Option (Nat×Nat)) j=some q:=by
  intro j q hj
  simp only[List.getElem?_map,Option.map_eq_some_iff] at hj
  obtain⟨k,hk,rfl⟩:=hj
  have hk':=(List.getElem?_eq_some_iff.1 hk)
  obtain⟨hk1,hk2⟩:=hk'
  simp at hk2
  subst hk2
  rw[←TE]
 have hz:RL m (cE n (aJ zz)) ((Array.range (n*i.size)).map (zz.cells[· % zz.cells.size]!)).toList:=by
  have:=uO (m:=m) n Q0 V4
  rw[A3]
  have e1:=HF zz.cells n (by rw[←A3];exact Dm)
  rw[fB] at e1
  show RL m _ (madeCells zz.cells (n*zz.cells.size)).toList
  rw[e1]
  exact this
 obtain⟨Kk,h1,h2⟩:=OX (m:=m) _ _ KS (parts.map fun(i,x)=>(i,ev ρ x)) (parts.map fun(i,x)=>(i,a.eval x)) _ _ cs
  (by simp[Function.comp_def]) (by simpa[Function.comp_def] using RL.map (l:=parts) (f:=fun p=>ev ρ p.2) (g:=fun p=>a.eval p.2) hr) hz acJ
 have hlen:cs.length=n*(aJ zz).length:=by rw[NS _ _ _ _ acJ,sZ]
 have emap:(Array.map (fun x:Nat×Operand=>(x.1,a.eval x.2)) parts.toArray).toList=parts.map fun(i,x)=>(i,a.eval x):=by simp
 have RN:¬(2^24<n*i.size):=by omega
 have nZ:(Instr.buildSlice t n (parts.toArray.map fun(i,x)=>(i,a.eval x))).run P w = .ok (.slice (some ⟨w.heap.size,0,none⟩) n n) (w.alloc (.cells Kk e)):=by
  have UX:Instr.fill (fun i'=>some (i'*i.size,i.size)) ((Array.range (n*i.size)).map (zz.cells[· % zz.cells.size]!)) (Array.map (fun x:Nat×Operand=>(x.1,a.eval x.2)) parts.toArray).toList=some Kk:=by rw[emap];exact h1
  by_cases Wy:n*i.size=0
  ·rw[Wy] at UX
   simp only[show ∀f:Nat→Value,(Array.range 0).map f = #[] from fun f=>by simp] at UX
   unfold Instr.buildSlice
   simp only[Sem.run_bind,run_underlying hu,Result.andThen_ok,run_sizeOf e i hi,Wy,if_true,Sem.run_pure,show ¬(0>2^24) by omega,if_false]
   rw[show ∀f:Nat→Value,(Array.range 0).map f = #[] from fun f=>by simp]
   simp only[UX]
   simp[newRow]
  ·unfold Instr.buildSlice
   simp only[Sem.run_bind,run_underlying hu,Result.andThen_ok,run_sizeOf e i hi,Wy,if_false,Sem.run_pure,gt_iff_lt,RN,zeroValue,typeInfo,run_program,hi,FV]
   simp only[UX]
   simp[newRow]
 have hrs:Kk.size=n*(aJ zz).length:=by rw[←hlen];simpa using h2.1.symm
 have hA:=vE hR hf (w':=w.alloc (.cells Kk e)) (arr:=Kk) (e:=e) (fz:=(0,0)) rfl ⟨rfl,rfl,rfl⟩ (cs:=cs) (cF:=(aJ zz).length) (OR:=false)
  (by rw[hlen,hrs];exact Nat.le_refl _) (fun j hj=>by rw[←xY];exact h2.2 j hj) Bt (fun j _ h=>by simp at h)
 refine bY.value nZ ?_ hA.1 (hA.2 lo)
 exact .slice _ 0 _ _ _ _ _ (bI m _ _) (Nat.le_refl _) (Nat.le_refl _) (fun _=>rfl) (.inr ⟨rfl,by simp only[hrs];omega⟩)
theorem Sv (g:Value→ByteArray→Sem (ForInStep ByteArray)) (hg:∀n s,g (.int .u8 n) s=pure (ForInStep.yield (s.push (UInt8.ofNat n.toNat)))):∀(cs rs:List Value) (bs:List UInt8) (acc:ByteArray),RL m cs rs→sS cs=some bs→∀w,
  (forIn rs acc g).run P w = .ok ⟨(acc.data.toList++bs).toArray⟩ w:=by
 intro cs
 induction cs with
 |
  nil =>
  intro rs bs acc hr hb w
  have e0:rs=[]:=List.eq_nil_of_length_eq_zero hr.1.symm
  subst e0
  cases hb
  simp
 |
  cons c cs ih =>
  intro rs bs acc hr hb w
  cases rs with
  | nil=>exact absurd hr.1 (by simp)
  |
   cons r rs =>
   obtain⟨hc,IN⟩:=hr.iR
   unfold sS at hb
   split at hb
   ·rename_i heq;cases heq
   ·rename_i n rest heq
    cases heq
    cases hc
    cases h2:sS cs with
    | none=>rw[h2] at hb;cases hb
    |
     some bs' =>
     rw[h2] at hb
     cases hb
     simp only[List.forIn_cons,hg,Sem.run_bind,Sem.run_pure,Result.andThen_ok]
     rw[ih rs bs' _ IN h2 w]
     simp[ByteArray.push]
   ·cases hb
theorem XH {s d e:TypeId} {rp:Value} {lo n b off c:Nat} {cs:List Value} {bs:List UInt8} (hs:P.underlying s=some (.slice e)) (hd:P.underlying d=some .string) (he:P.underlying e=some (.int .u8))
  (Ty:H.read b off n=some cs) (hb:sS cs=some bs) (hR:Rel m L0 H w) (hp:RV m (.slice (some ⟨b,off,none⟩) n c) rp) :
  bY P (do pure (.value (←convert s d rp))) L0 lo m H w (.string ⟨bs.toArray⟩) H:=by
 cases hp with
 |
  slice _ _ _ _ l ra rc hm hn hc hx ha =>
  obtain⟨rs,h1,h2,_,h3⟩:=wD hR hm Ty
  have alA:(loadCells ra n).run P w = .ok rs.toArray w:=by
   rcases ha with ha | ⟨rfl,ha⟩
   ·have h0:n=0:=by omega
    subst h0
    have e0:rs=[]:=List.eq_nil_of_length_eq_zero h2
    subst e0
    rfl
   ·rw[←h2]
    exact run_loadCells_list w _ rs h3
  refine bY.value (rv := .string ⟨bs.toArray⟩) (w':=w) (m':=m) ?_ (.str _) hR (Trans.refl lo m H w)
  simp only[convert,Sem.run_bind,run_underlying hs,run_underlying hd,Result.andThen_ok,run_underlying he,Conv.bytesToString,alA,←Array.forIn_toList]
  rw[Sv (P:=P) (m:=m) _ (fun n s=>rfl) cs rs bs ByteArray.empty h1 hb w]
  simp
theorem Ln {t e:TypeId} {i:TypeInfo} (hu:P.underlying t=some (.slice e)) (hi:P.info? e=some i) {a:Option Addr} {n c:Nat} {lo oV mx:Option Value} {l h k:Nat}
  (hb:(Instr.sliceBounds true n c lo oV mx).run P w = .ok (l,h,k) w) :
  (Instr.sliceAt t (.slice a n c) lo oV mx).run P w = .ok (.slice (if k=l then a else a.map (·.add (l*i.size))) (h-l) (k-l)) w:=by
 have h1:(Instr.sliceAt t (.slice a n c) lo oV mx).run P w=(Instr.slice t (.slice a n c) lo oV mx).run P w:=by
  unfold Instr.sliceAt
  rw[Sem.run_bind,run_underlying hu,Result.andThen_ok]
 rw[h1]
 unfold Instr.slice
 rw[Sem.run_bind,run_underlying hu,Result.andThen_ok]
 simp[hb,run_sizeOf e i hi]
theorem Yb {t e:TypeId} {i:TypeInfo} {lo:Nat} {x rx v:Value} {l h mx l' h' mx':Option Value} {H':aE} (hu:P.underlying t=some (.slice e)) (hi:P.info? e=some i)
  (hs:BN i.size x l h mx H=some (v,H')) (hx:RV m x rx) (hl:RO m l l') (hh:RO m h h') (hm:RO m mx mx') (hR:Rel m L0 H w) (hf:∀b,H.length≤b→b<H'.length→m b=none) :
  bY P (do pure (.value (←Instr.sliceAt t rx l' h' mx'))) L0 lo m H w v H':=by
 unfold BN at hs
 split at hs
 ·rename_i n c
  split at hs
  ·rename_i h0
   obtain⟨rfl,rfl⟩:=h0
   cases hx
   split at hs
   ·cases hs
   ·rename_i M hM
    split at hs
    ·cases hs
    ·rename_i hb hhb
     split at hs
     ·cases hs
     ·rename_i lb DR
      cases hs
      have key:∃k1 k2 k3,(Instr.sliceBounds true 0 0 l' h' mx').run P w = .ok (k1,k2,k3) w∧k1=0∧k2=0∧k3=0:=by
       rcases mZ (P:=P) hM hm with⟨rfl,rfl,e1⟩ | ⟨_,r1,rfl,rfl,q1,e1⟩<;>rcases mZ (P:=P) hhb hh with⟨_,rfl,e2⟩ | ⟨_,r2,_,rfl,q2,e2⟩<;>rcases mZ (P:=P) DR hl with⟨_,rfl,e3⟩ | ⟨_,r3,_,rfl,q3,e3⟩
       ·cases e1;cases e2;cases e3
        exact⟨0,0,0,rfl,rfl,rfl,rfl⟩
       ·cases e1;cases e2
        exact⟨lb,0,0,by simp[Instr.sliceBounds,e3 0 (Nat.le_refl _)],by omega,rfl,rfl⟩
       ·cases e1;cases e3
        exact⟨0,hb,0,by simp[Instr.sliceBounds,e2 0 (Nat.le_refl _)],rfl,by omega,rfl⟩
       ·cases e1
        exact⟨lb,hb,0,by simp[Instr.sliceBounds,e2 0 (Nat.le_refl _),e3 hb (Nat.le_refl _)],by omega,by omega,rfl⟩
       ·cases e2
       ·cases e2
       ·cases e3
        exact⟨0,hb,M,by simp[Instr.sliceBounds,e1 0 (Nat.le_refl _),e2 M (Nat.le_refl _)],rfl,by omega,by omega⟩
       ·exact⟨lb,hb,M,by simp[Instr.sliceBounds,e1 0 (Nat.le_refl _),e2 M (Nat.le_refl _),e3 hb (Nat.le_refl _)],by omega,by omega,by omega⟩
      obtain⟨k1,k2,k3,hk,rfl,rfl,rfl⟩:=key
      exact bY.value (Ln hu hi hk) (by simpa using RV.Jg) hR (Trans.refl lo m H w)
  ·cases hs
 ·rename_i b o n c
  cases hx with
  |
   slice _ _ _ _ lc ra rc Rr Tn hcr hxp ha =>
   split at hs
   ·rename_i cells es p Q3
    obtain⟨g1,g2,g3,g4⟩:=hR.row b lc cells es p Rr Q3
    split at hs
    ·rename_i K3
     subst K3
     split at hs
     ·cases hs
     ·rename_i M hM
      split at hs
      ·cases hs
      ·rename_i hb hhb
       split at hs
       ·cases hs
       ·rename_i lb DR
        have key:∃k3,(Instr.sliceBounds true n rc l' h' mx').run P w = .ok (lb,hb,k3) w∧lb≤hb∧hb≤M∧M≤c∧((mx=none∧k3=rc∧M=c)∨(mx.isSome=true∧k3=M)):=by
         rcases mZ (P:=P) hM hm with⟨rfl,rfl,e1⟩ | ⟨_,r1,rfl,rfl,q1,e1⟩<;>rcases mZ (P:=P) hhb hh with⟨_,rfl,e2⟩ | ⟨_,r2,_,rfl,q2,e2⟩<;>rcases mZ (P:=P) DR hl with⟨_,rfl,e3⟩ | ⟨_,r3,_,rfl,q3,e3⟩
         ·cases e1;cases e2;cases e3
          exact⟨rc,rfl,Nat.zero_le _,Tn,Nat.le_refl _,.inl ⟨rfl,rfl,rfl⟩⟩
         ·cases e1;cases e2
          exact⟨rc,by simp[Instr.sliceBounds,e3 n (Nat.le_refl _)],q3,Tn,Nat.le_refl _,.inl ⟨rfl,rfl,rfl⟩⟩
         ·cases e1;cases e3
          exact⟨rc,by simp[Instr.sliceBounds,e2 rc hcr],Nat.zero_le _,q2,Nat.le_refl _,.inl ⟨rfl,rfl,rfl⟩⟩
         ·cases e1
          exact⟨rc,by simp[Instr.sliceBounds,e2 rc hcr,e3 hb (Nat.le_refl _)],q3,q2,Nat.le_refl _,.inl ⟨rfl,rfl,rfl⟩⟩
         ·cases e2
         ·cases e2
         ·cases e3
          exact⟨M,by simp[Instr.sliceBounds,e1 rc hcr,e2 M (Nat.le_refl _)],Nat.zero_le _,q2,q1,.inr ⟨rfl,rfl⟩⟩
         ·exact⟨M,by simp[Instr.sliceBounds,e1 rc hcr,e2 M (Nat.le_refl _),e3 hb (Nat.le_refl _)],q3,q2,q1,.inr ⟨rfl,rfl⟩⟩
        obtain⟨k3,hk,hlh,hhM,hMc,J9⟩:=key
        have nZ:=Ln (a:=some ra) hu hi hk
        have place:k3-lb=0∨((if k3=lb then some ra else (some ra).map (·.add (lb*i.size)))=some (⟨lc.rb,lc.base+(o+lb*i.size),none⟩:Addr)∧lc.base+(o+lb*i.size)+(k3-lb)*lc.cF≤lc.Na):=by
         by_cases hz:k3-lb=0
         ·exact .inl hz
         ·right
          have hk3:k3≤rc:=by rcases J9 with⟨_,rfl,_⟩ | ⟨_,rfl⟩<;>omega
          rcases ha with ha | ⟨rfl,ha⟩
          ·omega
          ·rw[if_neg (by omega)]
           refine⟨by simp[Addr.add_lit,Nat.add_assoc],?_⟩
           rw[g1] at ha ⊢
           have e1:(k3-lb)*i.size=k3*i.size-lb*i.size:=Nat.sub_mul _ _ _
           have e2:lb*i.size≤k3*i.size:=Nat.mul_le_mul_right _ (by omega)
           have e3:k3*i.size≤rc*i.size:=Nat.mul_le_mul_right _ hk3
           omega
        obtain⟨ra',ajR⟩:∃ra',(if k3=lb then some ra else (some ra).map (·.add (lb*i.size)))=some ra':=by split<;>exact⟨_,rfl⟩
        rw[ajR] at nZ
        have aeR:k3-lb=0∨(ra'=⟨lc.rb,lc.base+(o+lb*i.size),none⟩∧lc.base+(o+lb*i.size)+(k3-lb)*lc.cF≤lc.Na):=by
         rcases place with hp | ⟨hp1,hp2⟩
         ·exact .inl hp
         ·rw[ajR] at hp1
          exact .inr ⟨by injection hp1,hp2⟩
        split at hs
        ·rename_i apK
         cases hs
         obtain⟨amK,hMl⟩:=apK
         rcases J9 with⟨rfl,_⟩ | ⟨_,rfl⟩
         ·cases amK
         ·have hA:=Vk hR (hf H.length (Nat.le_refl _) (by simp)) Rr i.size
          refine bY.value (rv := .slice (some ra') 0 0) (by rw[nZ];congr 2<;>omega) ?_ hA.1 (hA.2 lo)
          exact .slice _ 0 0 0 _ _ 0 (bI m _ _) (Nat.le_refl _) (Nat.le_refl _) (fun _=>rfl) (.inl rfl)
        ·cases hs
         refine bY.value nZ ?_ hR (Trans.refl lo m H w)
         refine .slice b _ _ _ lc _ _ Rr (by omega) ?_ ?_ aeR
         ·rcases J9 with⟨_,rfl,rfl⟩ | ⟨_,rfl⟩<;>omega
         ·intro ho
          have:=hxp ho
          rcases J9 with⟨_,rfl,rfl⟩ | ⟨_,rfl⟩<;>omega
    ·cases hs
   ·cases hs
 ·cases hs
end
end Go.PM
namespace Go.PM
section
variable {P:Program} {m:cD} {L0:Nat} {H:aE} {w:World}
theorem Rb {t:TypeId} {i:TypeInfo} {lo b o:Nat} {v r rp:Value} {H':aE} (hi:P.info? t=some i) (hp:RV m (.pointer (some ⟨b,o,none⟩)) rp) (hv:RV m v r) (hs:(aJ v).length=i.size)
  (hw:H.write lo b o (aJ v)=some H') (hR:Rel m L0 H w) (eX:L0≤lo) :
  bY P (do Instr.storeAt t rp r;pure .skip) L0 lo m H w undef H':=by
 cases hp with
 |
  ptr _ _ l hm =>
  obtain⟨w',s1,s2,s3⟩:=C4 P hR eX hm hw hv.aJ
  refine⟨undef,w',m,.inr ⟨?_,rfl⟩,RV.undef m,s2,s3⟩
  have A3:r.cells.size=i.size:=by rw[dX,←hv.aJ.1,hs]
  have h1:(Instr.storeAt t (.pointer (some ⟨l.rb,l.base+o,none⟩)) r).run P w = .ok () w':=by
   show (storeVar t ⟨l.rb,l.base+o,none⟩ r).run P w=_
   unfold storeVar
   simp only[Sem.run_bind,run_sizeOf t i hi,Result.andThen_ok,A3,ne_eq,not_true_eq_false,if_false,fB]
   exact s1
  rw[Sem.run_bind,h1]
  rfl
theorem GK {pv rv:Value} {k:Nat} (h:qT pv=some k) (hr:RV m pv rv):Builtin.lenOf rv=pure k:=by
 unfold qT at h
 split at h
 ·cases h;cases hr<;>rfl
 ·cases h;cases hr;rfl
 ·cases h
theorem BE (a b:Array Value) (xs:List Value) (h:a.toList=xs) (i:Nat) (hi:i<xs.length):(a++b).getD i undef=xs.getD i undef:=by
 subst h
 have:i<a.size:=by simpa using hi
 simp[Array.getD_eq_getD_getElem?,Array.getElem?_append_left this,List.getD_eq_getElem?_getD]
theorem X0 {t u ty:TypeId} {agg:Bool} {size bytes lo k:Nat} {z:List Value} {d:TypeDesc} {x y rx ry v:Value} {new:List Value} {H':aE} (ht:iK P t=some (agg,size,z,bytes)) (hu:P.underlying u=some d) (hd:KG d=true)
  (hk:qT y=some k) (Ac:hC H size k y=some new) (tT:dO lo size bytes x k new H=some (v,H')) (hx:RV m x rx) (hy:RV m y ry) (TE:size=z.length)
  (hR:Rel m L0 H w) (eX:L0≤lo) (hf:∀b,H.length≤b→b<H'.length→m b=none) :
  bY P (do pure (.value (←Builtin.append_ #[t,u] ty #[rx,ry]))) L0 lo m H w v H':=by
 obtain⟨e,HN,Og⟩:=iF ht
 obtain⟨i,de,zz,hi,_,FV,rfl,rfl,rfl,rfl⟩:=gT Og
 obtain⟨oT,h1,h2,h3⟩:=HE Ac hk (Nat.le_refl _) hR hy
 have hl:=GK hk hy
 have Di:1≤i.bytes:=by
  unfold dO at tT
  split at tT
  ·rename_i h;exact h.1
  ·cases tT
 have hnl:new.length=k*i.size:=by
  unfold dO at tT
  split at tT
  ·rename_i h;exact h.2.2.2
  ·cases tT
 obtain⟨rv,w',m',g1,g2,g3,g4⟩:=HB (P:=P) (s:=Builtin.append_ #[t,u] ty #[rx,ry]) (e:=e) tT hR eX hx h1 hf
  (fun a n c w' Ie Bs Ay=>by
   subst Ie
   exact NB HN hu hd hi hl (h3 w rfl) Bs Ay)
  (fun Ie V7=>by
   subst Ie
   subst V7
   exact OC HN hu hd hi hl (h3 w rfl))
  (fun base n c BG Ie Y2 gZ hg hb=>by
   subst Ie
   refine⟨grownCap w (n+k) c e,_,grownCap_ge w _ _ _,NA HN hu hd hi FV hl Y2 (h3 w.drew rfl) hg Di hb,?_,?_⟩
   ·have AF:=grownCap_ge w (n+k) c e
    have FF:oT.length=k*i.size:=by rw[←h1.1,hnl]
    simp only[Array.size_append,List.size_toArray,size_zeroCells,gZ,FF]
    rw[←dX] at TE
    rw[←TE,←Nat.add_mul,←Nat.add_mul]
    congr 1
    omega
   ·intro j hj
    exact BE _ _ _ (by simp) j hj)
 exact bY.value g1 g2 g3 g4
section
variable {t u ty e:TypeId} {ku:IntKind} {i:TypeInfo} {zz:Value} {k:Nat}
theorem Ff {k:Nat} (h:k≤140737488355328):IntKind.i64.wrap (k:Int)=(k:Int):=by rw[IntKind.wrap_i64];omega
theorem Ld (ht:P.underlying t=some (.slice e)) (hu:P.underlying u=some (.int ku)) (hi:P.info? e=some i) (FV:i.zero=some zz) (hk:k≤140737488355328) (Ra:k*i.bytes≤140737488355328)
  {a:Addr} {n c:Nat} {w':World} (Bs:n+k≤c) (hz:k*i.size=0→Builtin.zeroCells zz.cells k = #[]) (Ay:(storeCells (a.add (n*i.size)) (Builtin.zeroCells zz.cells k).toList).run P w = .ok () w') :
  (Builtin.append_ #[t,u] ty #[.slice (some a) n c,.int .i64 k]).run P w = .ok (.slice (some a) (n+k) c) w':=by
 have h0:¬((k:Int)<0):=by omega
 have hb:¬(281474976710656<(k:Int)*(i.bytes:Int)):=by rw[←Int.natCast_mul];omega
 by_cases Dm:k*i.size=0
 ·rw[hz Dm] at Ay
  simp[Builtin.append_,run_underlying ht,run_underlying hu,run_sizeOf e i hi,asInt,asIntOf,Ff hk,typeInfo,hi,h0,hb,Bs,Dm,Ay]
 ·simp[Builtin.append_,run_underlying ht,run_underlying hu,run_sizeOf e i hi,asInt,asIntOf,Ff hk,typeInfo,hi,h0,hb,Bs,Dm,zeroValue,FV,Ay]
theorem NQ (ht:P.underlying t=some (.slice e)) (hu:P.underlying u=some (.int ku)) (hi:P.info? e=some i) :
  (Builtin.append_ #[t,u] ty #[.slice none 0 0,.int .i64 (0:Nat)]).run P w = .ok (.slice none 0 0) w:=by
 have hw:IntKind.i64.wrap 0=0:=rfl
 simp[Builtin.append_,run_underlying ht,run_underlying hu,run_sizeOf e i hi,asInt,asIntOf,hw,typeInfo,hi]
theorem Ll (ht:P.underlying t=some (.slice e)) (hu:P.underlying u=some (.int ku)) (hi:P.info? e=some i) (FV:i.zero=some zz) (hk:k≤140737488355328) (Ra:k*i.bytes≤140737488355328)
  {base:Option Addr} {n c:Nat} {BG:List Value} (Y2:(Builtin.firstCells i.size n (.slice base n c)).run P w.drew = .ok BG.toArray w.drew) (hz:k*i.size=0→Builtin.zeroCells zz.cells k = #[])
  (hg:c<n+k) (Di:1≤i.bytes) (KM:(n+k)*i.bytes≤140737488355328) :
  (Builtin.append_ #[t,u] ty #[.slice base n c,.int .i64 k]).run P w = .ok (.slice (some ⟨w.heap.size,0,none⟩) (n+k) (grownCap w (n+k) c e))
   (w.drew.alloc (.cells (BG.toArray++Builtin.zeroCells zz.cells k++Builtin.zeroCells zz.cells (grownCap w (n+k) c e-(n+k))) e)):=by
 have nC:=growslice_fits (bytes:=i.bytes) hg KM
 have h0:¬((k:Int)<0):=by omega
 have hb:¬(281474976710656<(k:Int)*(i.bytes:Int)):=by rw[←Int.natCast_mul];omega
 have h1:¬(n+k≤c):=by omega
 have h2:¬(281474976710656<Builtin.nextslicecap (n+k) c*i.bytes):=by omega
 have h4:n+k≤140737488355328:=Nat.le_trans (Nat.le_mul_of_pos_right _ Di) KM
 have h3:¬(9223372036854775807<(n:Int)+(k:Int)):=by omega
 by_cases Dm:k*i.size=0
 ·have e0:=hz Dm
  simp[Builtin.append_,run_underlying ht,run_underlying hu,run_sizeOf e i hi,asInt,asIntOf,Ff hk,typeInfo,hi,h0,hb,h1,h2,h3,e0,zeroValue,FV,Question.forced,Y2,newRow,grownCap]
 ·simp[Builtin.append_,run_underlying ht,run_underlying hu,run_sizeOf e i hi,asInt,asIntOf,Ff hk,typeInfo,hi,h0,hb,h1,h2,h3,Dm,zeroValue,FV,Question.forced,Y2,newRow,grownCap]
end
theorem U4 {t u ty:TypeId} {agg:Bool} {size bytes lo:Nat} {z:List Value} {ku:IntKind} {n:Int} {x rx v:Value} {H':aE} (ht:iK P t=some (agg,size,z,bytes)) (hu:P.underlying u=some (.int ku))
  (hn:0≤n∧n*bytes≤140737488355328) (tT:dO lo z.length bytes x n.toNat (cE n.toNat z) H=some (v,H')) (hx:RV m x rx) (TE:size=z.length) (Gr:z.all fP=true) (Q0:z.all jK=true) (Dm:1≤z.length)
  (hR:Rel m L0 H w) (eX:L0≤lo) (hf:∀b,H.length≤b→b<H'.length→m b=none) :
  bY P (do pure (.value (←Builtin.append_ #[t,u] ty #[rx,.int .i64 n]))) L0 lo m H w v H':=by
 obtain⟨e,HN,Og⟩:=iF ht
 obtain⟨i,de,zz,hi,_,FV,rfl,rfl,rfl,rfl⟩:=gT Og
 obtain⟨k,rfl⟩:=Int.eq_ofNat_of_zero_le hn.1
 simp only[Int.toNat_natCast] at tT
 have Di:1≤i.bytes:=by
  unfold dO at tT
  split at tT
  ·rename_i h;exact h.1
  ·cases tT
 have Ra:k*i.bytes≤140737488355328:=by have:=hn.2;omega
 have hk:k≤140737488355328:=Nat.le_trans (Nat.le_mul_of_pos_right _ Di) Ra
 have A3:i.size=zz.cells.size:=by rw[TE,dX]
 have V4:1≤zz.cells.size:=by rw[dX];exact Dm
 have sT:(Builtin.zeroCells zz.cells k).toList=cE k (aJ zz):=by rw[Fj _ _ V4,fB]
 have amG:k*i.size=0→Builtin.zeroCells zz.cells k = #[]:=by
  intro h0
  apply Array.ext'
  rw[sT]
  exact List.eq_nil_of_length_eq_zero (by rw[sZ,←TE];exact h0)
 obtain⟨rv,w',m',g1,g2,g3,g4⟩:=HB (P:=P) (s:=Builtin.append_ #[t,u] ty #[rx,.int .i64 k]) (e:=e) (oT:=cE k (aJ zz)) tT hR eX hx (uO k Q0 Dm) hf
  (fun a n c w' Ie Bs Ay=>by
   subst Ie
   exact Ld HN hu hi FV hk Ra Bs amG (by rw[sT,TE];exact Ay))
  (fun Ie V7=>by
   subst Ie
   subst V7
   exact NQ HN hu hi)
  (fun base n c BG Ie Y2 gZ hg hb=>by
   subst Ie
   refine⟨grownCap w (n+k) c e,_,grownCap_ge w _ _ _,Ll HN hu hi FV hk Ra (by rw[TE];exact Y2) amG hg Di hb,?_,?_⟩
   ·have AF:=grownCap_ge w (n+k) c e
    simp only[Array.size_append,List.size_toArray,size_zeroCells,gZ,dX]
    rw[←Nat.add_mul,←Nat.add_mul]
    congr 1
    omega
   ·intro j hj
    exact BE _ _ _ (by simp[sT]) j hj)
 exact bY.value g1 g2 g3 g4
theorem UQ {t ty:TypeId} {ts:List TypeId} {agg:Bool} {size bytes lo b o d c k:Nat} {z new:List Value} {y rx ry:Value} {H':aE} (ht:iK P t=some (agg,size,z,bytes))
  (hk:qT y=some k) (Ac:hC H size (Nat.min k d) y=some new) (hw:H.write lo b o new=some H') (hx:RV m (.slice (some ⟨b,o,none⟩) d c) rx) (hy:RV m y ry)
  (hR:Rel m L0 H w) (eX:L0≤lo) :
  bY P (do pure (.value (←Builtin.copy_ (t::ts).toArray ty #[rx,ry]))) L0 lo m H w (.int .i64 (Nat.min k d)) H':=by
 obtain⟨e,HN,Og⟩:=iF ht
 obtain⟨i,de,zz,hi,_,FV,rfl,rfl,rfl,rfl⟩:=gT Og
 obtain⟨oT,h1,h2,h3⟩:=HE (P:=P) Ac hk (Nat.min_le_left _ _) hR hy
 have hl:=GK hk hy
 cases hx with
 |
  slice _ _ _ _ l ra rc hm hn hc hxp ha =>
  rcases ha with ha | ⟨rfl,ha⟩
  ·have Cv:d=0:=by omega
   subst Cv
   have ZP:Nat.min k 0=0:=Nat.min_zero k
   rw[ZP] at Ac h3 ⊢
   have sT:new=[]:=by
    have:oT.length=new.length:=h1.1.symm
    unfold hC at Ac
    split at Ac
    ·obtain⟨_,_,_,_,_,_,hlen⟩:=L7 Ac
     exact List.eq_nil_of_length_eq_zero (by simpa using hlen)
    ·split at Ac
     ·cases Ac;rfl
     ·cases Ac
    ·split at Ac
     ·cases Ac;simp
     ·cases Ac
    ·cases Ac
   subst sT
   have hrn:oT=[]:=List.eq_nil_of_length_eq_zero h1.1.symm
   subst hrn
   have hHH:H'=H:=by
    obtain⟨cs,e',p',q1,q2,q3,q4,rfl⟩:=A6 hw
    apply List.ext_getElem?
    intro j
    by_cases hj:b=j
    ·subst hj
     rw[List.getElem?_set_self (List.getElem?_eq_some_iff.1 q1).1,q1]
     simp[gU]
    ·rw[List.getElem?_set_ne hj]
   rw[hHH]
   refine bY.value (rv := .int .i64 0) (w':=w) ?_ (.int _ _) hR (Trans.refl lo m _ w)
   have hf0:=h3 w rfl
   simp[Builtin.copy_,run_underlying HN,hl,run_sizeOf e i hi,goInt,hf0,storeCells]
  ·obtain⟨w',s1,s2,s3⟩:=C4 P hR eX hm hw h1
   refine bY.value (rv := .int .i64 (Nat.min k d)) ?_ (.int _ _) s2 s3
   have hf0:=h3 w rfl
   unfold Builtin.copy_
   simp only[List.getElem?_toArray,List.getElem?_cons_zero,List.getElem?_cons_succ,Sem.run_bind,run_underlying HN,Result.andThen_ok,hl,Sem.run_pure,run_sizeOf e i hi]
   rw[hf0]
   simp only[Result.andThen_ok,s1,goInt]
theorem R2 {t ty e:TypeId} {ts:List TypeId} {i:TypeInfo} {zz:Value} {lo b o n c:Nat} {rx:Value} {H':aE} (HN:P.underlying t=some (.slice e)) (hi:P.info? e=some i) (FV:i.zero=some zz)
  (Wy:n≠0) (hw:H.write lo b o (cE n (aJ zz))=some H') (hx:RV m (.slice (some ⟨b,o,none⟩) n c) rx) (Q0:(aJ zz).all jK=true) (Dm:1≤(aJ zz).length) (hR:Rel m L0 H w) (eX:L0≤lo) :
  bY P (do pure (.value (←Builtin.clear_ (t::ts).toArray ty #[rx]))) L0 lo m H w undef H':=by
 cases hx with
 |
  slice _ _ _ _ l ra rc hm hn hc hxp ha =>
  rcases ha with ha | ⟨rfl,ha⟩
  ·omega
  ·obtain⟨w',s1,s2,s3⟩:=C4 P hR eX hm hw (uO n Q0 Dm)
   have sT:(Builtin.zeroCells zz.cells n).toList=cE n (aJ zz):=by rw[Fj _ _ (by rw[dX];exact Dm),fB]
   refine bY.value (rv:=undef) ?_ (RV.undef m) s2 s3
   rw[←sT] at s1
   obtain⟨n',rfl⟩:∃n',n=n'+1:=⟨n-1,by omega⟩
   simp[Builtin.clear_,run_underlying HN,zeroValue,typeInfo,hi,FV,s1,undef]
theorem HJ {t ty e:TypeId} {ts:List TypeId} {lo c:Nat} {a:Option Addr} {rx:Value} (HN:P.underlying t=some (.slice e)) (hx:RV m (.slice a 0 c) rx) (hR:Rel m L0 H w) :
  bY P (do pure (.value (←Builtin.clear_ (t::ts).toArray ty #[rx]))) L0 lo m H w undef H:=by
 refine bY.value (rv:=undef) (w':=w) ?_ (RV.undef m) hR (Trans.refl lo m _ w)
 cases hx<;>simp[Builtin.clear_,run_underlying HN,undef]
end
end Go.PM
namespace Go.PM
section
variable {P:Program} {m:cD} {L0:Nat} {H:aE} {w:World}
theorem Cd {po:mB} {ρ:Env} {v:Value} {H':aE} (h:(gJ po ρ).map (Out.val · H)=some (.val v H')):gJ po ρ=some v∧H'=H:=by
 cases hp:gJ po ρ with
 | none=>rw[hp] at h;cases h
 | some u=>rw[hp] at h;cases h;exact⟨rfl,rfl⟩
def sL:mB→Bool
 | .load .. | .sub .. | .b2s _ | .new _ | .box _ | .make .. | .lit .. | .call .. | .store .. | .app .. | .appz .. | .copy .. | .clear .. | .callv .. => false
 | _=>true
theorem xF {lo:Nat} {po:mB} {ρ:Env} (h:sL po=true):pop lo po ρ H=(gJ po ρ).map (.val · H):=by
 cases po<;>first | rfl | cases h
theorem Pa {pv rv:Value} {k:Nat} (size:Nat) (h:qT pv=some k) (hr:RV m pv rv):(Builtin.firstCells size 0 rv).run P w = .ok #[] w:=by
 unfold qT at h
 split at h
 ·cases hr
  ·rfl
  ·simp only[Builtin.firstCells,Nat.zero_mul]
   rfl
 ·cases hr
  simp[Builtin.firstCells]
 ·cases h
theorem TF {o:Oper} {po:mB} {ρ:Env} {a:Act} {lo:Nat} {v:Value} {H':aE} (hp:oS P o.op=some po) (hv:pop lo po ρ H=some (.val v H')) (hr:∀x∈o.op.operands,RV m (ev ρ x) (a.eval x))
  (hR:Rel m L0 H w) (eX:L0≤lo) (hf:∀b,H.length≤b→b<H'.length→m b=none):bY P (execOp a.eval o) L0 lo m H w v H':=by
 by_cases gV:sL po=true
 ·rw[xF gV] at hv
  obtain⟨h1,rfl⟩:=Cd hv
  obtain⟨rv,h2,h3⟩:=Xh hp h1 hr
  exact⟨rv,w,m,.inl (h3 w),h2,hR,Trans.refl lo m _ w⟩
 obtain⟨dst,op,type,pos,after,guard⟩:=o
 unfold oS at hp
 simp only at hp hr ⊢
 split at hp
 case isFalse=>cases hp
 cases op with
 | move x=>cases hp;exact absurd rfl gV
 | assign x=>cases hp;exact absurd rfl gV
 | pick c x y=>cases hp;exact absurd rfl gV
 |
  binOp op t x y yt =>
  unfold A1 at hp
  simp only at hp
  split at hp
  ·cases hp;exact absurd rfl gV
  ·cases hp;exact absurd rfl gV
  ·split at hp<;>first | (cases hp;done) | (cases hp;exact absurd rfl gV)
  ·split at hp<;>first | (cases hp;done) | (split at hp<;>first | (cases hp;done) | (cases hp;exact absurd rfl gV))
  ·split at hp<;>first | (cases hp;done) | (cases hp;exact absurd rfl gV)
  ·cases hp
 | unOp op t x=>cases hp;exact absurd rfl gV
 | extract x i=>cases hp;exact absurd rfl gV
 |
  convert s d x =>
  have hx:=hr x (by simp[Op.operands])
  simp only at hp
  split at hp
  ·cases hp;exact absurd rfl gV
  ·cases hp;exact absurd rfl gV
  ·rename_i e hs hd
   split at hp
   ·rename_i he
    cases hp
    simp only[pop] at hv
    split at hv
    ·rename_i n c Wo
     cases hv
     rw[Wo] at hx
     show bY P (do pure (.value (←convert s d (a.eval x)))) L0 lo m H w _ H
     generalize a.eval x=rx at hx ⊢
     cases hx
     refine bY.value (rv := .string ByteArray.empty) ?_ (.str _) hR (Trans.refl lo m _ w)
     simp[convert,run_underlying hs,run_underlying hd,run_underlying he,Conv.bytesToString]
    ·rename_i b o n c Wo
     split at hv
     ·rename_i cs IN
      cases hb:sS cs with
      | none=>rw[hb] at hv;cases hv
      |
       some bs =>
       rw[hb] at hv
       cases hv
       rw[Wo] at hx
       exact XH hs hd he IN hb hR hx
     ·cases hv
    ·cases hv
   ·cases hp
  ·cases hp
 |
  field t x i =>
  simp only at hp
  split at hp
  ·split at hp
   ·rename_i f hf'
    cases ht:kT P f.type with
    | none=>rw[ht] at hp;cases hp
    | some q=>rw[ht] at hp;cases hp;exact absurd rfl gV
   ·cases hp
  ·cases hp
 |
  build t parts =>
  simp only at hp
  split at hp
  ·split at hp
   ·split at hp
    ·cases hp;exact absurd rfl gV
    ·cases hp
   ·cases hp
  ·cases hp
 | nilCheck x=>cases hp;exact absurd rfl gV
 |
  fieldAddr t x i =>
  simp only at hp
  split at hp
  ·split at hp
   ·split at hp
    ·split at hp
     ·cases hp
     ·cases hp;exact absurd rfl gV
    ·cases hp
   ·cases hp
  ·cases hp
 |
  indexAddr t x i =>
  simp only at hp
  cases ht:iK P t with
  | none=>rw[ht] at hp;cases hp
  | some q=>rw[ht] at hp;cases hp;exact absurd rfl gV
 |
  index t x i =>
  simp only at hp
  split at hp
  ·cases hp;exact absurd rfl gV
  ·cases hp
 |
  slice t x mU hi mx =>
  have hx:=hr x (by simp[Op.operands])
  simp only at hp
  split at hp
  ·split at hp
   ·cases hp;exact absurd rfl gV
   ·cases hp
  ·rename_i e hu
   cases ht:kT P e with
   | none=>rw[ht] at hp;cases hp
   |
    some q =>
    obtain⟨agg,size,z,nb⟩:=q
    rw[ht] at hp
    cases hp
    obtain⟨i,d,zz,oV,_,_,rfl,rfl,rfl,rfl⟩:=gT ht
    simp only[pop] at hv
    cases hs:BN i.size (ev ρ x) (mU.map (ev ρ)) (hi.map (ev ρ)) (mx.map (ev ρ)) H with
    | none=>rw[hs] at hv;cases hv
    |
     some q =>
     obtain⟨u,H1⟩:=q
     rw[hs] at hv
     cases hv
     exact Yb hu oV hs hx (RO.map fun y hy=>hr y (by simp[Op.operands,hy])) (RO.map fun y hy=>hr y (by simp[Op.operands,hy])) (RO.map fun y hy=>hr y (by simp[Op.operands,hy])) hR hf
  ·cases hp
 |
  makeFunc fn first eY =>
  cases fn with
  |
   func f =>
   simp only at hp
   split at hp
   ·cases hp;exact absurd rfl gV
   ·cases hp
  | _=>cases hp
 | makeInterface t x=>cases hp;exact absurd rfl gV
 | panic x=>cases hp;exact absurd rfl gV
 |
  load t p =>
  have hx:=hr p (by simp[Op.operands])
  simp only at hp
  cases ht:kT P t with
  | none=>rw[ht] at hp;cases hp
  |
   some q =>
   obtain⟨agg,size,z,nb⟩:=q
   rw[ht] at hp
   cases hp
   simp only[pop] at hv
   cases hl:mT agg size (ev ρ p) H with
   | none=>rw[hl] at hv;cases hv
   |
    some u =>
    rw[hl] at hv
    cases hv
    obtain⟨rv,h1,h2⟩:=M5 ht hl hR hx
    exact bY.value h2 h1 hR (Trans.refl lo m _ w)
 |
  store t p x =>
  have hpp:=hr p (by simp[Op.operands])
  have hx:=hr x (by simp[Op.operands])
  simp only at hp
  cases ht:P.info? t with
  | none=>rw[ht] at hp;cases hp
  |
   some i =>
   rw[ht] at hp
   cases hp
   simp only[pop] at hv
   split at hv
   ·rename_i b o hpo
    split at hv
    ·rename_i hs
     cases hw:H.write lo b o (aJ (ev ρ x)) with
     | none=>rw[hw] at hv;cases hv
     |
      some H1 =>
      rw[hw] at hv
      cases hv
      rw[hpo] at hpp
      exact Rb ht hpp hx hs hw hR eX
    ·cases hv
   ·cases hv
 |
  alloc t =>
  simp only at hp
  split at hp
  ·rename_i agg size z nb ht
   split at hp
   ·rename_i hz
    cases hp
    simp only[Bool.and_eq_true] at hz
    cases hv
    exact XK ht hz.1 hz.2 hR (hf _ (Nat.le_refl _) (by simp))
   ·cases hp
  ·cases hp
 |
  box t x =>
  have hx:=hr x (by simp[Op.operands])
  cases hp
  simp only[pop] at hv
  split at hv
  ·rename_i hs
   cases hv
   exact Y9 hx hs hR (hf _ (Nat.le_refl _) (by simp))
  ·cases hv
 |
  makeSlice t l c =>
  have hl:=hr l (by simp[Op.operands])
  have hc:=hr c (by simp[Op.operands])
  simp only at hp
  split at hp
  ·rename_i agg size z nb ht
   split at hp
   ·rename_i hz
    cases hp
    simp only[Bool.and_eq_true,beq_iff_eq,decide_eq_true_eq] at hz
    obtain⟨⟨⟨z1,z2⟩,z3⟩,z4⟩:=hz
    simp only[pop] at hv
    split at hv
    ·rename_i l' c' BO hc'
     split at hv
     ·rename_i hb
      cases hv
      rw[BO] at hl
      rw[hc'] at hc
      show bY P (do pure (.value (←Instr.makeSlice t (a.eval l) (a.eval c)))) L0 lo m H w _ _
      generalize a.eval l=rl at hl ⊢
      generalize a.eval c=rc at hc ⊢
      cases hl
      cases hc
      exact Wf ht z1 z2 z3 z4 hb.1 hb.2.1 hb.2.2.1 hb.2.2.2 hR (hf _ (Nat.le_refl _) (by simp))
     ·cases hv
    ·cases hv
   ·cases hp
  ·cases hp
 |
  buildSlice t n parts =>
  simp only at hp
  split at hp
  ·rename_i agg size z nb ht
   split at hp
   ·rename_i hz
    cases hp
    simp only[Bool.and_eq_true,beq_iff_eq,decide_eq_true_eq] at hz
    obtain⟨⟨⟨⟨z1,z2⟩,z3⟩,z4⟩,z5⟩:=hz
    simp only[pop] at hv
    split at hv
    ·rename_i cs IN
     split at hv
     ·rename_i Bt
      cases hv
      have:=XT (P:=P) (w:=w) (lo:=lo) (a:=a) ht z1 z2 z3 z4 z5 IN Bt (fun p hpm=>hr p.2 (by simp only[Op.operands];simp;exact⟨p.1,by simpa using hpm⟩)) hR (hf _ (Nat.le_refl _) (by simp))
      rw[Array.toArray_toList] at this
      exact this
     ·cases hv
    ·cases hv
   ·cases hp
  ·cases hp
 |
  call c =>
  obtain⟨callee,args,ts⟩:=c
  cases callee with
  |
   builtin b =>
   have Q1:∀x∈args,RV m (ev ρ x) (a.eval x):=fun x hx=>hr x (by simpa[Op.operands,Call.operands] using hx)
   simp only at hp
   unfold nM at hp
   split at hp
   ·split at hp<;>first | (cases hp;done) | (cases hp;exact absurd rfl gV)
   ·split at hp<;>first | (cases hp;done) | (cases hp;exact absurd rfl gV)
   ·cases hp;exact absurd rfl gV
   ·cases hp;exact absurd rfl gV
   ·rename_i x y t u CH xA ZZ _
    have ea:args = #[x,y]:=Array.toList_inj.1 (by simpa using xA)
    subst ea
    have hx:=Q1 x (by simp)
    have hy:=Q1 y (by simp)
    have arR:∃tr,ts=(t::u::tr).toArray:=⟨CH,Array.toList_inj.1 (by simpa using ZZ)⟩
    obtain⟨tr,rfl⟩:=arR
    show bY P (do pure (.value (←Builtin.append_ (t::u::tr).toArray type ((#[x,y]:Array Operand).map a.eval)))) L0 lo m H w v H'
    rw[IG]
    have aqT:∀r1 r2,Builtin.append_ (t::u::tr).toArray type #[r1,r2]=Builtin.append_ #[t,u] type #[r1,r2]:=fun r1 r2=>by simp[Builtin.append_]
    rw[aqT]
    split at hp
    ·rename_i agg size zero bytes ku ht hu
     split at hp
     ·rename_i hz
      cases hp
      simp only[Bool.and_eq_true,beq_iff_eq,decide_eq_true_eq] at hz
      obtain⟨⟨⟨z1,z2⟩,z3⟩,z4⟩:=hz
      simp only[pop] at hv
      split at hv
      ·rename_i n hn
       split at hv
       ·rename_i hb
        cases tT:dO lo zero.length bytes (ev ρ x) n.toNat (cE n.toNat zero) H with
        | none=>rw[tT] at hv;cases hv
        |
         some q =>
         obtain⟨u',H1⟩:=q
         rw[tT] at hv
         cases hv
         rw[hn] at hy
         generalize a.eval y=ry at hy ⊢
         cases hy
         exact U4 ht hu hb tT hx z4 z1 z2 z3 hR eX hf
       ·cases hv
      ·cases hv
     ·cases hp
    ·rename_i agg size zero bytes d _ ht hu
     split at hp
     ·rename_i hd
      split at hp
      ·rename_i TE
       cases hp
       simp only[pop] at hv
       split at hv
       ·rename_i k hk
        split at hv
        ·rename_i new sT
         cases tT:dO lo size bytes (ev ρ x) k new H with
         | none=>rw[tT] at hv;cases hv
         |
          some q =>
          obtain⟨u',H1⟩:=q
          rw[tT] at hv
          cases hv
          exact X0 ht hu hd hk sT tT hx hy (by simpa using TE) hR eX hf
        ·cases hv
       ·cases hv
      ·cases hp
     ·cases hp
    ·cases hp
   ·rename_i x y t CH xA ZZ _
    have ea:args = #[x,y]:=Array.toList_inj.1 (by simpa using xA)
    have et:ts=(t::CH).toArray:=Array.toList_inj.1 (by simpa using ZZ)
    subst ea;subst et
    have hx:=Q1 x (by simp)
    have hy:=Q1 y (by simp)
    show bY P (do pure (.value (←Builtin.copy_ (t::CH).toArray type ((#[x,y]:Array Operand).map a.eval)))) L0 lo m H w v H'
    rw[IG]
    split at hp
    ·rename_i agg size zero bytes ht
     cases hp
     simp only[pop] at hv
     split at hv
     ·rename_i n c k Wo hk
      cases hv
      rw[Wo] at hx
      generalize a.eval x=rx at hx ⊢
      cases hx
      obtain⟨e,HN,Og⟩:=iF ht
      obtain⟨i,de,zz,hi,_,FV,_,_,_,_⟩:=gT Og
      refine bY.value (rv := .int .i64 0) (w':=w) ?_ (.int _ _) hR (Trans.refl lo m _ w)
      have hl:=GK hk hy
      have hf0:=Pa (P:=P) (w:=w) i.size hk hy
      simp[Builtin.copy_,run_underlying HN,hl,run_sizeOf e i hi,goInt,hf0]
     ·rename_i b o d c k Wo hk
      split at hv
      ·rename_i new sT
       cases hw:H.write lo b o new with
       | none=>rw[hw] at hv;cases hv
       |
        some H1 =>
        rw[hw] at hv
        cases hv
        rw[Wo] at hx
        exact UQ ht hk sT hw hx hy hR eX
      ·cases hv
     ·cases hv
    ·cases hp
   ·rename_i x t CH xA ZZ _
    have ea:args = #[x]:=Array.toList_inj.1 (by simpa using xA)
    have et:ts=(t::CH).toArray:=Array.toList_inj.1 (by simpa using ZZ)
    subst ea;subst et
    have hx:=Q1 x (by simp)
    show bY P (do pure (.value (←Builtin.clear_ (t::CH).toArray type ((#[x]:Array Operand).map a.eval)))) L0 lo m H w v H'
    rw[NY]
    split at hp
    ·rename_i agg size zero bytes ht
     split at hp
     ·rename_i hz
      cases hp
      simp only[Bool.and_eq_true,beq_iff_eq,decide_eq_true_eq] at hz
      obtain⟨⟨⟨z1,z2⟩,z3⟩,z4⟩:=hz
      obtain⟨e,HN,Og⟩:=iF ht
      obtain⟨i,de,zz,hi,_,FV,rfl,rfl,rfl,rfl⟩:=gT Og
      simp only[pop] at hv
      split at hv
      ·rename_i n c Wo
       cases hv
       rw[Wo] at hx
       generalize a.eval x=rx at hx ⊢
       cases hx
       exact HJ HN .Jg hR
      ·rename_i b o n c Wo
       rw[Wo] at hx
       split at hv
       ·rename_i Wy
        cases hv
        subst Wy
        exact HJ HN hx hR
       ·rename_i Wy
        cases hw:H.write lo b o (cE n (aJ zz)) with
        | none=>rw[hw] at hv;cases hv
        |
         some H1 =>
         rw[hw] at hv
         cases hv
         exact R2 HN hi FV Wy hw hx z2 z4 hR eX
      ·cases hv
     ·cases hp
    ·cases hp
   ·cases hp
  |
   value f =>
   cases f with
   | func g=>cases hp;cases hv
   |
    tmp t =>
    cases hp
    simp only[pop] at hv
    split at hv<;>cases hv
   | const c=>cases hp
   | global g=>cases hp
  | invoke r s=>cases hp
 | _=>cases hp
def Jo (P:Program) (f:Nat):Prop:=∃fn,P.funcs[f]? = some fn∧(fn.name == "runtime.NumGoroutine")=false∧fn.body.isNone=false
theorem Fh {f:Nat} {args:Array Value} (h:Jo P f):(callFunc f args).run P w = .ok (.enter f args) w:=by
 obtain⟨fn,h1,h2,h3⟩:=h
 unfold callFunc
 rw[Sem.run_bind,run_program,Result.andThen_ok,h1]
 simp[h2,h3]
theorem map_none {α β:Type} {o:Option α} {f:α→β} {x:β} (h:o.map f=some x) (hf:∀y,f y≠x):False:=by
 cases o with
 | none=>cases h
 | some y=>injection h with h;exact hf y h
theorem U5 {op:Op} {g:Nat} {as:List Operand} (h:oS P op=some (.call g as)):∃args ts,op = .call ⟨.value (.func g),args,ts⟩∧as=args.toList:=by
 unfold oS at h
 split at h
 case isFalse=>cases h
 cases op with
 |
  call c =>
  obtain⟨callee,args,ts⟩:=c
  cases callee with
  |
   builtin b =>
   exfalso
   simp only[nM] at h
   repeat' (split at h)
   all_goals cases h
  |
   value f =>
   cases f with
   | func g'=>cases h;exact⟨args,ts,rfl,rfl⟩
   | _=>cases h
  | invoke r s=>cases h
 |
  _ =>
  exfalso
  dsimp only at h
  try unfold A1 at h
  repeat' (split at h)
  all_goals first
   | contradiction
   | (cases h;done)
   | exact map_none h (by intro y h;cases h)
theorem Rj {op:Op} {fv:Operand} {as:List Operand} (h:oS P op=some (.callv fv as)):∃args ts,op = .call ⟨.value fv,args,ts⟩∧as=args.toList:=by
 unfold oS at h
 split at h
 case isFalse=>cases h
 cases op with
 |
  call c =>
  obtain⟨callee,args,ts⟩:=c
  cases callee with
  |
   builtin b =>
   exfalso
   simp only[nM] at h
   repeat' (split at h)
   all_goals cases h
  |
   value f =>
   cases f with
   | tmp g'=>cases h;exact⟨args,ts,rfl,rfl⟩
   | _=>cases h
  | invoke r s=>cases h
 |
  _ =>
  exfalso
  dsimp only at h
  try unfold A1 at h
  repeat' (split at h)
  all_goals first
   | contradiction
   | (cases h;done)
   | exact map_none h (by intro y h;cases h)
theorem rK {po:mB} {ρ:Env} {lo f:Nat} {args:List Value} (hv:pop lo po ρ H=some (.call f args)):(∃g as,po = .call g as)∨(∃g as,po = .callv g as):=by
 by_cases gV:sL po=true
 ·rw[xF gV] at hv
  cases hpp:gJ po ρ with
  | none=>rw[hpp] at hv;cases hv
  | some u=>rw[hpp] at hv;cases hv
 cases po<;>first | exact absurd rfl gV | exact .inl ⟨_,_,rfl⟩ | exact .inr ⟨_,_,rfl⟩ | skip
 all_goals
  exfalso
  simp only[pop] at hv
  repeat' (split at hv)
  all_goals first
   | (cases hv;done)
   | (revert hv;generalize aE.write _ _ _ _ _=q;cases q<;>intro hv<;>cases hv)
   | (revert hv;generalize mT _ _ _ _=q;cases q<;>intro hv<;>cases hv)
   | (revert hv;generalize BN _ _ _ _ _ _=q;cases q<;>intro hv<;>cases hv)
   | (revert hv;generalize dO _ _ _ _ _ _ _=q;cases q<;>intro hv<;>cases hv)
   | (revert hv;generalize sS _=q;cases q<;>intro hv<;>cases hv)
theorem VH {o:Oper} {po:mB} {ρ:Env} {a:Act} {lo f:Nat} {args:List Value} (hp:oS P o.op=some po) (hv:pop lo po ρ H=some (.call f args)) (hr:∀x∈o.op.operands,RV m (ev ρ x) (a.eval x)) :
  ∃fR,RL m args fR∧(Jo P f→∀w,(execOp a.eval o).run P w = .ok (.enter f fR.toArray) w):=by
 have key:=rK hv
 obtain⟨dst,op,type,pos,after,guard⟩:=o
 simp only at hp hr ⊢
 rcases key with⟨g,as,rfl⟩ | ⟨g,as,rfl⟩
 ·obtain⟨Bn,ts,rfl,rfl⟩:=U5 hp
  cases hv
  refine⟨Bn.toList.map a.eval,RL.map fun x hx=>hr x (by simp[Op.operands,Call.operands];right;simpa using hx),fun hc w => ?_⟩
  have e1:(Bn.toList.map a.eval).toArray=Bn.map a.eval:=Array.toList_inj.1 (by rw[Array.toList_map])
  rw[e1]
  have e2:execOp a.eval ⟨dst,.call ⟨.value (.func f),Bn,ts⟩,type,pos,after,guard⟩=callFunc f ((#[]++Bn.map a.eval) ++ #[]):=rfl
  rw[e2,Fh hc]
  simp
 ·obtain⟨Bn,ts,rfl,rfl⟩:=Rj hp
  have hg:=hr g (by simp[Op.operands,Call.operands])
  simp only[pop] at hv
  split at hv
  ·rename_i f' first eY hfv
   cases hv
   rw[hfv] at hg
   generalize hrg:a.eval g=rg at hg
   cases hg with
   |
    func fn f1 g1 c1 d1 h1 h2 h3 h4 =>
    refine⟨g1.toList++Bn.toList.map a.eval++d1.toList,((RL.arr h1 h2).append (RL.map fun x hx=>hr x (by simp[Op.operands,Call.operands];right;simpa using hx))).append (RL.arr h3 h4),fun hc w => ?_⟩
    have e1:(g1.toList++Bn.toList.map a.eval++d1.toList).toArray=(g1++Bn.map a.eval)++d1:=by
     apply Array.ext'
     simp
    rw[e1]
    have e2:(execOp a.eval ⟨dst,.call ⟨.value g,Bn,ts⟩,type,pos,after,guard⟩)=(do let d ←Deferred.ofValue (a.eval g) (Bn.map a.eval);invoke d.target d.args):=rfl
    rw[e2,hrg]
    show (callFunc f ((g1++Bn.map a.eval)++d1)).run P w=_
    exact Fh hc
  ·cases hv
end
end Go.PM
namespace Go.PM
section
variable {H:aE}
theorem Vc {lo:Nat} {H':aE} (h:Ext H.length H H'):Ext lo H H' :=
 ⟨h.len,fun b _ hl=>h.low b hl hl,h.liv⟩
theorem HM {lo size bytes add:Nat} {x v:Value} {new:List Value} {H':aE} (h:dO lo size bytes x add new H=some (v,H')):Ext lo H H':=by
 unfold dO at h
 split at h
 case isFalse=>cases h
 split at h
 ·split at h
  ·split at h
   ·cases h;exact Ext.refl _ _
   ·split at h
    ·cases h;exact nY _ _ _
    ·cases h
  ·cases h
 ·split at h
  ·split at h
   ·split at h
    ·split at h
     ·cases h;exact Ext.refl _ _
     ·cases hw:aE.write H lo _ _ new with
      | none=>rw[hw] at h;cases h
      | some H1=>rw[hw] at h;cases h;exact C7 hw
    ·split at h
     ·split at h
      ·split at h
       ·rename_i DR
        cases h
        exact VA DR
       ·cases h
      ·cases h;exact nY _ _ _
     ·cases h
   ·cases h
  ·cases h
 ·cases h
theorem XI {lo size:Nat} {x v:Value} {l h' mx:Option Value} {H':aE} (h:BN size x l h' mx H=some (v,H')):Ext lo H H':=by
 unfold BN at h
 repeat' (split at h)
 all_goals first
  | (cases h;done)
  | (cases h;exact Ext.refl _ _)
  | (cases h;exact nY _ _ _)
theorem TR {lo:Nat} {po:mB} {ρ:Env} {v:Value} {H':aE} (h:pop lo po ρ H=some (.val v H')):Ext lo H H':=by
 by_cases gV:sL po=true
 ·rw[xF gV] at h
  obtain⟨_,rfl⟩:=Cd h
  exact Ext.refl _ _
 cases po<;>first | exact absurd rfl gV | skip
 case load agg size p =>
  simp only[pop] at h
  cases hl:mT agg size (ev ρ p) H with
  | none=>rw[hl] at h;cases h
  | some u=>rw[hl] at h;cases h;exact Ext.refl _ _
 case sub size x l hh mx =>
  simp only[pop] at h
  cases hs:BN size (ev ρ x) (l.map (ev ρ)) (hh.map (ev ρ)) (mx.map (ev ρ)) H with
  | none=>rw[hs] at h;cases h
  |
   some q =>
   obtain⟨u,H1⟩:=q
   rw[hs] at h;cases h;exact XI hs
 case b2s x =>
  simp only[pop] at h
  split at h
  ·cases h;exact Ext.refl _ _
  ·split at h
   ·rename_i cs _
    cases hb:sS cs with
    | none=>rw[hb] at h;cases h
    | some bs=>rw[hb] at h;cases h;exact Ext.refl _ _
   ·cases h
  ·cases h
 case new z=>cases h;exact nY _ _ _
 case box x =>
  simp only[pop] at h
  split at h
  ·cases h;exact nY _ _ _
  ·cases h
 case make z b l c =>
  simp only[pop] at h
  split at h
  ·split at h
   ·cases h;exact nY _ _ _
   ·cases h
  ·cases h
 case lit z n parts =>
  simp only[pop] at h
  split at h
  ·split at h
   ·cases h;exact nY _ _ _
   ·cases h
  ·cases h
 case call f args=>cases h
 case callv f args =>
  simp only[pop] at h
  split at h<;>cases h
 case store size p x =>
  simp only[pop] at h
  split at h
  ·rename_i b o _
   split at h
   ·cases hw:H.write lo b o (aJ (ev ρ x)) with
    | none=>rw[hw] at h;cases h
    | some H1=>rw[hw] at h;cases h;exact C7 hw
   ·cases h
  ·cases h
 case app size bytes x y =>
  simp only[pop] at h
  split at h
  ·rename_i n _
   split at h
   ·rename_i new _
    cases ha:dO lo size bytes (ev ρ x) n new H with
    | none=>rw[ha] at h;cases h
    |
     some q =>
     obtain⟨u,H1⟩:=q
     rw[ha] at h;cases h;exact HM ha
   ·cases h
  ·cases h
 case appz z bytes x n =>
  simp only[pop] at h
  split at h
  ·rename_i k _
   split at h
   ·cases ha:dO lo z.length bytes (ev ρ x) k.toNat (cE k.toNat z) H with
    | none=>rw[ha] at h;cases h
    |
     some q =>
     obtain⟨u,H1⟩:=q
     rw[ha] at h;cases h;exact HM ha
   ·cases h
  ·cases h
 case copy size x y =>
  simp only[pop] at h
  split at h
  ·cases h;exact Ext.refl _ _
  ·rename_i b o d _ s _ _
   split at h
   ·rename_i new _
    cases hw:H.write lo b o new with
    | none=>rw[hw] at h;cases h
    | some H1=>rw[hw] at h;cases h;exact C7 hw
   ·cases h
  ·cases h
 case clear z x =>
  simp only[pop] at h
  split at h
  ·cases h;exact Ext.refl _ _
  ·rename_i b o n _ _
   split at h
   ·cases h;exact Ext.refl _ _
   ·cases hw:H.write lo b o (cE n z) with
    | none=>rw[hw] at h;cases h
    | some H1=>rw[hw] at h;cases h;exact C7 hw
  ·cases h
def qF (call:fC):Prop:=∀f args lo H v H',call f args lo H=some (v,H')→Ext lo H H'
theorem Kz {call:fC} (hc:qF call) {lo:Nat} {i:PI} {ρ:Env} {v:Value} {H':aE} (h:xM call lo i ρ H=some (v,H')):Ext lo H H':=by
 unfold xM at h
 split at h
 ·cases h
 ·cases h;exact Ext.refl _ _
 ·split at h
  ·split at h
   ·rename_i hp
    cases h
    exact TR hp
   ·rename_i f args _
    have:=hc _ _ _ _ _ _ h
    split at this
    ·exact Vc this
    ·exact this
   ·cases h
  ·cases h
theorem vS {call:fC} {lo:Nat} {i:PI} {ρ aU:Env} {H':aE} (h:wK call lo i ρ H=some (aU,H')):∃v,xM call lo i ρ H=some (v,H')∧aU=put ρ i.dst v:=by
 unfold wK at h
 split at h
 ·rename_i v H1 hv
  cases h
  exact⟨v,hv,rfl⟩
 ·cases h
theorem Gx {call:fC} (hc:qF call) {lo:Nat} {i:PI} {ρ aU:Env} {H':aE} (h:wK call lo i ρ H=some (aU,H')):Ext lo H H':=by
 obtain⟨v,h1,_⟩:=vS h
 exact Kz hc h1
theorem Kx {call:fC} (hc:qF call) {lo:Nat}:∀(is:List PI) {ρ aU:Env} {H H':aE},fU call lo is ρ H=some (aU,H')→Ext lo H H'
 | [],ρ,aU,H,H',h=>by cases h;exact Ext.refl _ _
 |
  i::is,ρ,aU,H,H',h=>by
  rw[fU] at h
  split at h
  ·rename_i h1
   exact(Gx hc h1).trans (Kx hc is h)
  ·cases h
theorem G5 {lo:Nat} {body:Env→aE→Option (Ex×Env×aE)} (hb:∀ρ H x aU H',body ρ H=some (x,aU,H')→Ext lo H H'):∀(n:Nat) {ρ aU:Env} {H H':aE} {x:Ex},wV body n ρ H=some (x,aU,H')→Ext lo H H'
 | 0,_,_,_,_,_,h=>by cases h
 |
  n+1,ρ,aU,H,H',x,h=>by
  rw[wV] at h
  split at h
  ·rename_i h1
   exact(hb _ _ _ _ _ h1).trans (G5 hb n h)
  ·exact hb _ _ _ _ _ h
theorem iJ {call:fC} (hc:qF call) {lo n:Nat}:∀(c:aD) {ρ aU:Env} {H H':aE} {x:Ex},cS call lo n c ρ H=some (x,aU,H')→Ext lo H H'
 | .skip,_,_,_,_,_,h=>by cases h;exact Ext.refl _ _
 |
  .cX ops,ρ,aU,H,H',x,h=>by
  rw[cS] at h
  cases hp:fU call lo ops ρ H with
  | none=>rw[hp] at h;cases h
  |
   some q =>
   obtain⟨vI,H1⟩:=q
   rw[hp] at h;cases h
   exact Kx hc ops hp
 |
  .seq a b,ρ,aU,H,H',x,h=>by
  rw[cS] at h
  split at h
  ·rename_i h1
   exact(iJ hc a h1).trans (iJ hc b h)
  ·exact iJ hc a h
 |
  .cond c a b,ρ,aU,H,H',x,h=>by
  rw[cS] at h
  split at h
  ·split at h
   ·exact iJ hc a h
   ·exact iJ hc b h
  ·cases h
 |
  .block id a,ρ,aU,H,H',x,h=>by
  rw[cS] at h
  split at h
  ·rename_i h1
   split at h<;>(cases h;exact iJ hc a h1)
  ·exact iJ hc a h
 |
  .loop a,ρ,aU,H,H',x,h=>by
  rw[cS] at h
  exact G5 (fun ρ H x aU H' h=>iJ hc a h) n h
 | .exit id,_,_,_,_,_,h=>by cases h;exact Ext.refl _ _
 | .ret,_,_,_,_,_,h=>by cases h;exact Ext.refl _ _
theorem CT (E:zI) (T:YG):∀n,qF (kV E T n)
 | 0=>fun _ _ _ _ _ _ h=>by cases h
 |
  n+1=>fun f args lo H v H' h=>by
  rw[kV] at h
  split at h
  ·rename_i p _
   cases hp:p args H with
   | none=>rw[hp] at h;cases h
   | some u=>rw[hp] at h;cases h;exact Ext.refl _ _
  ·split at h
   ·cases h
   ·rename_i pf _
    split at h
    ·split at h
     ·rename_i vI H1 h1
      cases hr:pK pf.res vI H1 with
      | none=>rw[hr] at h;cases h
      | some u=>rw[hr] at h;cases h;exact iJ (CT E T n) _ h1
     ·rename_i vI H1 h1
      cases hr:pK pf.res vI H1 with
      | none=>rw[hr] at h;cases h
      | some u=>rw[hr] at h;cases h;exact iJ (CT E T n) _ h1
     ·cases h
    ·cases h
end
end Go.PM
namespace Go.PM
theorem Da {α β:Type} {f:α→Option β}:∀ {l:List α} {ys:List β},l.mapM f=some ys→ys.length=l.length∧∀i (h:i<l.length),f l[i]=ys[i]?
 |
  [],ys,h=>by
  simp at h
  subst h
  exact⟨rfl,fun i h=>absurd h (by simp)⟩
 |
  x::l,ys,h=>by
  simp only[List.mapM_cons,Option.pure_def,Option.bind_eq_bind] at h
  cases h1:f x with
  | none=>rw[h1] at h;cases h
  |
   some y =>
   rw[h1] at h
   cases h2:l.mapM f with
   | none=>rw[h2] at h;cases h
   |
    some zs =>
    rw[h2] at h
    cases h
    obtain⟨k1,k2⟩:=Da h2
    refine⟨by simp[k1],fun i hi => ?_⟩
    cases i with
    | zero=>simpa using h1
    | succ i=>simpa using k2 i (by simpa using hi)
theorem O3 {α β:Type} {f:α→Option β} {l:List α} {ys:List β} (h:l.mapM f=some ys) {i:Nat} {x:α} (hx:l[i]? = some x):∃y,ys[i]? = some y∧f x=some y:=by
 obtain⟨h1,h2⟩:=Da h
 obtain⟨aV,rfl⟩:=List.getElem?_eq_some_iff.1 hx
 have JA:i<ys.length:=by omega
 refine⟨ys[i],List.getElem?_eq_getElem JA,?_⟩
 rw[h2 i aV,List.getElem?_eq_getElem JA]
def Dq (E:zI) (ops:List Oper) (M:List Nat) (i j:Nat) (pi pj:mB) (l:List (Operand×Operand)):Prop :=
 match fA E pi,fA E pj with
 | .look,.write | .write,.look=>ahead M i j=true∨∃a b,DB pi=some a∧DB pj=some b∧CU ops i j a=true∧(a,b)∈l
 | .write,.write | .quiet,.write | .write,.quiet=>ahead M i j=true
 | _,_=>True
theorem Dq.mono {E:zI} {ops:List Oper} {M:List Nat} {i j:Nat} {pi pj:mB} {l l':List (Operand×Operand)} (h:Dq E ops M i j pi pj l) (hl:∀x∈l,x∈l'):Dq E ops M i j pi pj l':=by
 unfold Dq at h ⊢
 split at h
 all_goals first
  | exact h
  | exact h.imp id fun⟨a,b,h1,h2,h3,h4⟩=>⟨a,b,h1,h2,h3,hl _ h4⟩
theorem Ku {E:zI} {ops:List Oper} {ps:List mB} {M:List Nat} {j:Nat} {pj:mB} {l:List (Operand×Operand)} (h:conflicts E ops ps M j pj=some l) :
  ∀i,i<j→∀pi,ps[i]? = some pi→Dq E ops M i j pi pj l:=by
 have key:∀(is:List Nat) (l:List (Operand×Operand)),(is.foldr (fun i acc=>match acc,ps[i]? with
  |
   some l,some pi =>
   match fA E pi,fA E pj with
   |
    .look,.write | .write,.look =>
    if ahead M i j then some l
    else match DB pi,DB pj with
     | some a,some b=>if CU ops i j a then some ((a,b)::l) else none
     | _,_=>none
   | .write,.write | .quiet,.write | .write,.quiet=>if ahead M i j then some l else none
   | _,_=>some l
  | _,_=>none) (some []))=some l→∀i∈is,∀pi,ps[i]? = some pi→Dq E ops M i j pi pj l:=by
  intro is
  induction is with
  | nil=>intro l _ i hi;cases hi
  |
   cons i0 is ih =>
   intro l h i hi pi Vn
   rw[List.foldr_cons] at h
   revert h
   generalize arC:is.foldr _ (some [])=acc
   intro h
   cases acc with
   | none=>cases h
   |
    some l0 =>
    have ih':=ih l0 arC
    cases hp0:ps[i0]? with
    | none=>rw[hp0] at h;cases h
    |
     some p0 =>
     rw[hp0] at h
     simp only at h
     have step:(∀x∈l0,x∈l)∧Dq E ops M i0 j p0 pj l:=by
      unfold Dq
      split at h
      ·rename_i c1 c2
       try rw[c1,c2]
       split at h
       ·rename_i ha;cases h;exact⟨fun x hx=>hx,.inl ha⟩
       ·split at h
        ·rename_i a b ta tb
         split at h
         ·rename_i hu;cases h;exact⟨fun x hx=>List.mem_cons_of_mem _ hx,.inr ⟨a,b,ta,tb,hu,List.mem_cons_self⟩⟩
         ·cases h
        ·cases h
      ·rename_i c1 c2
       try rw[c1,c2]
       split at h
       ·rename_i ha;cases h;exact⟨fun x hx=>hx,.inl ha⟩
       ·split at h
        ·rename_i a b ta tb
         split at h
         ·rename_i hu;cases h;exact⟨fun x hx=>List.mem_cons_of_mem _ hx,.inr ⟨a,b,ta,tb,hu,List.mem_cons_self⟩⟩
         ·cases h
        ·cases h
      ·rename_i c1 c2
       try rw[c1,c2]
       split at h
       ·rename_i ha;cases h;exact⟨fun x hx=>hx,ha⟩
       ·cases h
      ·rename_i c1 c2
       try rw[c1,c2]
       split at h
       ·rename_i ha;cases h;exact⟨fun x hx=>hx,ha⟩
       ·cases h
      ·rename_i c1 c2
       try rw[c1,c2]
       split at h
       ·rename_i ha;cases h;exact⟨fun x hx=>hx,ha⟩
       ·cases h
      ·cases h
       refine⟨fun x hx=>hx,?_⟩
       first | trivial | (split<;>first | trivial | (simp_all;done)) | (simp_all;done)
     rcases List.mem_cons.1 hi with rfl | hi
     ·rw[hp0] at Vn
      cases Vn
      exact step.2
     ·exact(ih' i hi pi Vn).mono step.1
 exact fun i hi pi Vn=>key _ l h i (List.mem_range.2 hi) pi Vn
structure Yr (P:Program) (E:zI) (n:Nat) (ops:List Oper) (i:Nat) (o:Oper) (p:mB) (pi:PI):Prop where
 VF:oS P o.op=some p
 dst:pi.dst=o.dst
 op:pi.op=p
 guard:guardOf ops i o=some pi.g
 bound:∀d,o.dst=some d→d<n
structure N8 (E:zI) (ops:List Oper) (ps:List mB) (M:List Nat) (i:Nat) (o:Oper) (p:mB) (pi:PI):Prop where
 back:∀e∈o.after.toList,Region.binds .any e=true→e.on<i
 guard:∀j w,o.guard=some (j,w)→(M.getD i 0).testBit j=true
 Ma:∀t∈o.dst.toList++uY ops o,∀k ok,ops[k]? = some ok→ok.dst=some t→k=i∨ahead M i k=true
 mask:M.getD i 0=vG o M
 quiet:pi.quiet=(match fA E p with | .quiet=>true | _=>false)
 akO:∀k,k<i→∀pk,ps[k]? = some pk→Dq E ops M k i pk p pi.cf
theorem PX {P:Program} {E:zI} {n:Nat} {ops:List Oper} {ps:List mB} {M:List Nat} {draw:Bool} {i:Nat} {pi:PI} (h:Sp E ops ps M n draw i=some pi) {o:Oper} {p:mB} (ho:ops[i]? = some o) (hp:ps[i]? = some p)
  (Tp:oS P o.op=some p):Yr P E n ops i o p pi∧(draw=true→N8 E ops ps M i o p pi)∧(draw=false→pi.quiet=false∧pi.cf=[]):=by
 unfold Sp at h
 rw[ho,hp] at h
 simp only at h
 split at h
 case isFalse=>cases h
 rename_i hb
 have hbound:∀d,o.dst=some d→d<n:=by
  intro d hd
  rw[hd] at hb
  simpa[acV] using hb
 split at h
 ·cases h
 ·rename_i g hg
  cases draw with
  |
   false =>
   simp only[Bool.false_eq_true,if_false] at h
   cases h
   exact⟨⟨Tp,rfl,rfl,hg,hbound⟩,(fun h=>by cases h),fun _=>⟨rfl,rfl⟩⟩
  |
   true =>
   simp only[if_true] at h
   split at h
   case isFalse=>cases h
   rename_i hc
   simp only[Bool.and_eq_true,beq_iff_eq] at hc
   obtain⟨⟨⟨c1,c2⟩,c3⟩,c4⟩:=hc
   cases Oo:conflicts E ops ps M i p with
   | none=>rw[Oo] at h;cases h
   |
    some cf =>
    rw[Oo] at h
    cases h
    refine⟨⟨Tp,rfl,rfl,hg,hbound⟩,fun _=>⟨fun e he ZF => ?_,fun j w hj => ?_,fun t ht k ok hk hkd => ?_,c4,rfl,Ku Oo⟩,(fun h=>by cases h)⟩
    ·have:=List.all_eq_true.1 c1 e he
     simpa[ZF] using this
    ·rw[hj] at c2
     exact c2
    ·have h1:=List.all_eq_true.1 c3 t ht
     have hk':k<ops.length:=(List.getElem?_eq_some_iff.1 hk).1
     have h2:=List.all_eq_true.1 h1 k (List.mem_range.2 hk')
     rw[hk] at h2
     simp only[Bool.or_eq_true,bne_iff_ne,ne_eq,beq_iff_eq] at h2
     rcases h2 with(h2 | h2) | h2
     ·exact absurd hkd h2
     ·exact .inl h2
     ·exact .inr h2
structure adF (P:Program) (E:zI) (n:Nat) (ops:List Oper) (draw:Bool) (rV:List PI) (ps:List mB) (M:List Nat):Prop where
 Dj:ps.length=ops.length
 aqO:rV.length=ops.length
 each:∀i o,ops[i]? = some o→∃p pi,ps[i]? = some p∧rV[i]? = some pi∧Yr P E n ops i o p pi∧(draw=true→N8 E ops ps M i o p pi)∧(draw=false→pi.quiet=false∧pi.cf=[])
theorem Iz {P:Program} {E:zI} {n:Nat} {ops:Array Oper} {draw:Bool} {rV:List PI} (h:vO P E n ops draw=some rV):∃ps M,adF P E n ops.toList draw rV ps M:=by
 unfold vO at h
 split at h
 ·rename_i ps hps
  simp only at h
  generalize (if draw=true then M9 ops.toList [] else [])=M at h
  obtain⟨h1,h2⟩:=Da hps
  obtain⟨h3,h4⟩:=Da h
  refine⟨ps,M,h1,by simpa using h3,fun i o ho => ?_⟩
  have aV:=(List.getElem?_eq_some_iff.1 ho).1
  obtain⟨p,hp,Tp⟩:=O3 hps ho
  have hr:(List.range ops.size)[i]? = some i:=by rw[List.getElem?_range];simpa using aV
  obtain⟨pi,Vn,hpp⟩:=O3 h hr
  exact⟨p,pi,hp,Vn,PX hpp ho hp Tp⟩
 ·cases h
theorem K6 {o:Oper} {M:List Nat} {i:Nat} (h:(vG o M).testBit i=true):∃e∈o.after.toList,Region.binds .any e=true∧(e.on=i∨(M.getD e.on 0).testBit i=true):=by
 unfold vG at h
 revert h
 generalize o.after.toList=es
 induction es with
 | nil=>intro h;simp at h
 |
  cons e es ih =>
  intro h
  rw[List.foldr_cons] at h
  split at h
  ·rename_i hb
   rw[Nat.testBit_or,Nat.testBit_or,Bool.or_eq_true,Bool.or_eq_true] at h
   rcases h with(h | h) | h
   ·obtain⟨e',h1,h2⟩:=ih h
    exact⟨e',List.mem_cons_of_mem _ h1,h2⟩
   ·refine⟨e,List.mem_cons_self,hb,.inl ?_⟩
    rw[Nat.testBit_two_pow] at h
    simpa using h
   ·exact⟨e,List.mem_cons_self,hb,.inr h⟩
  ·obtain⟨e',h1,h2⟩:=ih h
   exact⟨e',List.mem_cons_of_mem _ h1,h2⟩
theorem RW {ops:List Oper} {M:List Nat} {S:Nat→Prop} (hb:∀i o,ops[i]? = some o→∀e∈o.after.toList,Region.binds .any e=true→e.on<i) (hm:∀i o,ops[i]? = some o→M.getD i 0=vG o M)
  (hS:∀i o,ops[i]? = some o→S i→∀e∈o.after.toList,Region.binds .any e=true→S e.on):∀j o,ops[j]? = some o→(∀e∈o.after.toList,Region.binds .any e=true→S e.on)→∀i,(M.getD j 0).testBit i=true→S i:=by
 intro j
 induction j using Nat.strongRecOn with
 |
  _ j ih =>
  intro o ho hj i hi
  rw[hm j o ho] at hi
  obtain⟨e,he,ZF,h1⟩:=K6 hi
  rcases h1 with rfl | h1
  ·exact hj e he ZF
  ·have aV:=hb j o ho e he ZF
   have hjl:=(List.getElem?_eq_some_iff.1 ho).1
   have hel:e.on<ops.length:=by omega
   exact ih e.on aV ops[e.on] (List.getElem?_eq_getElem hel) (hS e.on _ (List.getElem?_eq_getElem hel) (hj e he ZF)) i h1
end Go.PM
namespace Go.PM
def vH (P:Program) (L0:Nat) (call:fC):Prop :=
 ∀f args lo H v H',call f args lo H=some (v,H')→∀m w fR,Rel m L0 H w→L0≤lo→L0≤H.length→RL m args fR→(∀b,H.length≤b→b<H'.length→m b=none) →
  Jo P f∧Calls P f fR.toArray w fun e w'=>∃m' rv,e = .returned rv∧RV m' v rv∧Rel m' L0 H' w'∧Trans lo m H w m' H' w'
section
variable {P:Program} {m:cD} {L0:Nat} {H:aE} {w:World}
theorem sF {call:fC} {lo:Nat} {i:PI} {ρ:Env} {v:Value} {H':aE} (h:xM call lo i ρ H=some (v,H')) :
  (yN i.g ρ=some false∧v=undef∧H'=H) ∨
  (yN i.g ρ=some true∧i.cf.all (Aw ρ)=true∧(pop lo i.op ρ H=some (.val v H') ∨
   ∃f args,pop lo i.op ρ H=some (.call f args)∧call f args (if i.quiet then H.length else lo) H=some (v,H'))):=by
 unfold xM at h
 split at h
 ·cases h
 ·rename_i hw;cases h;exact .inl ⟨hw,rfl,rfl⟩
 ·rename_i hw
  split at h
  ·rename_i Oo
   refine .inr ⟨hw,Oo,?_⟩
   split at h
   ·rename_i hp;cases h;exact .inl hp
   ·rename_i f args hp;exact .inr ⟨f,args,hp,h⟩
   ·cases h
  ·cases h
theorem UA {t:Array Value} {d:Nat} {b:Bool} (h:t.getD d undef = .bool b):t[d]? = some (.bool b):=by
 rcases Nat.lt_or_ge d t.size with hd | hd
 ·simp[hd] at h ⊢
  exact h
 ·simp[Array.getElem?_eq_none hd,undef] at h
theorem Em {ops:Array Oper} {i:Nat} {o:Oper} {g:Option (Nat×Bool)} {ρ:Env} {a:Act} {t:Bool} (hg:guardOf ops.toList i o=some g) (hw:yN g ρ=some t)
  (hr:∀d∈uY ops.toList o,RV m (ρ d) (a.tmps.getD d undef)):Region.wanted o (yielded ops a.tmps)=t:=by
 unfold guardOf at hg
 unfold Region.wanted
 cases hgd:o.guard with
 |
  none =>
  rw[hgd] at hg
  cases hg
  cases hw
  rfl
 |
  some jw =>
  obtain⟨j,want⟩:=jw
  rw[hgd] at hg
  simp only at hg
  split at hg
  ·split at hg
   ·rename_i d hd
    cases hg
    have J2:d∈uY ops.toList o:=by
     unfold uY
     rw[hgd]
     simp only[List.mem_append]
     right
     rw[hd]
     simp
    have Ty:=hr d J2
    simp only[yN] at hw
    split at hw
    ·rename_i b hb
     cases hw
     rw[hb] at Ty
     generalize hx:a.tmps.getD d undef=x at Ty
     cases Ty
     have hy:yielded ops a.tmps j=some b:=by
      unfold yielded
      have UP:(ops[j]?).bind (·.dst)=some d:=by simpa using hd
      rw[UP,Option.bind_some,UA hx]
     simp only[hy]
     cases b<;>cases want<;>rfl
    ·rename_i vs hb
     cases hw
     rw[hb] at Ty
     generalize hx:a.tmps.getD d undef=x at Ty
     obtain⟨ws,rfl⟩:∃ws,x = .tuple ws:=by cases Ty;exact⟨_,rfl⟩
     have UP:(ops[j]?).bind (·.dst)=some d:=by simpa using hd
     have hy:yielded ops a.tmps j=none:=by
      unfold yielded
      rw[UP,Option.bind_some]
      rcases Nat.lt_or_ge d a.tmps.size with aV | aV
      ·have:a.tmps[d]? = some (.tuple ws):=by rw[←hx];simp[aV]
       rw[this]
      ·rw[Array.getElem?_eq_none aV]
     simp only[hy]
     rfl
    ·cases hw
   ·cases hg
  ·cases hg
theorem Zz {E:zI} {p:mB} {lo mU:Nat} {ρ:Env} (h:fA E p = .quiet):pop lo p ρ H=pop mU p ρ H:=by
 cases p<;>first | rfl | (simp[fA] at h;done)
theorem DC {ops:List Oper} {o:Oper} {t:Nat} (h:Operand.tmp t∈o.op.operands):t∈uY ops o:=by
 unfold uY tmpsOf
 rw[List.mem_append]
 left
 rw[List.mem_filterMap]
 exact⟨.tmp t,by simpa using h,rfl⟩
theorem J7 {op:Op} {p:mB} (h:oS P op=some p):∀x∈op.operands,Np x=true:=by
 intro x hx
 unfold oS at h
 split at h
 ·rename_i kB
  obtain⟨i,hi,rfl⟩:=Array.getElem_of_mem hx
  exact Array.all_eq_true.1 kB i hi
 ·cases h
theorem Oe {E:zI} {n lo k:Nat} {ops:Array Oper} {o:Oper} {p:mB} {pi:PI} {call:fC} {ρ:Env} {v:Value} {H':aE} {a:Act} {K:Act→World→Prop} {Q:Exit→Act→World→Prop} (ho:ops[k]? = some o) (CV:Yr P E n ops.toList k o p pi)
  (hq:pi.quiet=true→fA E p = .quiet) (hv:xM call lo pi ρ H=some (v,H')) (hr:∀t∈uY ops.toList o,RV m (ρ t) (a.tmps.getD t undef)) (hR:Rel m L0 H w) (eX:L0≤lo) (hlen:L0≤H.length)
  (hf:∀b,H.length≤b→b<H'.length→m b=none) (mF:vH P L0 call)
  (hK:∀m' rv w',RV m' v rv→Rel m' L0 H' w'→Trans (if pi.quiet then H.length else lo) m H w m' H' w'→K (a.put o.dst rv) w'):wpOp P ops Q k K a w:=by
 have hro:∀x∈o.op.operands,RV m (ev ρ x) (a.eval x):=fun x hx=>Rx (J7 CV.VF x hx) fun t ht=>hr t (DC (ht▸hx))
 unfold wpOp
 rw[ho]
 simp only
 rcases sF hv with⟨hw,rfl,rfl⟩ | ⟨hw,_,hp | ⟨f,args,hp,hc⟩⟩
 ·rw[Em CV.guard hw hr]
  simp only[Bool.false_eq_true,if_false]
  exact hK m undef w (RV.undef m) hR (Trans.refl _ m _ w)
 ·rw[Em CV.guard hw hr]
  simp only[if_true]
  left
  rw[CV.op] at hp
  have hs:bY P (execOp a.eval o) L0 (if pi.quiet then H.length else lo) m H w v H':=by
   split
   ·rename_i hqq
    rw[Zz (mU:=H.length) (hq hqq)] at hp
    exact TF CV.VF hp hro hR hlen hf
   ·exact TF CV.VF hp hro hR eX hf
  obtain⟨rv,w',m',nZ,h1,h2,h3⟩:=hs
  unfold Oper.wp
  rcases nZ with nZ | ⟨nZ,rfl⟩
  ·rw[nZ]
   exact hK m' rv w' h1 h2 h3
  ·rw[nZ]
   exact hK m' undef w' h1 h2 h3
 ·rw[Em CV.guard hw hr]
  simp only[if_true]
  left
  rw[CV.op] at hp
  have amJ:L0≤(if pi.quiet then H.length else lo):=by split<;>assumption
  obtain⟨fR,Q1,alF⟩:=VH CV.VF hp hro
  have nZ:=alF (mF f args _ H v H' hc m w fR hR amJ hlen Q1 hf).1
  unfold Oper.wp
  rw[nZ w]
  show Calls P f fR.toArray w _
  refine(mF f args _ H v H' hc m w fR hR amJ hlen Q1 hf).2.mono ?_
  rintro e w' ⟨m',rv,rfl,h1,h2,h3⟩
  exact hK m' rv w' h1 h2 h3
end
end Go.PM
namespace Go.PM
theorem Fo {call:fC} {lo:Nat}:∀ {rV:List PI} {ρ aU:Env} {H H':aE},fU call lo rV ρ H=some (aU,H') →
  ∃st:Nat→Env×aE,st 0=(ρ,H)∧st rV.length=(aU,H')∧∀i pi,rV[i]? = some pi→wK call lo pi (st i).1 (st i).2=some (st (i+1))
 |
  [],ρ,aU,H,H',h=>by
  cases h
  exact⟨fun _=>(ρ,H),rfl,rfl,fun i pi hi=>by simp at hi⟩
 |
  x::rV,ρ,aU,H,H',h=>by
  rw[fU] at h
  split at h
  ·rename_i vI H1 h1
   obtain⟨st,h2,h3,h4⟩:=Fo h
   refine⟨fun i=>match i with | 0=>(ρ,H) | i+1=>st i,rfl,h3,fun i pi hi => ?_⟩
   cases i with
   |
    zero =>
    simp at hi
    subst hi
    show wK call lo x ρ H=some (st 0)
    rw[h1,h2]
   | succ i=>exact h4 i pi (by simpa using hi)
  ·cases h
theorem gS {H1 H2:aE} {b:Nat} (h:H2[b]? = H1[b]?):Live H2 b↔Live H1 b:=by
 unfold Live
 rw[h]
theorem Rel.restrict {m:cD} {L0:Nat} {H1 H2:aE} {w:World} (h:Rel m L0 H2 w) (hs:∀b,b<H1.length→H2[b]? = H1[b]?):Rel m L0 H1 w:=by
 refine⟨h.valid,fun b l cs e p hm hb=>h.row b l cs e p hm ?_,fun b1 b2 l1 l2 hb h1 h2 DX FU=>h.inj b1 b2 l1 l2 hb h1 h2 ((gS (hs b1 DX.lt)).2 DX) ((gS (hs b2 FU.lt)).2 FU),fun x hx=>⟨(h.Cy x hx).1,fun b l hb hm hl=>(h.Cy x hx).2 b l hb hm ((gS (hs b hl.lt)).2 hl)⟩⟩
 rw[hs b (List.getElem?_eq_some_iff.1 hb).1]
 exact hb
theorem Rel.grow {m:cD} {L0:Nat} {H1 H2:aE} {w:World} (h:Rel m L0 H1 w) (hs:∀b,b<H1.length→H2[b]? = H1[b]?) (hd:∀b,H1.length≤b→b<H2.length→m b=none):Rel m L0 H2 w:=by
 have lt:∀b l,m b=some l→b<H2.length→b<H1.length:=fun b l hm hb=>by
  rcases Nat.lt_or_ge b H1.length with h | h
  ·exact h
  ·rw[hd b h hb] at hm;cases hm
 refine⟨h.valid,fun b l cs e p hm hb=>h.row b l cs e p hm ?_,fun b1 b2 l1 l2 hb h1 h2 DX FU=>h.inj b1 b2 l1 l2 hb h1 h2 ((gS (hs b1 (lt b1 l1 h1 DX.lt))).1 DX) ((gS (hs b2 (lt b2 l2 h2 FU.lt))).1 FU),fun x hx=>⟨(h.Cy x hx).1,fun b l hb hm hl=>(h.Cy x hx).2 b l hb hm ((gS (hs b (lt b l hm hl.lt))).1 hl)⟩⟩
 rw[←hs b (lt b l hm (List.getElem?_eq_some_iff.1 hb).1)]
 exact hb
structure Text (P:Program) (E:zI) (n:Nat) (ops:Array Oper) (rV:List PI) (ps:List mB) (M:List Nat) (call:fC) (lo:Nat) (st:Nat→Env×aE):Prop where
 ok:adF P E n ops.toList true rV ps M
 ext:qF call
 step:∀i pi,rV[i]? = some pi→wK call lo pi (st i).1 (st i).2=some (st (i+1))
section
variable {P:Program} {E:zI} {n:Nat} {ops:Array Oper} {rV:List PI} {ps:List mB} {M:List Nat} {call:fC} {lo:Nat} {st:Nat→Env×aE}
theorem Text.at (T:Text P E n ops rV ps M call lo st) {i:Nat} (hi:i<ops.size):∃o p pi,ops[i]? = some o∧ps[i]? = some p∧rV[i]? = some pi∧Yr P E n ops.toList i o p pi∧N8 E ops.toList ps M i o p pi ∧
  ∃v,xM call lo pi (st i).1 (st i).2=some (v,(st (i+1)).2)∧(st (i+1)).1=put (st i).1 o.dst v:=by
 have ho:ops.toList[i]? = some ops[i]:=by simp[hi]
 obtain⟨p,pi,h1,h2,h3,h4,_⟩:=T.ok.each i _ ho
 obtain⟨v,h5,h6⟩:=vS (T.step i pi h2)
 exact⟨ops[i],p,pi,by simp[hi],h1,h2,h3,h4 rfl,v,h5,by rw[h6,h3.dst]⟩
theorem Text.ajT (T:Text P E n ops rV ps M call lo st) {i:Nat} (hi:i<ops.size):(st i).2.length≤(st (i+1)).2.length:=by
 obtain⟨o,p,pi,_,_,_,_,_,v,hv,_⟩:=T.at hi
 exact(Kz T.ext hv).len
theorem Text.len (T:Text P E n ops rV ps M call lo st) {i:Nat}:∀ {j:Nat},i≤j→j≤ops.size→(st i).2.length≤(st j).2.length:=by
 intro j Rk
 induction j with
 | zero =>
    intro _;have:i=0:=by omega
    subst this;exact Nat.le_refl _
 |
  succ j ih =>
  intro hj
  rcases Nat.lt_or_ge i (j+1) with h | h
  ·exact Nat.le_trans (ih (by omega) (by omega)) (T.ajT (by omega))
  ·have:i=j+1:=by omega
   subst this;exact Nat.le_refl _
theorem Text.ajC (T:Text P E n ops rV ps M call lo st) {i:Nat} {p:mB} (hi:i<ops.size) (hp:ps[i]? = some p) (hw:fA E p ≠ .write):∀b,b<(st i).2.length→(st (i+1)).2[b]? = (st i).2[b]? := by
 intro b hb
 obtain⟨o,p',pi,_,Cw,_,CV,V8,v,hv,_⟩:=T.at hi
 rw[hp] at Cw
 cases Cw
 rcases sF hv with⟨_,_,h⟩ | ⟨_,_,h | ⟨f,args,h1,h2⟩⟩
 ·rw[h]
 ·rw[CV.op] at h
  by_cases hq:fA E p = .quiet
  ·rw[Zz (mU:=(st i).2.length) hq] at h
   exact(TR h).low b hb hb
  ·
   have:(st (i+1)).2=(st i).2:=by
    cases p<;>first
     | (exact absurd rfl hw)
     | (exact absurd rfl hq)
     | (rw[xF rfl] at h;exact(Cd h).2)
     | skip
    case load agg size q =>
     simp only[pop] at h
     cases hl:mT agg size (ev (st i).1 q) (st i).2 with
     | none=>rw[hl] at h;cases h
     | some u=>rw[hl] at h;injection h with h;injection h with _ h;exact h.symm
    case b2s x =>
     simp only[pop] at h
     split at h
     ·injection h with h;injection h with _ h;exact h.symm
     ·split at h
      ·rename_i cs _
       cases hb:sS cs with
       | none=>rw[hb] at h;cases h
       | some bs=>rw[hb] at h;injection h with h;injection h with _ h;exact h.symm
      ·cases h
     ·cases h
    case sub size x l hh mx =>
     simp only[pop] at h
     cases mx with
     | some mx=>exact absurd rfl hq
     |
      none =>
      cases hs:BN size (ev (st i).1 x) (l.map (ev (st i).1)) (hh.map (ev (st i).1)) ((none:Option Operand).map (ev (st i).1)) (st i).2 with
      | none=>rw[hs] at h;cases h
      |
       some q =>
       obtain⟨u,H1⟩:=q
       rw[hs] at h
       injection h with h;injection h with _ h
       subst h
       unfold BN at hs
       simp only[Option.map_none,Option.isSome_none,Bool.false_eq_true,false_and,if_false] at hs
       repeat' (split at hs)
       all_goals first
        | (cases hs;done)
        | (injection hs with hs;injection hs with _ hs;exact hs.symm)
    case call f args=>cases h
   rw[this]
 ·rw[CV.op] at h1
  have hq:pi.quiet=true:=by
   rw[V8.quiet]
   rcases rK h1 with⟨g,as,rfl⟩ | ⟨g,as,rfl⟩
   ·simp only[fA] at hw ⊢
    split at hw
    ·exact absurd rfl hw
    ·rename_i h;rw[if_neg h]
   ·exact absurd rfl hw
  rw[hq] at h2
  exact(T.ext _ _ _ _ _ _ h2).low b hb hb
end
end Go.PM
namespace Go.PM
theorem C3 {H H':aE} {lo b o:Nat} {new:List Value} (h:H.write lo b o new=some H') {b':Nat} (hb:b'≠b):H'[b']? = H[b']? := by
 obtain⟨cs,e,p,h1,h2,h3,h4,rfl⟩:=A6 h
 exact List.getElem?_set_ne (Ne.symm hb)
theorem HC {H H':aE} {lo size bytes add:Nat} {x v:Value} {new:List Value} (h:dO lo size bytes x add new H=some (v,H')) {b':Nat} (hb:gX x≠some b') (aV:b'<H.length):H'[b']? = H[b']? := by
 unfold dO at h
 split at h
 case isFalse=>cases h
 split at h
 ·split at h
  ·split at h
   ·cases h;rfl
   ·split at h
    ·cases h;exact List.getElem?_append_left aV
    ·cases h
  ·cases h
 ·rename_i b o n c
  have eW:b'≠b:=fun e=>hb (by rw[e];rfl)
  split at h
  ·split at h
   ·split at h
    ·split at h
     ·cases h;rfl
     ·cases hw:aE.write H lo b (o+n*size) new with
      | none=>rw[hw] at h;cases h
      | some H1=>rw[hw] at h;cases h;exact C3 hw eW
    ·split at h
     ·split at h
      ·split at h
       ·cases h
        rw[List.getElem?_append_left (by simpa using aV)]
        exact List.getElem?_set_ne (Ne.symm eW)
       ·cases h
      ·cases h;exact List.getElem?_append_left aV
     ·cases h
   ·cases h
  ·cases h
 ·cases h
theorem aaN {E:zI} {lo:Nat} {p:mB} {ρ:Env} {H H':aE} {v:Value} {x:Operand} (h:pop lo p ρ H=some (.val v H')) (hw:fA E p = .write) (ht:DB p=some x) {b':Nat} (hb:gX (ev ρ x)≠some b') (aV:b'<H.length):H'[b']? = H[b']? := by
 cases p<;>first | (cases ht;done) | (cases hw;done) | skip
 case sub size y l hh mx=>cases mx<;>cases hw
 case store size q y =>
  cases ht
  simp only[pop] at h
  split at h
  ·rename_i b o he
   rw[he] at hb
   have eW:b'≠b:=fun e=>hb (by rw[e];rfl)
   split at h
   ·cases hw:H.write lo b o (aJ (ev ρ y)) with
    | none=>rw[hw] at h;cases h
    | some H1=>rw[hw] at h;cases h;exact C3 hw eW
   ·cases h
  ·cases h
 case app size bytes y z =>
  cases ht
  simp only[pop] at h
  split at h
  ·rename_i n _
   split at h
   ·rename_i new _
    cases ha:dO lo size bytes (ev ρ x) n new H with
    | none=>rw[ha] at h;cases h
    |
     some q =>
     obtain⟨u,H1⟩:=q
     rw[ha] at h;cases h;exact HC ha hb aV
   ·cases h
  ·cases h
 case appz z bytes y n =>
  cases ht
  simp only[pop] at h
  split at h
  ·rename_i k _
   split at h
   ·cases ha:dO lo z.length bytes (ev ρ x) k.toNat (cE k.toNat z) H with
    | none=>rw[ha] at h;cases h
    |
     some q =>
     obtain⟨u,H1⟩:=q
     rw[ha] at h;cases h;exact HC ha hb aV
   ·cases h
  ·cases h
 case copy size y z =>
  cases ht
  simp only[pop] at h
  split at h
  ·cases h;rfl
  ·rename_i b o d _ s he _
   rw[he] at hb
   have eW:b'≠b:=fun e=>hb (by rw[e];rfl)
   split at h
   ·rename_i new _
    cases hw:H.write lo b o new with
    | none=>rw[hw] at h;cases h
    | some H1=>rw[hw] at h;cases h;exact C3 hw eW
   ·cases h
  ·cases h
 case clear z y =>
  cases ht
  simp only[pop] at h
  split at h
  ·cases h;rfl
  ·rename_i b o n _ he
   rw[he] at hb
   have eW:b'≠b:=fun e=>hb (by rw[e];rfl)
   split at h
   ·cases h;rfl
   ·cases hw:H.write lo b o (cE n z) with
    | none=>rw[hw] at h;cases h
    | some H1=>rw[hw] at h;cases h;exact C3 hw eW
  ·cases h
theorem M6 {H:aE} {b o n:Nat} {cs:List Value} (h:H.read b o n=some cs):b<H.length:=by
 unfold aE.read at h
 split at h
 ·rename_i hb;exact(List.getElem?_eq_some_iff.1 hb).1
 ·cases h
theorem D4 {H H2:aE} {b o n:Nat} (h:H2[b]? = H[b]?):H2.read b o n=H.read b o n:=by
 unfold aE.read
 rw[h]
theorem SA {agg:Bool} {size:Nat} {x v:Value} {H H2:aE} (h:mT agg size x H=some v) (hb:∀b,gX x=some b→b<H.length→H2[b]? = H[b]?):mT agg size x H2=some v:=by
 unfold mT at h ⊢
 split at h
 ·rename_i b o
  have aV:b<H.length:=by
   split at h
   ·cases hr:H.read b o size with
    | none=>rw[hr] at h;cases h
    | some cs=>exact M6 hr
   ·cases hr:H.read b o 1 with
    | none=>rw[hr] at h;cases h
    | some cs=>exact M6 hr
  have e:=hb b rfl aV
  simp only[D4 e]
  exact h
 ·cases h
theorem QW {E:zI} {lo:Nat} {p:mB} {ρ:Env} {H H' H2:aE} {v:Value} (h:pop lo p ρ H=some (.val v H')) (hc:fA E p = .look) (hb:∀x,DB p=some x→∀b,gX (ev ρ x)=some b→b<H.length→H2[b]? = H[b]?) :
  H'=H∧pop lo p ρ H2=some (.val v H2):=by
 cases p<;>first | (cases hc;done) | skip
 case call f args=>simp only[fA] at hc;split at hc<;>cases hc
 case load agg size q =>
  simp only[pop] at h ⊢
  cases hl:mT agg size (ev ρ q) H with
  | none=>rw[hl] at h;cases h
  |
   some u =>
   rw[hl] at h
   cases h
   refine⟨rfl,?_⟩
   rw[SA hl (hb q rfl)]
   rfl
 case b2s x =>
  simp only[pop] at h ⊢
  split at h
  ·cases h;exact⟨rfl,rfl⟩
  ·rename_i b o n _ he
   split at h
   ·rename_i cs hr
    cases hbs:sS cs with
    | none=>rw[hbs] at h;cases h
    |
     some bs =>
     rw[hbs] at h
     cases h
     refine⟨rfl,?_⟩
     have e:=hb x rfl b (by rw[he];rfl) (M6 hr)
     rw[D4 e,hr]
     simp only[hbs]
     rfl
   ·cases h
  ·cases h
 case sub size x l hh mx =>
  cases mx with
  | some mx=>cases hc
  |
   none =>
   simp only[pop] at h ⊢
   cases hs:BN size (ev ρ x) (l.map (ev ρ)) (hh.map (ev ρ)) ((none:Option Operand).map (ev ρ)) H with
   | none=>rw[hs] at h;cases h
   |
    some q =>
    obtain⟨u,H1⟩:=q
    rw[hs] at h
    cases h
    have xH:=hb x rfl
    generalize ev ρ x=xv at hs xH
    have key:H1=H∧BN size xv (l.map (ev ρ)) (hh.map (ev ρ)) ((none:Option Operand).map (ev ρ)) H2=some (u,H2):=by
     unfold BN at hs ⊢
     simp only[Option.map_none,Option.isSome_none,Bool.false_eq_true,false_and,if_false] at hs ⊢
     split at hs
     ·repeat' (split at hs)
      all_goals first | (cases hs;done) | skip
      cases hs
      simp_all
     ·rename_i b o n c
      split at hs
      ·rename_i cs e p qK
       have e1:=xH b rfl (List.getElem?_eq_some_iff.1 qK).1
       rw[e1,qK]
       simp only
       repeat' (split at hs)
       all_goals first | (cases hs;done) | skip
       cases hs
       simp_all
      ·cases hs
     ·cases hs
    rw[key.2]
    exact⟨key.1,rfl⟩
section
variable {P:Program} {E:zI} {n:Nat} {ops:Array Oper} {rV:List PI} {ps:List mB} {M:List Nat} {call:fC} {lo:Nat} {st:Nat→Env×aE}
theorem Text.YO (T:Text P E n ops rV ps M call lo st) {i:Nat}:∀ {j:Nat},i≤j→j≤ops.size→Ext lo (st i).2 (st j).2:=by
 intro j Rk
 induction j with
 | zero =>
    intro _;have:i=0:=by omega
    subst this;exact Ext.refl _ _
 |
  succ j ih =>
  intro hj
  rcases Nat.lt_or_ge i (j+1) with h | h
  ·obtain⟨o,p,pi,_,_,_,_,_,v,hv,_⟩:=T.at (i:=j) (by omega)
   exact(ih (by omega) (by omega)).trans (Kz T.ext hv)
  ·have:i=j+1:=by omega
   subst this;exact Ext.refl _ _
theorem Text.Zy (T:Text P E n ops rV ps M call lo st) {i:Nat}:∀ {j:Nat},i≤j→j≤ops.size→∀b,b<(st i).2.length →
  (∀k,i≤k→k<j→∀p pi,ps[k]? = some p→rV[k]? = some pi→fA E p = .write→yN pi.g (st k).1=some true→∃x,DB p=some x∧gX (ev (st k).1 x)≠some b) →
  (st j).2[b]? = (st i).2[b]? := by
 intro j Rk
 induction j with
 | zero =>
      intro _ b _ _;have:i=0:=by omega
      subst this;rfl
 |
  succ j ih =>
  intro hj b hb hk
  rcases Nat.lt_or_ge i (j+1) with h | h
  ·have aV:b<(st j).2.length:=Nat.lt_of_lt_of_le hb (T.len (by omega) (by omega))
   have h1:(st (j+1)).2[b]? = (st j).2[b]? := by
    obtain⟨o,p,pi,_,hp,Vn,CV,_,v,hv,_⟩:=T.at (i:=j) (by omega)
    by_cases hw:fA E p = .write
    ·rcases sF hv with⟨_,_,h⟩ | ⟨hwt,_,h | ⟨f,args,h1,h2⟩⟩
     ·rw[h]
     ·rw[CV.op] at h
      obtain⟨x,hx,eW⟩:=hk j (by omega) (by omega) p pi hp Vn hw hwt
      exact aaN h hw hx eW aV
     ·rw[CV.op] at h1
      obtain⟨x,hx,eW⟩:=hk j (by omega) (by omega) p pi hp Vn hw hwt
      rcases rK h1 with⟨g,as,rfl⟩ | ⟨g,as,rfl⟩<;>cases hx
    ·exact T.ajC (by omega) hp hw b aV
   rw[h1]
   exact ih (by omega) (by omega) b hb fun k hk1 hk2=>hk k hk1 (by omega)
  ·have:i=j+1:=by omega
   subst this;rfl
theorem Text.same (T:Text P E n ops rV ps M call lo st) {i j:Nat} (Rk:i≤j) (hj:j≤ops.size) (hk:∀k,i≤k→k<j→∀p,ps[k]? = some p→fA E p ≠ .write):∀b,b<(st i).2.length→(st j).2[b]? = (st i).2[b]? :=
 fun b hb=>T.Zy Rk hj b hb fun k h1 h2 p _ hp _ hw _=>absurd hw (hk k h1 h2 p hp)
theorem Text.N1 (T:Text P E n ops rV ps M call lo st) {i t:Nat}:∀ {j:Nat},i≤j→j≤ops.size→(∀k o,i≤k→k<j→ops[k]? = some o→o.dst≠some t)→(st j).1 t=(st i).1 t:=by
 intro j Rk
 induction j with
 | zero =>
      intro _ _;have:i=0:=by omega
      subst this;rfl
 |
  succ j ih =>
  intro hj hk
  rcases Nat.lt_or_ge i (j+1) with h | h
  ·obtain⟨o,p,pi,ho,hp,Vn,CV,_,v,hv,he⟩:=T.at (i:=j) (by omega)
   rw[he]
   have eW:=hk j o (by omega) (by omega) ho
   have h1:put (st j).1 o.dst v t=(st j).1 t:=by
    cases hd:o.dst with
    | none=>rfl
    |
     some d =>
     rw[hd] at eW
     show (if t=d then v else _)=_
     rw[if_neg (fun e=>eW (by rw[e]))]
   rw[h1]
   exact ih (by omega) (by omega) fun k o hk1 hk2=>hk k o hk1 (by omega)
  ·have:i=j+1:=by omega
   subst this;rfl
end
end Go.PM
namespace Go.PM
theorem wF {M:List Nat} {i j:Nat} (h:i<j):ahead M i j=(M.getD j 0).testBit i:=by
 unfold ahead
 have e1:Nat.max i j=j:=Nat.max_eq_right (by omega)
 have e2:Nat.min i j=i:=Nat.min_eq_left (by omega)
 rw[e1,e2]
theorem Xv {M:List Nat} {i j:Nat} (h:j<i):ahead M i j=(M.getD i 0).testBit j:=by
 unfold ahead
 have e1:Nat.max i j=i:=Nat.max_eq_left (by omega)
 have e2:Nat.min i j=j:=Nat.min_eq_right (by omega)
 rw[e1,e2]
theorem Qe {a:Act} {d t:Nat} {v:Value} (hd:d<a.tmps.size):(a.put (some d) v).tmps.getD t undef=if t=d then v else a.tmps.getD t undef:=by
 show (a.tmps.setIfInBounds d v).getD t undef=_
 rcases Nat.lt_or_ge t a.tmps.size with h | h
 ·by_cases e:t=d
  ·subst e;simp[h]
  ·simp[h,e,Ne.symm e]
 ·have:t≠d:=by omega
  simp[h,this]
theorem EV (a:Act) (d:Option Nat) (v:Value):(a.put d v).tmps.size=a.tmps.size:=by
 cases d<;>simp[Act.put]
theorem FI (a:Act) (d:Option Nat) (v:Value):(a.put d v).defers=a.defers:=by
 cases d<;>rfl
section
variable {P:Program} {E:zI} {n:Nat} {ops:Array Oper} {rV:List PI} {ps:List mB} {M:List Nat} {call:fC} {lo L0:Nat} {st:Nat→Env×aE}
structure rH (E:zI) (n:Nat) (ops:Array Oper) (ps:List mB) (lo L0:Nat) (st:Nat→Env×aE) (m0:cD) (w0:World) (ds:List Deferred) (S:Nat→Prop) (m:cD) (c:Nat) (a:Act) (w:World):Prop where
 Fu:a.tmps.size=n
 defs:a.defers=ds
 back:∀i o,ops.toList[i]? = some o→S i→∀e∈o.after.toList,Region.binds .any e=true→S e.on
 tm:∀t j,j≤ops.size→(∀i o,ops.toList[i]? = some o→o.dst=some t→(S i↔i<j))→RV m ((st j).1 t) (a.tmps.getD t undef)
 LC:c≤ops.size
 before:∀i p,i<c→ps[i]? = some p→fA E p = .write→S i
 atc:c<ops.size→¬S c∧∃p,ps[c]? = some p∧fA E p = .write
 rel:Rel m L0 (st c).2 w
 tr:Trans lo m0 (st 0).2 w0 m (st c).2 w
 WB:∀b l,m b=some l→m0 b≠none∨∃i,S i∧i<ops.size∧(st i).2.length≤b∧b<(st (i+1)).2.length
theorem Text.anc (T:Text P E n ops rV ps M call lo st) {S:Nat→Prop} (hS:∀i o,ops.toList[i]? = some o→S i→∀e∈o.after.toList,Region.binds .any e=true→S e.on) {k:Nat} {o:Oper} (ho:ops.toList[k]? = some o)
  (hk:∀e∈o.after.toList,Region.binds .any e=true→S e.on) {i:Nat} (hi:(M.getD k 0).testBit i=true):S i :=
 RW (fun i o hio=>by
   obtain⟨p,pi,_,_,_,hd,_⟩:=T.ok.each i o hio
   exact(hd rfl).back) (fun i o hio=>by
   obtain⟨p,pi,_,_,_,hd,_⟩:=T.ok.each i o hio
   exact(hd rfl).mask) hS k o ho hk i hi
theorem Text.TT (T:Text P E n ops rV ps M call lo st) {i:Nat} {p:mB} (hi:i<ops.size) (hp:ps[i]? = some p) (h:fA E p = .pure∨fA E p = .look):(st (i+1)).2=(st i).2:=by
 obtain⟨o,p',pi,_,Cw,_,CV,V8,v,hv,_⟩:=T.at hi
 rw[hp] at Cw
 cases Cw
 rcases sF hv with⟨_,_,h'⟩ | ⟨_,_,h' | ⟨f,args,h1,h2⟩⟩
 ·exact h'
 ·rw[CV.op] at h'
  rcases h with h | h
  ·have:sL p=true:=by
    cases p<;>first | rfl | (cases h;done) | skip
    case sub s x l hh mx=>cases mx<;>cases h
    case call f as=>simp only[fA] at h;split at h<;>cases h
   rw[xF this] at h'
   exact(Cd h').2
  ·exact(QW h' h (fun _ _ _ _ _=>rfl)).1
 ·exfalso
  rw[CV.op] at h1
  rcases rK h1 with⟨g,as,rfl⟩ | ⟨g,as,rfl⟩
  ·simp only[fA] at h
   split at h<;>rcases h with h | h<;>cases h
  ·rcases h with h | h<;>cases h
theorem Uy {op:Op} {p:mB} {x:Operand} (h:oS P op=some p) (ht:DB p=some x):x∈op.operands:=by
 unfold oS at h
 split at h
 case isFalse=>cases h
 cases op with
 |
  load t q =>
  dsimp only at h
  cases hi:kT P t with
  | none=>rw[hi] at h;cases h
  | some u=>rw[hi] at h;cases h;cases ht;simp[Op.operands]
 |
  store t q v =>
  dsimp only at h
  cases hi:P.info? t with
  | none=>rw[hi] at h;cases h
  | some u=>rw[hi] at h;cases h;cases ht;simp[Op.operands]
 |
  slice t y l hh mx =>
  dsimp only at h
  split at h
  ·split at h
   ·cases h;cases ht
   ·cases h
  ·rename_i e _
   cases hi:kT P e with
   | none=>rw[hi] at h;cases h
   | some u=>rw[hi] at h;cases h;cases ht;simp[Op.operands]
  ·cases h
 |
  convert s d y =>
  dsimp only at h
  repeat' (split at h)
  all_goals first
   | (cases h;done)
   | (cases h;cases ht;done)
   | (cases h;cases ht;simp[Op.operands])
 |
  call c =>
  obtain⟨callee,args,ts⟩:=c
  cases callee with
  |
   builtin b =>
   simp only[nM] at h
   repeat' (split at h)
   all_goals first
    | (cases h;done)
    | (cases h;cases ht;done)
    | skip
   all_goals
    cases h
    cases ht
    have hm:x∈args.toList:=by simp_all
    simpa[Op.operands,Call.operands] using hm
  |
   value f =>
   cases f with
   | tmp g'=>cases h;cases ht
   | func g'=>cases h;cases ht
   | _=>cases h
  | invoke r s=>cases h
 |
  _ =>
  exfalso
  dsimp only at h
  try unfold A1 at h
  repeat' (split at h)
  all_goals first
   | contradiction
   | (cases h;done)
   | (cases h;cases ht;done)
   | exact map_none h (by intro y h;cases h;cases ht)
end
end Go.PM
namespace Go.PM
theorem Ed (p:Nat→Prop):∀(d c N:Nat),N-c=d→c≤N→∃c',c≤c'∧c'≤N∧(∀i,c≤i→i<c'→¬p i)∧(c'<N→p c')
 | 0,c,N,hd,hc=>⟨c,Nat.le_refl _,hc,fun i h1 h2=>by omega,fun h=>by omega⟩
 |
  d+1,c,N,hd,hc=>by
  by_cases hp:p c
  ·exact⟨c,Nat.le_refl _,hc,fun i h1 h2=>by omega,fun _=>hp⟩
  ·obtain⟨c',h1,h2,h3,h4⟩:=Ed p d (c+1) N (by omega) (by omega)
   refine⟨c',by omega,h2,fun i hi1 IM => ?_,h4⟩
   rcases Nat.lt_or_ge c i with h | h
   ·exact h3 i h IM
   ·have:i=c:=by omega
    subst this;exact hp
theorem Zi {m:cD} {v r:Value} {b:Nat} (h:RV m v r) (hb:gX v=some b):∃l,m b=some l:=by
 cases h<;>first | (cases hb;done) | (cases hb;exact⟨_,by assumption⟩)
section
variable {P:Program} {E:zI} {n:Nat} {ops:Array Oper} {rV:List PI} {ps:List mB} {M:List Nat} {call:fC} {lo L0:Nat} {st:Nat→Env×aE}
 {m0:cD} {w0:World} {ds:List Deferred} {S:Nat→Prop} {m:cD} {c:Nat} {a:Act} {w:World} {k:Nat} {o:Oper} {p:mB} {pi:PI}
structure At (P:Program) (E:zI) (n:Nat) (ops:Array Oper) (rV:List PI) (ps:List mB) (M:List Nat) (S:Nat→Prop) (k:Nat) (o:Oper) (p:mB) (pi:PI):Prop where
 lt:k<ops.size
 eo:ops[k]? = some o
 ep:ps[k]? = some p
 epi:rV[k]? = some pi
 ok:Yr P E n ops.toList k o p pi
 dr:N8 E ops.toList ps M k o p pi
 apC:¬S k
 anc:∀i,(M.getD k 0).testBit i=true→S i
 desc:∀i,i<ops.size→S i→(M.getD i 0).testBit k=true→False
theorem At.ah (A:At P E n ops rV ps M S k o p pi) {i:Nat} (hi:i<ops.size) (h:i=k∨ahead M k i=true):S i↔i<k:=by
 rcases Nat.lt_trichotomy i k with h1 | h1 | h1
 ·refine⟨fun _=>h1,fun _ => ?_⟩
  rcases h with h | h
  ·omega
  ·rw[Xv h1] at h;exact A.anc i h
 ·subst h1
  exact⟨fun h=>absurd h A.apC,fun h=>by omega⟩
 ·refine⟨fun hs => ?_,fun h=>by omega⟩
  rcases h with h | h
  ·omega
  ·rw[wF h1] at h;exact absurd h (fun h=>A.desc i hi hs h)
theorem Ew {i:Nat} {oi:Oper} (h:ops.toList[i]? = some oi):i<ops.size:=by
 have:=(List.getElem?_eq_some_iff.1 h).1
 simpa using this
theorem At.reads (A:At P E n ops rV ps M S k o p pi) (I:rH E n ops ps lo L0 st m0 w0 ds S m c a w):∀t∈uY ops.toList o,RV m ((st k).1 t) (a.tmps.getD t undef):=by
 intro t ht
 refine I.tm t k (Nat.le_of_lt A.lt) fun i oi hi hd => ?_
 exact A.ah (Ew hi) (A.dr.Ma t (List.mem_append_right _ ht) i oi hi hd)
theorem At.operand (A:At P E n ops rV ps M S k o p pi) (I:rH E n ops ps lo L0 st m0 w0 ds S m c a w) {x:Operand} (hx:x∈o.op.operands):RV m (ev (st k).1 x) (a.eval x) :=
 Rx (J7 A.ok.VF x hx) fun t ht=>A.reads I t (DC (ht▸hx))
theorem At.pair (T:Text P E n ops rV ps M call lo st) {i j:Nat} {p q:mB} (Rk:i<j) (hj:j<ops.size) (hp:ps[i]? = some p) (hq:ps[j]? = some q):∃qi,rV[j]? = some qi∧Dq E ops.toList M i j p q qi.cf:=by
 obtain⟨o,q',qi,_,K8,Xq,_,hd,_⟩:=T.at hj
 rw[hq] at K8
 cases K8
 exact⟨qi,Xq,hd.akO i Rk p hp⟩
theorem rH.late (T:Text P E n ops rV ps M call lo st) (I:rH E n ops ps lo L0 st m0 w0 ds S m c a w) {i:Nat} {q:mB} (hi:c<i) (hn:i<ops.size) (hS:S i) (hq:ps[i]? = some q):fA E q = .pure∨fA E q = .look:=by
 obtain⟨hcS,pc,hpc,Of⟩:=I.atc (by omega)
 obtain⟨qi,_,iD⟩:=At.pair T hi hn hpc hq
 unfold Dq at iD
 rw[Of] at iD
 obtain⟨oi,_,_,hoi,_⟩:=T.at hn
 have OG:ops.toList[i]? = some oi:=by simpa using hoi
 have fin:ahead M c i=true→False:=fun h=>by
  rw[wF hi] at h
  exact hcS (T.anc I.back OG (I.back i oi OG hS) h)
 cases mC:fA E q with
 | pure=>exact .inl rfl
 | look=>exact .inr rfl
 | quiet=>rw[mC] at iD;exact absurd iD fin
 | write=>rw[mC] at iD;exact absurd iD fin
theorem rH.Ma (T:Text P E n ops rV ps M call lo st) (I:rH E n ops ps lo L0 st m0 w0 ds S m c a w) (A:At P E n ops rV ps M S k o p pi) {m':cD} {v rv:Value} (hm:∀b l,m b=some l→m' b=some l) (hv:RV m' v rv)
  (he:(st (k+1)).1=put (st k).1 o.dst v):∀t j,j≤ops.size→(∀i o,ops.toList[i]? = some o→o.dst=some t→((i=k∨S i)↔i<j))→RV m' ((st j).1 t) ((a.put o.dst rv).tmps.getD t undef):=by
 intro t j hj hw
 have CV:ops.toList[k]? = some o:=by simpa using A.eo
 cases hd:o.dst with
 |
  none =>
  show RV m' _ (a.tmps.getD t undef)
  refine(I.tm t j hj fun i oi hi Xd => ?_).mono hm
  have eW:i≠k:=fun e=>by subst e;rw[CV] at hi;cases hi;rw[hd] at Xd;cases Xd
  rw[←hw i oi hi Xd]
  simp[eW]
 |
  some d =>
  rw[Qe (by rw[I.Fu];exact A.ok.bound d hd)]
  by_cases htd:t=d
  ·subst htd
   rw[if_pos rfl]
   have hkj:k<j:=(hw k o CV hd).1 (.inl rfl)
   have e1:(st j).1 t=(st (k+1)).1 t:=by
    refine T.N1 hkj hj fun i oi hi1 IM hoi Xd => ?_
    have OG:ops.toList[i]? = some oi:=by simpa using hoi
    have hS:=(hw i oi OG Xd).2 IM
    have hik:i≠k:=by omega
    have:=(A.ah (Ew OG) (A.dr.Ma t (List.mem_append_left _ (by rw[hd];simp)) i oi OG Xd)).1 (hS.resolve_left hik)
    omega
   rw[e1,he,hd]
   show RV m' (if t=t then v else _) rv
   rw[if_pos rfl]
   exact hv
  ·rw[if_neg htd]
   refine(I.tm t j hj fun i oi hi Xd => ?_).mono hm
   have eW:i≠k:=fun e=>by subst e;rw[CV] at hi;cases hi;rw[hd] at Xd;cases Xd;exact htd rfl
   rw[←hw i oi hi Xd]
   simp[eW]
theorem rH.Yl (I:rH E n ops ps lo L0 st m0 w0 ds S m c a w) (A:At P E n ops rV ps M S k o p pi) (hr:∀e∈o.after.toList,Region.binds .any e=true→S e.on) :
  ∀i oi,ops.toList[i]? = some oi→(i=k∨S i)→∀e∈oi.after.toList,Region.binds .any e=true→(e.on=k∨S e.on):=by
 intro i oi hi hS e he hb
 rcases hS with rfl | hS
 ·have:ops.toList[i]? = some o:=by simpa using A.eo
  rw[this] at hi
  cases hi
  exact .inr (hr e he hb)
 ·exact .inr (I.back i oi hi hS e he hb)
theorem EO (T:Text P E n ops rV ps M call lo st) {i j:Nat} {x:Operand} (Rk:i≤j) (hj:j≤ops.size) (h:CU ops.toList i j x=true):ev (st j).1 x=ev (st i).1 x:=by
 cases x with
 |
  tmp t =>
  refine T.N1 Rk hj fun q oq h1 h2 hoq hd => ?_
  have kB:=List.all_eq_true.1 h oq (by
   have arD:ops.toList[q]? = some oq:=by simpa using hoq
   rw[List.mem_iff_getElem?]
   refine⟨q-i,?_⟩
   rw[List.getElem?_drop,List.getElem?_take,show i+(q-i)=q by omega,if_pos h2,arD])
  simp[hd] at kB
 | const v=>rfl
 | global g=>rfl
 | func f=>rfl
theorem rH.look (T:Text P E n ops rV ps M call lo st) (I:rH E n ops ps lo L0 st m0 w0 ds S m c a w) (A:At P E n ops rV ps M S k o p pi) (A4:∀b,(st 0).2.length≤b→b<(st ops.size).2.length→m0 b=none)
  (mC:fA E p = .pure∨fA E p = .look) {v:Value} (hv:xM call lo pi (st k).1 (st k).2=some (v,(st (k+1)).2)):xM call lo pi (st k).1 (st c).2=some (v,(st c).2):=by
 rcases sF hv with⟨hw,rfl,_⟩ | ⟨hw,Oo,hp | ⟨f,args,hp,_⟩⟩
 ·unfold xM
  rw[hw]
 ·unfold xM
  rw[hw]
  simp only[Oo,if_true]
  have key:pop lo pi.op (st k).1 (st c).2=some (.val v (st c).2):=by
   rw[A.ok.op] at hp ⊢
   rcases mC with mC | mC
   ·have hlp:sL p=true:=by
     cases p<;>first | rfl | (cases mC;done) | skip
     case sub s x l hh mx=>cases mx<;>cases mC
     case call f as=>simp only[fA] at mC;split at mC<;>cases mC
    rw[xF hlp] at hp ⊢
    rw[(Cd hp).1]
    rfl
   ·refine(QW hp mC fun x hx b hb aV => ?_).2
    rcases Nat.lt_or_ge c k with hck | hck
    ·obtain⟨hcS,pc,hpc,Of⟩:=I.atc (Nat.lt_trans hck A.lt)
     have JA:b<(st c).2.length:=by
      rcases Nat.lt_or_ge b (st c).2.length with h | h
      ·exact h
      ·exfalso
       obtain⟨l,hl⟩:=Zi (A.operand I (Uy A.ok.VF hx)) hb
       have h0:=T.len (i:=0) (j:=c) (Nat.zero_le _) I.LC
       have h1:=T.len (i:=k) (j:=ops.size) (Nat.le_of_lt A.lt) (Nat.le_refl _)
       rcases I.WB b l hl with h2 | ⟨i,hiS,cC,hi1,IM⟩
       ·exact h2 (A4 b (by omega) (by omega))
       ·rcases Nat.lt_trichotomy i c with h3 | h3 | h3
        ·have:=T.len (i:=i+1) (j:=c) h3 I.LC
         omega
        ·subst h3;exact hcS hiS
        ·obtain⟨oi,qi,pii,_,Xq,_⟩:=T.at cC
         have:=I.late T h3 cC hiS Xq
         rw[T.TT cC Xq this] at IM
         omega
     refine(T.Zy (Nat.le_of_lt hck) (Nat.le_of_lt A.lt) b JA fun j hj1 WI q qi hq Xq hqw adU => ?_).symm
     obtain⟨pi',ajH,iD⟩:=At.pair T WI A.lt hq A.ep
     rw[A.epi] at ajH
     cases ajH
     unfold Dq at iD
     rw[hqw,mC] at iD
     rcases iD with h | ⟨xa,xb,ha,xH,hun,J2⟩
     ·exfalso
      rw[wF WI] at h
      have hjS:=A.anc j h
      rcases Nat.lt_or_ge c j with h3 | h3
      ·rcases I.late T h3 (Nat.lt_trans WI A.lt) hjS hq with h4 | h4<;>(rw[hqw] at h4;cases h4)
      ·have:j=c:=by omega
       subst this;exact hcS hjS
     ·rw[hx] at xH
      cases xH
      refine⟨xa,ha,fun e => ?_⟩
      have hk:=List.all_eq_true.1 Oo _ J2
      unfold Aw at hk
      rw[EO T (Nat.le_of_lt WI) (Nat.le_of_lt A.lt) hun,e,hb] at hk
      simp at hk
    ·refine T.Zy hck I.LC b aV fun j hj1 WI q qi hq Xq hqw adU => ?_
     have hjk:k<j:=by
      rcases Nat.lt_or_ge k j with h | h
      ·exact h
      ·have:j=k:=by omega
       subst this
       rw[A.ep] at hq
       cases hq
       rw[hqw] at mC
       cases mC
     have hjn:j<ops.size:=Nat.lt_of_lt_of_le WI I.LC
     obtain⟨oj,q',qi',hoj,K8,Zt,aAo,_,vj,hvj,_⟩:=T.at hjn
     rw[hq] at K8
     cases K8
     rw[Xq] at Zt
     cases Zt
     obtain⟨qi',Zt,iD⟩:=At.pair T hjk hjn A.ep hq
     rw[Xq] at Zt
     cases Zt
     unfold Dq at iD
     rw[hqw,mC] at iD
     rcases iD with h | ⟨xa,xb,ha,xH,hun,J2⟩
     ·exfalso
      rw[wF hjk] at h
      exact A.desc j hjn (I.before j q WI hq hqw) h
     ·rw[hx] at ha
      cases ha
      refine⟨xb,xH,fun e => ?_⟩
      have aqY:qi.cf.all (Aw (st j).1)=true:=by
       rcases sF hvj with⟨h,_⟩ | ⟨_,h,_⟩
       ·rw[adU] at h;cases h
       ·exact h
      have hk:=List.all_eq_true.1 aqY _ J2
      unfold Aw at hk
      rw[EO T (Nat.le_of_lt hjk) (Nat.le_of_lt hjn) hun,e,hb] at hk
      simp at hk
  rw[key]
 ·exfalso
  rw[A.ok.op] at hp
  rcases rK hp with⟨g,as,rfl⟩ | ⟨g,as,rfl⟩
  ·simp only[fA] at mC
   split at mC<;>rcases mC with h | h<;>cases h
  ·rcases mC with h | h<;>cases h
end
end Go.PM
namespace Go.PM
section
variable {P:Program} {E:zI} {n:Nat} {ops:Array Oper} {rV:List PI} {ps:List mB} {M:List Nat} {call:fC} {lo L0:Nat} {st:Nat→Env×aE}
 {m0:cD} {w0:World} {ds:List Deferred}
theorem FD {H:aE} {b:Nat} (h:H.length≤b):¬Live H b:=fun hl=>by have:=hl.lt;omega
theorem Yi {S:Nat→Prop} {m:cD} {c:Nat} {a:Act} {w:World} {k:Nat} {o:Oper} (T:Text P E n ops rV ps M call lo st) (mF:vH P L0 call) (eX:L0≤lo) (zF:L0≤(st 0).2.length)
  (A4:∀b,(st 0).2.length≤b→b<(st ops.size).2.length→m0 b=none) (I:rH E n ops ps lo L0 st m0 w0 ds S m c a w) (ho:ops[k]? = some o) (hkS:¬S k)
  (hr:∀e∈o.after.toList,Region.binds .any e=true→S e.on) {K:Act→World→Prop} {Q:Exit→Act→World→Prop}
  (hK:∀m' c' a' w',rH E n ops ps lo L0 st m0 w0 ds (fun i=>i=k∨S i) m' c' a' w'→K a' w'):wpOp P ops Q k K a w:=by
 have aV:k<ops.size:=(Array.getElem?_eq_some_iff.1 ho).1
 obtain⟨o',p,pi,Zp,hp,Vn,CV,V8,v,hv,he⟩:=T.at aV
 rw[ho] at Zp
 cases Zp
 have ho2:ops.toList[k]? = some o:=by simpa using ho
 have A:At P E n ops rV ps M S k o p pi:=⟨aV,ho,hp,Vn,CV,V8,hkS,fun i hi=>T.anc I.back ho2 hr hi,fun i hi hS hb=>by
  have hio:ops.toList[i]? = some ops[i]:=by simp[hi]
  exact hkS (T.anc I.back hio (I.back i _ hio hS) hb)⟩
 have Sm:=A.reads I
 have adH:=T.len (i:=0) (j:=c) (Nat.zero_le _) I.LC
 have alT:=T.len (i:=c) (j:=ops.size) I.LC (Nat.le_refl _)
 have akD:=T.len (i:=0) (j:=k) (Nat.zero_le _) (Nat.le_of_lt aV)
 have apV:=T.len (i:=k+1) (j:=ops.size) aV (Nat.le_refl _)
 have asX:=T.ajT aV
 have hfk:∀b,(st k).2.length≤b→b<(st (k+1)).2.length→m b=none:=by
  intro b h1 h2
  cases hm:m b with
  | none=>rfl
  |
   some l =>
   exfalso
   rcases I.WB b l hm with h3 | ⟨i,hiS,cC,hi1,IM⟩
   ·exact h3 (A4 b (by omega) (by omega))
   ·rcases Nat.lt_trichotomy i k with h3 | h3 | h3
    ·have:=T.len (i:=i+1) (j:=k) h3 (Nat.le_of_lt aV)
     omega
    ·subst h3;exact hkS hiS
    ·have:=T.len (i:=k+1) (j:=i) h3 (Nat.le_of_lt cC)
     omega
 have PH:(fA E p = .pure∨fA E p = .look)→wpOp P ops Q k K a w:=by
  intro mC
  have hq:pi.quiet=false:=by
   rw[V8.quiet]
   rcases mC with h | h<;>rw[h]
  have hw:fA E p ≠ .write:=by rcases mC with h | h<;>(rw[h];exact fun h=>by cases h)
  refine Oe ho CV (fun h=>by rw[hq] at h;cases h) (I.look T A A4 mC hv) Sm I.rel eX (Nat.le_trans zF adH) (fun b h1 h2=>by omega) mF fun m' rv w' Rh hR hT => ?_
  rw[hq] at hT
  simp only[Bool.false_eq_true,if_false] at hT
  have hmm:m'=m:=by
   funext b
   cases hm:m b with
   | some l=>exact hT.ext b l hm
   |
    none =>
    cases hm':m' b with
    | none=>rfl
    | some l=>have:=(hT.new b l hm' hm).1;omega
  subst hmm
  refine hK m' c _ w' ⟨by rw[EV];exact I.Fu,by rw[FI];exact I.defs,I.Yl A hr,I.Ma T A (fun _ _ h=>h) Rh he,I.LC,fun i q h1 h2 h3 => .inr (I.before i q h1 h2 h3),?_,hR,?_,?_⟩
  ·intro h
   obtain⟨h1,q,h2,h3⟩:=I.atc h
   refine⟨fun hS=>hS.elim (fun e => ?_) h1,q,h2,h3⟩
   subst e
   rw[hp] at h2
   cases h2
   exact hw h3
  ·exact Trans.trans (fun b h1 h2=>A4 b h1 (by omega)) (T.YO (Nat.zero_le _) I.LC) (Ext.refl _ _) I.tr hT
  ·intro b l hb
   exact(I.WB b l hb).imp id fun⟨i,h1,h2⟩=>⟨i,.inr h1,h2⟩
 cases mC:fA E p with
 |
  write =>
  have hkc:k=c:=by
   rcases Nat.lt_trichotomy k c with h | h | h
   ·exact absurd (I.before k p h hp mC) hkS
   ·exact h
   ·exfalso
    obtain⟨hcS,pc,hpc,Of⟩:=I.atc (by omega)
    obtain⟨qi,_,iD⟩:=At.pair T h aV hpc hp
    unfold Dq at iD
    rw[Of,mC] at iD
    simp only at iD
    rw[wF h] at iD
    exact hcS (A.anc c iD)
  subst hkc
  refine Oe ho CV (fun hq=>by rw[V8.quiet,mC] at hq;cases hq) hv Sm I.rel eX (Nat.le_trans zF adH) hfk mF fun m' rv w' Rh hR hT => ?_
  have hq:pi.quiet=false:=by rw[V8.quiet,mC]
  rw[hq] at hT
  simp only[Bool.false_eq_true,if_false] at hT
  obtain⟨c',hc1,ZJ,hc3,hc4⟩:=Ed (fun i=>∃q,ps[i]? = some q∧fA E q = .write) _ (k+1) ops.size rfl aV
  have Tj:∀b,b<(st (k+1)).2.length→(st c').2[b]? = (st (k+1)).2[b]? := T.same hc1 ZJ fun i h1 h2 q hq hw=>hc3 i h1 h2 ⟨q,hq,hw⟩
  have apP:=T.len hc1 ZJ
  have akE:=T.len (i:=c') (j:=ops.size) ZJ (Nat.le_refl _)
  have alM:∀b l,m' b=some l→m0 b≠none∨∃i,(i=k∨S i)∧i<ops.size∧(st i).2.length≤b∧b<(st (i+1)).2.length:=by
   intro b l hb
   cases hm:m b with
   | some l'=>exact(I.WB b l' hm).imp id fun⟨i,h1,h2⟩=>⟨i,.inr h1,h2⟩
   | none=>exact .inr ⟨k,.inl rfl,aV,(hT.new b l hb hm).1⟩
  have agA:∀b,(st (k+1)).2.length≤b→b<(st c').2.length→m' b=none:=by
   intro b h1 h2
   cases hm:m' b with
   | none=>rfl
   |
    some l =>
    exfalso
    rcases alM b l hm with h3 | ⟨i,hiS,cC,hi1,IM⟩
    ·exact h3 (A4 b (by omega) (by omega))
    ·rcases Nat.lt_trichotomy i k with h3 | h3 | h3
     ·have:=T.len (i:=i+1) (j:=k) h3 (Nat.le_of_lt aV)
      omega
     ·subst h3;omega
     ·obtain⟨oi,qi,pii,_,Xq,_⟩:=T.at cC
      have:=I.late T h3 cC (hiS.resolve_left (by omega)) Xq
      rw[T.TT cC Xq this] at IM
      omega
  have hTT:Trans lo m0 (st 0).2 w0 m' (st (k+1)).2 w':=Trans.trans (fun b h1 h2=>A4 b h1 (by omega)) (T.YO (Nat.zero_le _) (Nat.le_of_lt aV)) (T.YO (Nat.le_succ _) aV) I.tr hT
  refine hK m' c' _ w' ⟨by rw[EV];exact I.Fu,by rw[FI];exact I.defs,I.Yl A hr,I.Ma T A hT.ext Rh he,ZJ,?_,?_,hR.grow Tj agA,?_,alM⟩
  ·intro i q hi hq hw
   rcases Nat.lt_trichotomy i k with h | h | h
   ·exact .inr (I.before i q h hq hw)
   ·exact .inl h
   ·exact absurd ⟨q,hq,hw⟩ (hc3 i h hi)
  ·intro h
   obtain⟨q,hq,hw⟩:=hc4 h
   refine⟨fun hS => ?_,q,hq,hw⟩
   rcases hS with hS | hS
   ·omega
   ·rcases I.late T (by omega) h hS hq with h4 | h4<;>(rw[hw] at h4;cases h4)
  ·refine⟨hTT.ext,fun b l hb hn => ?_,hTT.size,hTT.cL,hTT.same⟩
   obtain⟨⟨h1,h2⟩,h3⟩:=hTT.new b l hb hn
   refine⟨⟨h1,by omega⟩,?_⟩
   rcases h3 with h3 | h3 | h3
   ·exact .inl h3
   ·exact .inr (.inl fun hl=>h3 ((gS (Tj b h2)).1 hl))
   ·exact .inr (.inr h3)
 |
  quiet =>
  have hkc:k<c:=by
   rcases Nat.lt_or_ge k c with h | h
   ·exact h
   ·exfalso
    rcases Nat.lt_or_ge c k with h' | h'
    ·obtain⟨hcS,pc,hpc,Of⟩:=I.atc (by omega)
     obtain⟨qi,_,iD⟩:=At.pair T h' aV hpc hp
     unfold Dq at iD
     rw[Of,mC] at iD
     simp only at iD
     rw[wF h'] at iD
     exact hcS (A.anc c iD)
    ·have:k=c:=by omega
     subst this
     obtain⟨_,pc,hpc,Of⟩:=I.atc aV
     rw[hp] at hpc
     cases hpc
     rw[mC] at Of
     cases Of
  have Vy:∀i,k<i→i<c→∀q,ps[i]? = some q→fA E q ≠ .write:=by
   intro i h1 h2 q hq hw
   have cC:i<ops.size:=Nat.lt_of_lt_of_le h2 I.LC
   obtain⟨qi,_,iD⟩:=At.pair T h1 cC hp hq
   unfold Dq at iD
   rw[mC,hw] at iD
   simp only at iD
   rw[wF h1] at iD
   exact A.desc i cC (I.before i q h2 hq hw) iD
  have KZ:∀b,b<(st (k+1)).2.length→(st c).2[b]? = (st (k+1)).2[b]? := T.same hkc I.LC fun i h1 h2 q hq=>Vy i h1 h2 q hq
  have ZL:∀b,b<(st k).2.length→(st c).2[b]? = (st k).2[b]? := T.same (Nat.le_of_lt hkc) I.LC fun i h1 h2 q hq=>by
   rcases Nat.lt_or_ge k i with h | h
   ·exact Vy i h h2 q hq
   ·have:i=k:=by omega
    subst this
    rw[hp] at hq
    cases hq
    rw[mC]
    exact fun h=>by cases h
  have avN:=T.len (i:=k+1) (j:=c) hkc I.LC
  refine Oe ho CV (fun _=>mC) hv Sm (I.rel.restrict ZL) eX (Nat.le_trans zF akD) hfk mF fun m' rv w' Rh hR hT => ?_
  have hq:pi.quiet=true:=by rw[V8.quiet,mC]
  rw[hq] at hT
  simp only[if_true] at hT
  have HI:∀rb,rb<w.heap.size→w'.heap[rb]? = w.heap[rb]? := fun rb Cn=>hT.cL rb Cn fun b l hb _ hl=>absurd hl (FD hb)
  have sT:∀b l,m' b=some l→m b=none→((st k).2.length≤b∧b<(st (k+1)).2.length)∧(w.heap.size≤l.rb∨¬Live (st (k+1)).2 b):=by
   intro b l h1 h2
   obtain⟨h3,h4⟩:=hT.new b l h1 h2
   refine⟨h3,?_⟩
   rcases h4 with h4 | h4 | ⟨b0,l0,g1,_,g3,_⟩
   ·exact .inl h4
   ·exact .inr h4
   ·exact absurd g3 (FD g1)
  have ajY:∀b l,m b=some l→l.rb<w.heap.size:=by
   intro b l hb
   obtain⟨arr,e,fz,h1,_⟩:=I.rel.valid b l hb
   exact(Array.getElem?_eq_some_iff.1 h1).1
  have Mf:∀rb j,rb<w.heap.size→w'.cell? ⟨rb,j,none⟩=w.cell? ⟨rb,j,none⟩:=by
   intro rb j Cn
   unfold World.cell?
   simp only[HI rb Cn]
  have AT:∀b l,m' b=some l→(st (k+1)).2.length≤b→m b=some l:=by
   intro b l hb h
   cases hm:m b with
   | some l'=>have:=hT.ext b l' hm;rw[hb] at this;exact this.symm
   | none=>have:=(sT b l hb hm).1.2;omega
  refine hK m' c _ w' ⟨by rw[EV];exact I.Fu,by rw[FI];exact I.defs,I.Yl A hr,I.Ma T A hT.ext Rh he,I.LC,fun i q h1 h2 h3 => .inr (I.before i q h1 h2 h3),?_,⟨hR.valid,?_,?_,?_⟩,?_,?_⟩
  ·intro h
   obtain⟨h1,q,h2,h3⟩:=I.atc h
   exact⟨fun hS=>hS.elim (fun e=>by omega) h1,q,h2,h3⟩
  ·intro b l cs e pp hm hb
   rcases Nat.lt_or_ge b (st (k+1)).2.length with h | h
   ·exact hR.row b l cs e pp hm (by rw[←KZ b h];exact hb)
   ·have hmo:=AT b l hm h
    obtain⟨h1,h2,h3,h4⟩:=I.rel.row b l cs e pp hmo hb
    refine⟨h1,h2,h3,fun i hi => ?_⟩
    obtain⟨rv',g1,g2,g3⟩:=h4 i hi
    exact⟨rv',by rw[Mf _ _ (ajY b l hmo)];exact g1,g2.mono hT.ext,g3⟩
  ·intro b1 b2 l1 l2 Di h1 h2 DX FU Cn
   have fresh:∀b b' l l',m' b=some l→m b=none→m b'=some l'→Live (st c).2 b→l.rb=l'.rb→False:=by
    intro b b' l l' g1 g2 g3 g4 g5
    obtain⟨⟨_,g6⟩,g7⟩:=sT b l g1 g2
    rcases g7 with g7 | g7
    ·have:=ajY b' l' g3;omega
    ·exact g7 ((gS (KZ b g6)).1 g4)
   cases IF:m b1 with
   |
    some l1' =>
    cases X7:m b2 with
    |
     some l2' =>
     have e1:l1'=l1:=by have:=hT.ext b1 l1' IF;rw[h1] at this;injection this with this;exact this.symm
     have e2:l2'=l2:=by have:=hT.ext b2 l2' X7;rw[h2] at this;injection this with this;exact this.symm
     subst e1 e2
     exact I.rel.inj b1 b2 _ _ Di IF X7 DX FU Cn
    |
     none =>
     have e1:l1'=l1:=by have:=hT.ext b1 l1' IF;rw[h1] at this;injection this with this;exact this.symm
     subst e1
     exact(fresh b2 b1 _ _ h2 X7 IF FU Cn.symm).elim
   |
    none =>
    cases X7:m b2 with
    |
     some l2' =>
     have e2:l2'=l2:=by have:=hT.ext b2 l2' X7;rw[h2] at this;injection this with this;exact this.symm
     subst e2
     exact(fresh b1 b2 _ _ h1 IF X7 DX Cn).elim
    |
     none =>
     have g1:=(sT b1 l1 h1 IF).1.2
     have g2:=(sT b2 l2 h2 X7).1.2
     exact hR.inj b1 b2 l1 l2 Di h1 h2 ((gS (KZ b1 g1)).1 DX) ((gS (KZ b2 g2)).1 FU) Cn
  ·intro x hx
   refine⟨(hR.Cy x hx).1,fun b l hb hm hl => ?_⟩
   obtain⟨⟨e0,fz0,q1⟩,q2⟩:=I.rel.Cy x hx
   cases IF:m b with
   |
    some l' =>
    have e1:l'=l:=by have:=hT.ext b l' IF;rw[hm] at this;injection this with this;exact this.symm
    subst e1
    exact q2 b l' hb IF hl
   |
    none =>
    obtain⟨⟨_,g6⟩,g7⟩:=sT b l hm IF
    rcases g7 with g7 | g7
    ·have:=(Array.getElem?_eq_some_iff.1 q1).1
     omega
    ·exact(g7 ((gS (KZ b g6)).1 hl)).elim
  ·refine⟨fun b l hb=>hT.ext b l (I.tr.ext b l hb),fun b l hb hn => ?_,Nat.le_trans I.tr.size hT.size,fun rb Cn hk => ?_,hT.same.1.trans I.tr.same.1,hT.same.2.1.trans I.tr.same.2.1,hT.same.2.2.trans I.tr.same.2.2⟩
   ·cases hm:m b with
    |
     some l' =>
     have e1:l'=l:=by have:=hT.ext b l' hm;rw[hb] at this;injection this with this;exact this.symm
     subst e1
     exact I.tr.new b l' hm hn
    |
     none =>
     obtain⟨⟨g1,g2⟩,g3⟩:=sT b l hb hm
     refine⟨⟨by omega,by omega⟩,?_⟩
     rcases g3 with g3 | g3
     ·exact .inl (Nat.le_trans I.tr.size g3)
     ·exact .inr (.inl fun hl=>g3 ((gS (KZ b g2)).1 hl))
   ·rw[HI rb (Nat.lt_of_lt_of_le Cn I.tr.size),I.tr.cL rb Cn hk]
  ·intro b l hb
   cases hm:m b with
   | some l'=>exact(I.WB b l' hm).imp id fun⟨i,h1,h2⟩=>⟨i,.inr h1,h2⟩
   | none=>exact .inr ⟨k,.inl rfl,aV,(sT b l hb hm).1⟩
 | pure=>exact PH (.inl mC)
 | look=>exact PH (.inr mC)
end
end Go.PM
namespace Go.PM
section
variable {P:Program} {E:zI} {n:Nat} {call:fC} {lo L0:Nat}
theorem Trans.fresh {m m':cD} {H H1 H2:aE} {w w':World} (h:Trans lo m H w m' H1 w') (h1:H.length≤H1.length) (hf:∀b,H.length≤b→b<H2.length→m b=none):∀b,H1.length≤b→b<H2.length→m' b=none:=by
 intro b Di hb2
 cases hm:m' b with
 | none=>rfl
 |
  some l =>
  exfalso
  have hn:=hf b (by omega) hb2
  have:=(h.new b l hm hn).1
  omega
structure F0 (n L0:Nat) (m:cD) (ρ:Env) (H:aE) (a:Act) (w:World):Prop where
 Fu:a.tmps.size=n
 defs:a.defers=[]
 env:∀t,RV m (ρ t) (a.tmps.getD t undef)
 rel:Rel m L0 H w
theorem MM {p q:Nat→Bool}:∀ {l:List Nat} {i:Nat},(∀x∈l,q x=true→p x=true)→i∈l→p i=true→q i=false→l.countP q<l.countP p
 |
  x::l,i,h,hi,hp,hq=>by
  rw[List.countP_cons,List.countP_cons]
  have hle:l.countP q≤l.countP p:=List.countP_mono_left fun x hx=>h x (List.mem_cons_of_mem _ hx)
  rcases List.mem_cons.1 hi with rfl | hi
  ·rw[if_neg (by simp[hq]),if_pos hp];omega
  ·have:=MM (fun x hx=>h x (List.mem_cons_of_mem _ hx)) hi hp hq
   have:(if q x=true then 1 else 0)≤(if p x=true then 1 else 0):=by
    by_cases hqx:q x=true
    ·rw[if_pos hqx,if_pos (h x List.mem_cons_self hqx)];omega
    ·rw[if_neg hqx];omega
   omega
theorem Kw {listed:Array Bool} {k i:Nat} (hk:k<listed.size):(listed.setIfInBounds k true).getD i false=true↔(i=k∨listed.getD i false=true):=by
 rcases Nat.lt_or_ge i listed.size with h | h
 ·by_cases e:i=k
  ·subst e;simp[h]
  ·simp[h,e,Ne.symm e]
 ·have:i≠k:=by omega
  simp[h,this]
theorem aaP {ops:Array Oper} {rV:List PI} {ps:List mB} {M:List Nat} {st:Nat→Env×aE} {m0:cD} {w0:World} (T:Text P E n ops rV ps M call lo st) (mF:vH P L0 call) (eX:L0≤lo) (zF:L0≤(st 0).2.length)
  (A4:∀b,(st 0).2.length≤b→b<(st ops.size).2.length→m0 b=none) {Q:Exit→Act→World→Prop}
  (hQ:∀m' a' w',F0 n L0 m' (st ops.size).1 (st ops.size).2 a' w'→Trans lo m0 (st 0).2 w0 m' (st ops.size).2 w'→Q .normal a' w') :
  ∀(fuel:Nat) (listed:Array Bool) (m:cD) (c:Nat) (a:Act) (w:World),listed.size=ops.size→((List.range ops.size).countP fun i => !listed.getD i false)≤fuel →
  rH E n ops ps lo L0 st m0 w0 [] (fun i=>listed.getD i false=true) m c a w→wpAny P .any ops Q fuel listed a w:=by
 have fin:∀(listed:Array Bool) (m:cD) (c:Nat) (a:Act) (w:World),listed.size=ops.size→(Region.ready .any ops listed=[])→rH E n ops ps lo L0 st m0 w0 [] (fun i=>listed.getD i false=true) m c a w→Q .normal a w:=by
  intro listed m c a w hs hr I
  have all:∀i,i<ops.size→listed.getD i false=true:=by
   intro i
   induction i using Nat.strongRecOn with
   |
    _ i ih =>
    intro hi
    cases hl:listed.getD i false with
    | true=>rfl
    |
     false =>
     exfalso
     obtain⟨o,p,pi,ho,_,_,_,V8,_⟩:=T.at hi
     have:i∈Region.ready .any ops listed:=by
      rw[mem_ready]
      refine⟨?_,o,ho,fun e he hb => ?_⟩
      ·have Sj:i<listed.size:=by omega
       simpa[Sj] using hl
      ·have:=V8.back e (by simpa using he) hb
       exact ih e.on this (by omega)
     rw[hr] at this
     cases this
  have hcN:c=ops.size:=by
   rcases Nat.lt_or_ge c ops.size with h | h
   ·exact absurd (all c h) (I.atc h).1
   ·have:=I.LC;omega
  subst hcN
  exact hQ m a w ⟨I.Fu,I.defs,fun t=>I.tm t ops.size (Nat.le_refl _) fun i o hi _=>⟨fun _=>Ew hi,fun h=>all i h⟩,I.rel⟩ I.tr
 intro fuel
 induction fuel with
 |
  zero =>
  intro listed m c a w hs hc I
  have hr:Region.ready .any ops listed=[]:=by
   rw[List.eq_nil_iff_forall_not_mem]
   intro i hi
   have oV:=mem_ready.1 hi
   obtain⟨h1,o,ho,_⟩:=oV
   have aV:i<ops.size:=(Array.getElem?_eq_some_iff.1 ho).1
   have h0:((List.range ops.size).countP fun i => !listed.getD i false)=0:=by omega
   rw[List.countP_eq_zero] at h0
   have:=h0 i (List.mem_range.2 aV)
   have Sj:i<listed.size:=by omega
   simp[Sj] at this h1
   rw[h1] at this
   cases this
  exact⟨hr,fin listed m c a w hs hr I⟩
 |
  succ fuel ih =>
  intro listed m c a w hs hc I
  refine⟨fun hr=>fin listed m c a w hs hr I,fun k hk => ?_⟩
  obtain⟨h1,o,ho,hb⟩:=mem_ready.1 hk
  have aV:k<ops.size:=(Array.getElem?_eq_some_iff.1 ho).1
  have hkl:k<listed.size:=by omega
  have hkf:listed.getD k false=false:=by simpa[hkl] using h1
  refine Yi T mF eX zF A4 I ho (by rw[hkf];exact fun h=>by cases h) (fun e he ZF=>hb e (by simpa using he) ZF) fun m' c' a' w' I'=>ih _ m' c' a' w' (by simpa using hs) ?_ ?_
  ·have:((List.range ops.size).countP fun i => !(listed.setIfInBounds k true).getD i false)<((List.range ops.size).countP fun i => !listed.getD i false):=by
    refine MM (i:=k) (fun x _ hx => ?_) (List.mem_range.2 aV) (by rw[hkf];rfl) ?_
    ·cases hlx:listed.getD x false with
     | false=>rfl
     |
      true =>
      have:=(Kw (i:=x) hkl).2 (.inr hlx)
      rw[this] at hx
      cases hx
    ·rw[(Kw hkl).2 (.inl rfl)];rfl
   omega
  ·have e:(fun i=>(listed.setIfInBounds k true).getD i false=true)=fun i=>i=k∨listed.getD i false=true:=by
    funext i
    exact propext (Kw hkl)
   rw[e]
   exact I'
theorem Rel.drew {m:cD} {H:aE} {w w':World} (h:Rel m L0 H w) (hw:w'.heap=w.heap):Rel m L0 H w':=by
 have hc:∀x,w'.cell? x=w.cell? x:=fun x=>by unfold World.cell?;rw[hw]
 refine⟨fun b l hb=>by rw[hw];exact h.valid b l hb,fun b l cs e p hm hb => ?_,h.inj,fun x hx=>⟨by rw[hw];exact(h.Cy x hx).1,(h.Cy x hx).2⟩⟩
 obtain⟨h1,h2,h3,h4⟩:=h.row b l cs e p hm hb
 refine⟨h1,h2,h3,fun i hi => ?_⟩
 rw[hc]
 exact h4 i hi
theorem R9 {id:Nat} {ops:Array Oper} {draw:Bool} {rV:List PI} (Ca:P.follows .mixedOrders=true) (mF:vH P L0 call) (pV:qF call) (hp:vO P E n ops draw=some rV) {ρ aU:Env} {H H':aE}
  (hv:fU call lo rV ρ H=some (aU,H')) {m:cD} {a:Act} {w:World} (h:F0 n L0 m ρ H a w) (eX:L0≤lo) (hlen:L0≤H.length) (hf:∀b,H.length≤b→b<H'.length→m b=none) {Q:Exit→Act→World→Prop}
  (hQ:∀m' a' w',F0 n L0 m' aU H' a' w'→Trans lo m H w m' H' w'→Q .normal a' w'):(Code.region id ops draw).wp P Q a w:=by
 obtain⟨ps,M,CV⟩:=Iz hp
 obtain⟨st,ZL,hsn,Ay⟩:=Fo hv
 have hN:rV.length=ops.size:=by rw[CV.aqO];simp
 rw[hN] at hsn
 cases draw with
 |
  true =>
  have T:Text P E n ops rV ps M call lo st:=⟨CV,pV,Ay⟩
  apply wp_region_any Ca
  have e0:(st 0).1=ρ:=by rw[ZL]
  have e1:(st 0).2=H:=by rw[ZL]
  have e2:(st ops.size).1=aU:=by rw[hsn]
  have e3:(st ops.size).2=H':=by rw[hsn]
  obtain⟨c,hc1,ZJ,hc3,hc4⟩:=Ed (fun i=>∃q,ps[i]? = some q∧fA E q = .write) _ 0 ops.size rfl (Nat.zero_le _)
  have Tj:=T.same hc1 ZJ fun i h1 h2 q hq hw=>hc3 i h1 h2 ⟨q,hq,hw⟩
  have alT:=T.len hc1 ZJ
  have akE:=T.len (i:=c) (j:=ops.size) ZJ (Nat.le_refl _)
  have hgr:=h.rel.grow (by rw[←e1];exact Tj) (fun b h1 h2=>hf b h1 (by rw[←e3];omega))
  have Yh:∀i,(Array.replicate ops.size false).getD i false=true→False:=by
   intro i hi
   rcases Nat.lt_or_ge i ops.size with h | h<;>simp[h] at hi
  refine aaP (m0:=m) (w0:=w) T mF eX (by rw[e1];exact hlen) (by rw[e1,e3];exact hf) (by rw[e1,e2,e3];exact hQ) ops.size _ m c a _ (by simp) (Nat.le_trans List.countP_le_length (by simp)) ?_
  refine⟨h.Fu,h.defs,fun i o _ hi=>(Yh i hi).elim,fun t j hj hw => ?_,ZJ,fun i q hi hq hw=>absurd ⟨q,hq,hw⟩ (hc3 i (Nat.zero_le _) hi),fun hc=>⟨fun h=>Yh _ h,hc4 hc⟩,hgr.drew rfl,?_,fun b l hb => .inl (by rw[hb];exact fun h=>by cases h)⟩
  ·have e:(st j).1 t=ρ t:=by
    rw[←e0]
    refine T.N1 (Nat.zero_le _) hj fun i oi _ IM hoi hd => ?_
    have OG:ops.toList[i]? = some oi:=by simpa using hoi
    exact(Yh i ((hw i oi OG hd).2 IM)).elim
   rw[e]
   exact h.env t
  ·rw[e1]
   refine⟨fun _ _ h=>h,fun b l hb hn=>(by rw[hb] at hn;cases hn),Nat.le_refl _,fun _ _ _=>rfl,rfl,rfl,rfl⟩
 |
  false =>
  apply wp_region
  have key:∀d i,ops.size-i=d→i≤ops.size→∀m1 a1 w1,F0 n L0 m1 (st i).1 (st i).2 a1 w1→L0≤(st i).2.length→(∀b,(st i).2.length≤b→b<H'.length→m1 b=none) →
    (∀m' a' w',F0 n L0 m' aU H' a' w'→Trans lo m1 (st i).2 w1 m' H' w'→Q .normal a' w')→wpOps P ops Q ((List.range ops.size).drop i) a1 w1:=by
   intro d
   induction d with
   |
    zero =>
    intro i hd hi m1 a1 w1 h1 _ _ hQ1
    have:i=ops.size:=by omega
    subst this
    rw[List.drop_eq_nil_of_le (by simp)]
    rw[hsn] at h1 hQ1
    exact hQ1 m1 a1 w1 h1 (Trans.refl _ _ _ _)
   |
    succ d ih =>
    intro i hd hi m1 a1 w1 h1 DX hf1 hQ1
    have aV:i<ops.size:=by omega
    rw[List.drop_eq_getElem_cons (by simpa using aV),wpOps_cons]
    have ho:ops.toList[i]? = some ops[i]:=by simp[aV]
    obtain⟨p,pi,hp1,hp2,agV,_,V8⟩:=CV.each i _ ho
    have acZ:=Ay i pi hp2
    obtain⟨v,hv1,hv2⟩:=vS acZ
    have hq:pi.quiet=false:=(V8 rfl).1
    have hE1:=Gx pV acZ
    have hE2:Ext lo (st (i+1)).2 H':=by
     have:∀d j,ops.size-j=d→j≤ops.size→Ext lo (st j).2 H':=by
      intro d
      induction d with
      | zero =>
        intro j hd hj;have:j=ops.size:=by omega
        subst this;rw[hsn];exact Ext.refl _ _
      |
       succ d ih =>
       intro j hd hj
       have hjl:j<rV.length:=by omega
       exact(Gx pV (Ay j rV[j] (List.getElem?_eq_getElem hjl))).trans (ih (j+1) (by omega) (by omega))
     exact this _ (i+1) rfl aV
    have AF:(List.range ops.size)[i]'(by simpa using aV)=i:=by simp
    rw[AF]
    refine Oe (by simp[aV]) agV (fun h=>by rw[hq] at h;cases h) hv1 (fun t _=>h1.env t) h1.rel eX DX (fun b Di hb2=>hf1 b Di (Nat.lt_of_lt_of_le hb2 hE2.len)) mF fun m' rv w' Rh hR hT => ?_
    rw[hq] at hT
    simp only[Bool.false_eq_true,if_false] at hT
    refine ih (i+1) (by omega) aV m' _ w' ⟨by rw[EV];exact h1.Fu,by rw[FI];exact h1.defs,fun t => ?_,hR⟩ (Nat.le_trans DX hE1.len) (hT.fresh hE1.len hf1) fun m2 a2 w2 h2 hT2=>hQ1 m2 a2 w2 h2 (Trans.trans hf1 hE1 hE2 hT hT2)
    rw[hv2,agV.dst]
    cases hd:ops[i].dst with
    | none=>exact(h1.env t).mono hT.ext
    |
     some d =>
     rw[Qe (by rw[h1.Fu];exact agV.bound d hd)]
     show RV m' (if t=d then v else (st i).1 t) _
     by_cases e:t=d
     ·rw[if_pos e,if_pos e];exact Rh
     ·rw[if_neg e,if_neg e];exact(h1.env t).mono hT.ext
  have:=key ops.size 0 (by omega) (Nat.zero_le _) m a w (by rw[ZL];exact h) (by rw[ZL];exact hlen) (by rw[ZL];exact hf) (by rw[ZL];exact hQ)
  simpa using this
end
end Go.PM