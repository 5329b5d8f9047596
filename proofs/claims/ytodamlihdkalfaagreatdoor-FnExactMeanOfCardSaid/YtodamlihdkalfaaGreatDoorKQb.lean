/- Texts of a claim, in one: part 2. -/
import Derived.LoopN
import Derived.Test.YtodamlihdkalfaaGreatDoorKQa
set_option linter.unusedSimpArgs false
set_option linter.unusedVariables false
namespace Go.PM
section
variable {P:Program} {m:cQ} {L0:Nat} {H:aD} {w:World}
theorem RL.const {zs:List Value} (h:zs.all jI=true):RL m zs zs :=
 ⟨rfl,fun j hj=>by
  have:=RV.const (m:=m) (List.all_eq_true.1 h _ (List.getElem_mem hj))
  simpa[List.getD_eq_getElem?_getD,List.getElem?_eq_getElem hj] using this⟩
theorem rV (n:Nat) (zs:List Value):(cG n zs).length=n*zs.length:=by simp[cG]
theorem tJ (n:Nat) {zs:List Value} (h:zs.all jI=true) (h0:1≤zs.length):RL m (cG n zs) (cG n zs):=by
 refine⟨rfl,fun i hi => ?_⟩
 rw[rV] at hi
 have aX:i % zs.length<zs.length:=Nat.mod_lt _ h0
 have e:(cG n zs).getD i undef=zs.getD (i % zs.length) undef:=by simp[cG,List.getD_eq_getElem?_getD,hi]
 rw[e]
 exact(RL.const h).2 _ aX
theorem Ok (n:Nat) {zs:List Value} (h:zs.all fS=true) (h0:1≤zs.length):(cG n zs).all fS=true:=by
 rw[List.all_eq_true]
 intro x hx
 obtain⟨i,_,rfl⟩:=List.mem_map.1 hx
 have aX:i % zs.length<zs.length:=Nat.mod_lt _ h0
 have:=List.all_eq_true.1 h _ (List.getElem_mem aX)
 simpa[List.getD_eq_getElem?_getD,List.getElem?_eq_getElem aX] using this
theorem Gk (z:Array Value) (n:Nat) (h0:1≤z.size):(madeCells z (n*z.size)).toList=cG n z.toList:=by
 apply List.ext_getElem
 ·simp[madeCells,cG]
 ·intro i h1 h2
  have aX:i % z.size<z.size:=Nat.mod_lt _ h0
  simp[madeCells,cG,aX]
theorem En (z:Array Value) (n:Nat) (h0:1≤z.size):(Builtin.zeroCells z n).toList=cG n z.toList:=by
 apply List.ext_getElem
 ·simp[Builtin.zeroCells,cG]
 ·intro i h1 h2
  have aX:i % z.size<z.size:=Nat.mod_lt _ h0
  simp[Builtin.zeroCells,cG,aX]
theorem W5 {t:TypeId} {agg:Bool} {size nb lo:Nat} {z:List Value} (ht:kL P t=some (agg,size,z,nb)) (EI:z.all fS=true) (Pv:z.all jI=true) (hR:Rel m L0 H w) (hf:m H.length=none) :
  cA P (do pure (.value (←Instr.alloc t true (.tuple #[])))) L0 lo m H w (.pointer (some ⟨H.length,0,none⟩)) (H++[.row z z.length false]):=by
 obtain⟨i,d,zz,hi,hd,FQ,rfl,rfl,rfl,rfl⟩:=gU ht
 have nD:(Instr.alloc t true (.tuple #[])).run P w = .ok (.pointer (some ⟨w.heap.size,0,none⟩)) (w.alloc (.cells zz.cells t)):=by
  simp[Instr.alloc,zeroValue,typeInfo,hi,FQ,newVar,newRow]
 have hA:=tW hR hf (w':=w.alloc (.cells zz.cells t)) (arr:=zz.cells) (e:=t) (fz:=(0,0)) rfl ⟨rfl,rfl,rfl⟩ (cs:=aL zz) (eR:=(aL zz).length) (O9:=false)
  (by rw[dT];exact Nat.le_refl _) (fun i hi=>by
   have:=(RL.const (m:=m) Pv).2 i hi
   rwa [←xA,fB]) EI (fun j _ h=>by simp at h)
 exact cA.value nD (.ptr _ 0 _ (bO m _ _)) hA.1 (hA.2 lo)
theorem UO {t:TypeId} {v r:Value} {lo:Nat} (hv:RV m v r) (hs:(aL v).all fS=true) (hR:Rel m L0 H w) (hf:m H.length=none) :
  cA P (do pure (.value (←Instr.box t r))) L0 lo m H w (.pointer (some ⟨H.length,0,none⟩)) (H++[.row (aL v) (aL v).length false]):=by
 have nD:(Instr.box t r).run P w = .ok (.pointer (some ⟨w.heap.size,0,none⟩)) (w.alloc (.cells r.cells t)):=by
  simp[Instr.box,newVar,newRow]
 have hA:=tW hR hf (w':=w.alloc (.cells r.cells t)) (arr:=r.cells) (e:=t) (fz:=(0,0)) rfl ⟨rfl,rfl,rfl⟩ (cs:=aL v) (eR:=(aL v).length) (O9:=false)
  (by rw[dT,hv.aL.1];exact Nat.le_refl _) (fun i hi=>by
   have:=hv.aL.2 i hi
   rwa [←xA,fB]) hs (fun j _ h=>by simp at h)
 exact cA.value nD (.ptr _ 0 _ (bO m _ _)) hA.1 (hA.2 lo)
theorem TX {t:TypeId} {agg:Bool} {size nb lo:Nat} {z:List Value} {kl kc:IntKind} {l c:Int} (ht:iP P t=some (agg,size,z,nb)) (EI:z.all fS=true) (Pv:z.all jI=true) (R7:size=z.length) (Ci:1≤size)
  (hl:0≤l) (hlc:l≤c) (hb:c*nb≤281474976710656) (hc:c≤9223372036854775807) (hR:Rel m L0 H w) (hf:m H.length=none) :
  cA P (do pure (.value (←Instr.makeSlice t (.int kl l) (.int kc c)))) L0 lo m H w (.slice (some ⟨H.length,0,none⟩) l.toNat c.toNat) (H++[.row (cG c.toNat z) z.length false]):=by
 obtain⟨e,hu,FV⟩:=iH ht
 obtain⟨i,d,zz,hi,hd,FQ,rfl,rfl,rfl,rfl⟩:=gU FV
 have nD:=run_make (P:=P) w t e i zz hu hi FQ kl kc l c hl hlc (by rw[Int.mul_comm];exact hb) hc
 have BH:i.size=zz.cells.size:=by rw[R7,dT]
 rw[BH] at nD Ci
 have ZU:(madeCells zz.cells (c.toNat*zz.cells.size)).toList=cG c.toNat (aL zz):=by rw[Gk _ _ Ci,fB]
 have agB:(madeCells zz.cells (c.toNat*zz.cells.size)).size=c.toNat*(aL zz).length:=by rw[size_madeCells,dT]
 have Tn:1≤(aL zz).length:=by rw[←dT];exact Ci
 have hA:=tW hR hf (w':=w.alloc (.cells (madeCells zz.cells (c.toNat*zz.cells.size)) e)) (arr:=madeCells zz.cells (c.toNat*zz.cells.size)) (e:=e) (fz:=(0,0)) rfl ⟨rfl,rfl,rfl⟩
  (cs:=cG c.toNat (aL zz)) (eR:=(aL zz).length) (O9:=false) (by rw[agB,rV];exact Nat.le_refl _) (fun j hj=>by
   have:=(tJ (m:=m) c.toNat Pv Tn).2 j hj
   rwa [←xA,ZU]) (Ok _ EI Tn) (fun j _ h=>by simp at h)
 refine cA.value nD ?_ hA.1 (hA.2 lo)
 exact .slice _ 0 _ _ _ _ _ (bO m _ _) (by omega) (Nat.le_refl _) (fun _=>rfl) (.inr ⟨rfl,by simp only[agB];omega⟩)
theorem Wo {t:TypeId} {agg:Bool} {size nb lo n:Nat} {z cs:List Value} {parts:List (Nat×Operand)} {ρ:Env} {a:Act} (ht:iP P t=some (agg,size,z,nb)) (EI:z.all fS=true) (Pv:z.all jI=true) (R7:size=z.length) (Ci:1≤size) (hn:n*size≤16777216)
  (Zg:tB ((List.range n).map fun i=>(i*z.length,z.length)) (cG n z) (parts.map fun(i,x)=>(i,ev ρ x))=some cs) (AI:cs.all fS=true) (hr:∀p∈parts,RV m (ev ρ p.2) (a.eval p.2))
  (hR:Rel m L0 H w) (hf:m H.length=none) :
  cA P (do pure (.value (←Instr.buildSlice t n (parts.toArray.map fun(i,x)=>(i,a.eval x))))) L0 lo m H w (.slice (some ⟨H.length,0,none⟩) n n) (H++[.row cs z.length false]):=by
 obtain⟨e,hu,FV⟩:=iH ht
 obtain⟨i,d,zz,hi,hd,FQ,rfl,rfl,rfl,rfl⟩:=gU FV
 have BH:i.size=zz.cells.size:=by rw[R7,dT]
 have Tn:1≤(aL zz).length:=by rw[←dT,←BH];exact Ci
 have Jq:∀j q,((List.range n).map fun i=>(i*(aL zz).length,(aL zz).length))[j]? = some q→(fun i'=>some (i'*i.size,i.size):Nat→Option (Nat×Nat)) j=some q:=by
  intro j q hj
  simp only[List.getElem?_map,Option.map_eq_some_iff] at hj
  obtain⟨k,hk,rfl⟩:=hj
  have Za:=(List.getElem?_eq_some_iff.1 hk)
  obtain⟨hk1,XS⟩:=Za
  simp at XS
  subst XS
  rw[←R7]
 have hz:RL m (cG n (aL zz)) ((Array.range (n*i.size)).map (zz.cells[· % zz.cells.size]!)).toList:=by
  have:=tJ (m:=m) n Pv Tn
  rw[BH]
  have e1:=Gk zz.cells n (by rw[←BH];exact Ci)
  rw[fB] at e1
  show RL m _ (madeCells zz.cells (n*zz.cells.size)).toList
  rw[e1]
  exact this
 obtain⟨Il,h1,h2⟩:=Oh (m:=m) _ _ Jq (parts.map fun(i,x)=>(i,ev ρ x)) (parts.map fun(i,x)=>(i,a.eval x)) _ _ cs
  (by simp[Function.comp_def]) (by simpa[Function.comp_def] using RL.map (l:=parts) (f:=fun p=>ev ρ p.2) (g:=fun p=>a.eval p.2) hr) hz Zg
 have hlen:cs.length=n*(aL zz).length:=by rw[Mr _ _ _ _ Zg,rV]
 have emap:(Array.map (fun x:Nat×Operand=>(x.1,a.eval x.2)) parts.toArray).toList=parts.map fun(i,x)=>(i,a.eval x):=by simp
 have Q4:¬(2^24<n*i.size):=by omega
 have nD:(Instr.buildSlice t n (parts.toArray.map fun(i,x)=>(i,a.eval x))).run P w = .ok (.slice (some ⟨w.heap.size,0,none⟩) n n) (w.alloc (.cells Il e)):=by
  have TE:Instr.fill (fun i'=>some (i'*i.size,i.size)) ((Array.range (n*i.size)).map (zz.cells[· % zz.cells.size]!)) (Array.map (fun x:Nat×Operand=>(x.1,a.eval x.2)) parts.toArray).toList=some Il:=by rw[emap];exact h1
  by_cases Uv:n*i.size=0
  ·rw[Uv] at TE
   simp only[show ∀f:Nat→Value,(Array.range 0).map f = #[] from fun f=>by simp] at TE
   unfold Instr.buildSlice
   simp only[Sem.run_bind,run_underlying hu,Result.andThen_ok,run_sizeOf e i hi,Uv,if_true,Sem.run_pure,show ¬(0>2^24) by omega,if_false]
   rw[show ∀f:Nat→Value,(Array.range 0).map f = #[] from fun f=>by simp]
   simp only[TE]
   simp[newRow]
  ·unfold Instr.buildSlice
   simp only[Sem.run_bind,run_underlying hu,Result.andThen_ok,run_sizeOf e i hi,Uv,if_false,Sem.run_pure,gt_iff_lt,Q4,zeroValue,typeInfo,run_program,hi,FQ]
   simp only[TE]
   simp[newRow]
 have hrs:Il.size=n*(aL zz).length:=by rw[←hlen];simpa using h2.1.symm
 have hA:=tW hR hf (w':=w.alloc (.cells Il e)) (arr:=Il) (e:=e) (fz:=(0,0)) rfl ⟨rfl,rfl,rfl⟩ (cs:=cs) (eR:=(aL zz).length) (O9:=false)
  (by rw[hlen,hrs];exact Nat.le_refl _) (fun j hj=>by rw[←xA];exact h2.2 j hj) AI (fun j _ h=>by simp at h)
 refine cA.value nD ?_ hA.1 (hA.2 lo)
 exact .slice _ 0 _ _ _ _ _ (bO m _ _) (Nat.le_refl _) (Nat.le_refl _) (fun _=>rfl) (.inr ⟨rfl,by simp only[hrs];omega⟩)
theorem QW (g:Value→ByteArray→Sem (ForInStep ByteArray)) (hg:∀n s,g (.int .u8 n) s=pure (ForInStep.yield (s.push (UInt8.ofNat n.toNat)))):∀(cs rs:List Value) (bs:List UInt8) (acc:ByteArray),RL m cs rs→rM cs=some bs→∀w,
  (forIn rs acc g).run P w = .ok ⟨(acc.data.toList++bs).toArray⟩ w:=by
 intro cs
 induction cs with
 |
  nil =>
  intro rs bs acc hr hb w
  have e0:rs=[]:=List.eq_nil_of_length_eq_zero hr.1.symm
  subst e0
  cases hb
  simp
 |
  cons c cs ih =>
  intro rs bs acc hr hb w
  cases rs with
  | nil=>exact absurd hr.1 (by simp)
  |
   cons r rs =>
   obtain⟨hc,K8⟩:=hr.iV
   unfold rM at hb
   split at hb
   ·rename_i heq;cases heq
   ·rename_i n rest heq
    cases heq
    cases hc
    cases h2:rM cs with
    | none=>rw[h2] at hb;cases hb
    |
     some bs' =>
     rw[h2] at hb
     cases hb
     simp only[List.forIn_cons,hg,Sem.run_bind,Sem.run_pure,Result.andThen_ok]
     rw[ih rs bs' _ K8 h2 w]
     simp[ByteArray.push]
   ·cases hb
theorem UZ {s d e:TypeId} {rp:Value} {lo n b off c:Nat} {cs:List Value} {bs:List UInt8} (hs:P.underlying s=some (.slice e)) (hd:P.underlying d=some .string) (he:P.underlying e=some (.int .u8))
  (Rg:H.read b off n=some cs) (hb:rM cs=some bs) (hR:Rel m L0 H w) (hp:RV m (.slice (some ⟨b,off,none⟩) n c) rp) :
  cA P (do pure (.value (←convert s d rp))) L0 lo m H w (.string ⟨bs.toArray⟩) H:=by
 cases hp with
 |
  slice _ _ _ _ l ra rc hm hn hc hx ha =>
  obtain⟨rs,h1,h2,_,h3⟩:=vI hR hm Rg
  have aeM:(loadCells ra n).run P w = .ok rs.toArray w:=by
   rcases ha with ha | ⟨rfl,ha⟩
   ·have h0:n=0:=by omega
    subst h0
    have e0:rs=[]:=List.eq_nil_of_length_eq_zero h2
    subst e0
    rfl
   ·rw[←h2]
    exact run_loadCells_list w _ rs h3
  refine cA.value (rv := .string ⟨bs.toArray⟩) (w':=w) (m':=m) ?_ (.str _) hR (Trans.refl lo m H w)
  simp only[convert,Sem.run_bind,run_underlying hs,run_underlying hd,Result.andThen_ok,run_underlying he,Conv.bytesToString,aeM,←Array.forIn_toList]
  rw[QW (P:=P) (m:=m) _ (fun n s=>rfl) cs rs bs ByteArray.empty h1 hb w]
  simp
theorem J8 {t e:TypeId} {i:TypeInfo} (hu:P.underlying t=some (.slice e)) (hi:P.info? e=some i) {a:Option Addr} {n c:Nat} {lo Ch mx:Option Value} {l h k:Nat}
  (hb:(Instr.sliceBounds true n c lo Ch mx).run P w = .ok (l,h,k) w) :
  (Instr.sliceAt t (.slice a n c) lo Ch mx).run P w = .ok (.slice (if k=l then a else a.map (·.add (l*i.size))) (h-l) (k-l)) w:=by
 have h1:(Instr.sliceAt t (.slice a n c) lo Ch mx).run P w=(Instr.slice t (.slice a n c) lo Ch mx).run P w:=by
  unfold Instr.sliceAt
  rw[Sem.run_bind,run_underlying hu,Result.andThen_ok]
 rw[h1]
 unfold Instr.slice
 rw[Sem.run_bind,run_underlying hu,Result.andThen_ok]
 simp[hb,run_sizeOf e i hi]
theorem Vr {t e:TypeId} {i:TypeInfo} {lo:Nat} {x rx v:Value} {l h mx l' h' mx':Option Value} {H':aD} (hu:P.underlying t=some (.slice e)) (hi:P.info? e=some i)
  (hs:AG i.size x l h mx H=some (v,H')) (hx:RV m x rx) (hl:RO m l l') (hh:RO m h h') (hm:RO m mx mx') (hR:Rel m L0 H w) (hf:∀b,H.length≤b→b<H'.length→m b=none) :
  cA P (do pure (.value (←Instr.sliceAt t rx l' h' mx'))) L0 lo m H w v H':=by
 unfold AG at hs
 split at hs
 ·rename_i n c
  split at hs
  ·rename_i h0
   obtain⟨rfl,rfl⟩:=h0
   cases hx
   split at hs
   ·cases hs
   ·rename_i M hM
    split at hs
    ·cases hs
    ·rename_i hb hhb
     split at hs
     ·cases hs
     ·rename_i lb Cy
      cases hs
      have key:∃k1 k2 k3,(Instr.sliceBounds true 0 0 l' h' mx').run P w = .ok (k1,k2,k3) w∧k1=0∧k2=0∧k3=0:=by
       rcases mF (P:=P) hM hm with⟨rfl,rfl,e1⟩ | ⟨_,r1,rfl,rfl,q1,e1⟩<;>rcases mF (P:=P) hhb hh with⟨_,rfl,e2⟩ | ⟨_,r2,_,rfl,q2,e2⟩<;>rcases mF (P:=P) Cy hl with⟨_,rfl,e3⟩ | ⟨_,r3,_,rfl,q3,e3⟩
       ·cases e1;cases e2;cases e3
        exact⟨0,0,0,rfl,rfl,rfl,rfl⟩
       ·cases e1;cases e2
        exact⟨lb,0,0,by simp[Instr.sliceBounds,e3 0 (Nat.le_refl _)],by omega,rfl,rfl⟩
       ·cases e1;cases e3
        exact⟨0,hb,0,by simp[Instr.sliceBounds,e2 0 (Nat.le_refl _)],rfl,by omega,rfl⟩
       ·cases e1
        exact⟨lb,hb,0,by simp[Instr.sliceBounds,e2 0 (Nat.le_refl _),e3 hb (Nat.le_refl _)],by omega,by omega,rfl⟩
       ·cases e2
       ·cases e2
       ·cases e3
        exact⟨0,hb,M,by simp[Instr.sliceBounds,e1 0 (Nat.le_refl _),e2 M (Nat.le_refl _)],rfl,by omega,by omega⟩
       ·exact⟨lb,hb,M,by simp[Instr.sliceBounds,e1 0 (Nat.le_refl _),e2 M (Nat.le_refl _),e3 hb (Nat.le_refl _)],by omega,by omega,by omega⟩
      obtain⟨k1,k2,k3,hk,rfl,rfl,rfl⟩:=key
      exact cA.value (J8 hu hi hk) (by simpa using RV.JG) hR (Trans.refl lo m H w)
  ·cases hs
 ·rename_i b o n c
  cases hx with
  |
   slice _ _ _ _ lc ra rc PG Uu Z7 hxp ha =>
   split at hs
   ·rename_i cells es p Sb
    obtain⟨g1,g2,g3,g4⟩:=hR.row b lc cells es p PG Sb
    split at hs
    ·rename_i JL
     subst JL
     split at hs
     ·cases hs
     ·rename_i M hM
      split at hs
      ·cases hs
      ·rename_i hb hhb
       split at hs
       ·cases hs
       ·rename_i lb Cy
        have key:∃k3,(Instr.sliceBounds true n rc l' h' mx').run P w = .ok (lb,hb,k3) w∧lb≤hb∧hb≤M∧M≤c∧((mx=none∧k3=rc∧M=c)∨(mx.isSome=true∧k3=M)):=by
         rcases mF (P:=P) hM hm with⟨rfl,rfl,e1⟩ | ⟨_,r1,rfl,rfl,q1,e1⟩<;>rcases mF (P:=P) hhb hh with⟨_,rfl,e2⟩ | ⟨_,r2,_,rfl,q2,e2⟩<;>rcases mF (P:=P) Cy hl with⟨_,rfl,e3⟩ | ⟨_,r3,_,rfl,q3,e3⟩
         ·cases e1;cases e2;cases e3
          exact⟨rc,rfl,Nat.zero_le _,Uu,Nat.le_refl _,.inl ⟨rfl,rfl,rfl⟩⟩
         ·cases e1;cases e2
          exact⟨rc,by simp[Instr.sliceBounds,e3 n (Nat.le_refl _)],q3,Uu,Nat.le_refl _,.inl ⟨rfl,rfl,rfl⟩⟩
         ·cases e1;cases e3
          exact⟨rc,by simp[Instr.sliceBounds,e2 rc Z7],Nat.zero_le _,q2,Nat.le_refl _,.inl ⟨rfl,rfl,rfl⟩⟩
         ·cases e1
          exact⟨rc,by simp[Instr.sliceBounds,e2 rc Z7,e3 hb (Nat.le_refl _)],q3,q2,Nat.le_refl _,.inl ⟨rfl,rfl,rfl⟩⟩
         ·cases e2
         ·cases e2
         ·cases e3
          exact⟨M,by simp[Instr.sliceBounds,e1 rc Z7,e2 M (Nat.le_refl _)],Nat.zero_le _,q2,q1,.inr ⟨rfl,rfl⟩⟩
         ·exact⟨M,by simp[Instr.sliceBounds,e1 rc Z7,e2 M (Nat.le_refl _),e3 hb (Nat.le_refl _)],q3,q2,q1,.inr ⟨rfl,rfl⟩⟩
        obtain⟨k3,hk,hlh,hhM,hMc,I2⟩:=key
        have nD:=J8 (a:=some ra) hu hi hk
        have place:k3-lb=0∨((if k3=lb then some ra else (some ra).map (·.add (lb*i.size)))=some (⟨lc.rb,lc.base+(o+lb*i.size),none⟩:Addr)∧lc.base+(o+lb*i.size)+(k3-lb)*lc.eR≤lc.Ls):=by
         by_cases hz:k3-lb=0
         ·exact .inl hz
         ·right
          have hk3:k3≤rc:=by rcases I2 with⟨_,rfl,_⟩ | ⟨_,rfl⟩<;>omega
          rcases ha with ha | ⟨rfl,ha⟩
          ·omega
          ·rw[if_neg (by omega)]
           refine⟨by simp[Addr.add_lit,Nat.add_assoc],?_⟩
           rw[g1] at ha ⊢
           have e1:(k3-lb)*i.size=k3*i.size-lb*i.size:=Nat.sub_mul _ _ _
           have e2:lb*i.size≤k3*i.size:=Nat.mul_le_mul_right _ (by omega)
           have e3:k3*i.size≤rc*i.size:=Nat.mul_le_mul_right _ hk3
           omega
        obtain⟨ra',aeW⟩:∃ra',(if k3=lb then some ra else (some ra).map (·.add (lb*i.size)))=some ra':=by split<;>exact⟨_,rfl⟩
        rw[aeW] at nD
        have ZV:k3-lb=0∨(ra'=⟨lc.rb,lc.base+(o+lb*i.size),none⟩∧lc.base+(o+lb*i.size)+(k3-lb)*lc.eR≤lc.Ls):=by
         rcases place with hp | ⟨hp1,hp2⟩
         ·exact .inl hp
         ·rw[aeW] at hp1
          exact .inr ⟨by injection hp1,hp2⟩
        split at hs
        ·rename_i ajI
         cases hs
         obtain⟨afF,hMl⟩:=ajI
         rcases I2 with⟨rfl,_⟩ | ⟨_,rfl⟩
         ·cases afF
         ·have hA:=SS hR (hf H.length (Nat.le_refl _) (by simp)) PG i.size
          refine cA.value (rv := .slice (some ra') 0 0) (by rw[nD];congr 2<;>omega) ?_ hA.1 (hA.2 lo)
          exact .slice _ 0 0 0 _ _ 0 (bO m _ _) (Nat.le_refl _) (Nat.le_refl _) (fun _=>rfl) (.inl rfl)
        ·cases hs
         refine cA.value nD ?_ hR (Trans.refl lo m H w)
         refine .slice b _ _ _ lc _ _ PG (by omega) ?_ ?_ ZV
         ·rcases I2 with⟨_,rfl,rfl⟩ | ⟨_,rfl⟩<;>omega
         ·intro ho
          have:=hxp ho
          rcases I2 with⟨_,rfl,rfl⟩ | ⟨_,rfl⟩<;>omega
    ·cases hs
   ·cases hs
 ·cases hs
end
end Go.PM
namespace Go.PM
section
variable {P:Program} {m:cQ} {L0:Nat} {H:aD} {w:World}
theorem PX {t:TypeId} {i:TypeInfo} {lo b o:Nat} {v r rp:Value} {H':aD} (hi:P.info? t=some i) (hp:RV m (.pointer (some ⟨b,o,none⟩)) rp) (hv:RV m v r) (hs:(aL v).length=i.size)
  (hw:H.write lo b o (aL v)=some H') (hR:Rel m L0 H w) (gY:L0≤lo) :
  cA P (do Instr.storeAt t rp r;pure .skip) L0 lo m H w undef H':=by
 cases hp with
 |
  ptr _ _ l hm =>
  obtain⟨w',s1,s2,s3⟩:=Cd P hR gY hm hw hv.aL
  refine⟨undef,w',m,.inr ⟨?_,rfl⟩,RV.undef m,s2,s3⟩
  have BH:r.cells.size=i.size:=by rw[dT,←hv.aL.1,hs]
  have h1:(Instr.storeAt t (.pointer (some ⟨l.rb,l.base+o,none⟩)) r).run P w = .ok () w':=by
   show (storeVar t ⟨l.rb,l.base+o,none⟩ r).run P w=_
   unfold storeVar
   simp only[Sem.run_bind,run_sizeOf t i hi,Result.andThen_ok,BH,ne_eq,not_true_eq_false,if_false,fB]
   exact s1
  rw[Sem.run_bind,h1]
  rfl
theorem EH {pv rv:Value} {k:Nat} (h:pO pv=some k) (hr:RV m pv rv):Builtin.lenOf rv=pure k:=by
 unfold pO at h
 split at h
 ·cases h;cases hr<;>rfl
 ·cases h;cases hr;rfl
 ·cases h
theorem Aq (a b:Array Value) (xs:List Value) (h:a.toList=xs) (i:Nat) (hi:i<xs.length):(a++b).getD i undef=xs.getD i undef:=by
 subst h
 have:i<a.size:=by simpa using hi
 simp[Array.getD_eq_getD_getElem?,Array.getElem?_append_left this,List.getD_eq_getElem?_getD]
theorem VD {t u ty:TypeId} {agg:Bool} {size bytes lo k:Nat} {z:List Value} {d:TypeDesc} {x y rx ry v:Value} {new:List Value} {H':aD} (ht:iP P t=some (agg,size,z,bytes)) (hu:P.underlying u=some d) (hd:IT d=true)
  (hk:pO y=some k) (yQ:iD H size k y=some new) (sO:dJ lo size bytes x k new H=some (v,H')) (hx:RV m x rx) (hy:RV m y ry) (R7:size=z.length)
  (hR:Rel m L0 H w) (gY:L0≤lo) (hf:∀b,H.length≤b→b<H'.length→m b=none) :
  cA P (do pure (.value (←Builtin.append_ #[t,u] ty #[rx,ry]))) L0 lo m H w v H':=by
 obtain⟨e,FV,Mt⟩:=iH ht
 obtain⟨i,de,zz,hi,_,FQ,rfl,rfl,rfl,rfl⟩:=gU Mt
 obtain⟨nM,h1,h2,h3⟩:=Gx yQ hk (Nat.le_refl _) hR hy
 have hl:=EH hk hy
 have Cj:1≤i.bytes:=by
  unfold dJ at sO
  split at sO
  ·rename_i h;exact h.1
  ·cases sO
 have hnl:new.length=k*i.size:=by
  unfold dJ at sO
  split at sO
  ·rename_i h;exact h.2.2.2
  ·cases sO
 obtain⟨rv,w',m',g1,g2,g3,g4⟩:=GL (P:=P) (s:=Builtin.append_ #[t,u] ty #[rx,ry]) (e:=e) sO hR gY hx h1 hf
  (fun a n c w' Hg Aj EP=>by
   subst Hg
   exact L3 FV hu hd hi hl (h3 w rfl) Aj EP)
  (fun Hg hk0=>by
   subst Hg
   subst hk0
   exact Pd FV hu hd hi hl (h3 w rfl))
  (fun base n c Az Hg Wt iC hg hb=>by
   subst Hg
   refine⟨grownCap w (n+k) c e,_,grownCap_ge w _ _ _,Mw FV hu hd hi FQ hl Wt (h3 w.drew rfl) hg Cj hb,?_,?_⟩
   ·have Cl:=grownCap_ge w (n+k) c e
    have G9:nM.length=k*i.size:=by rw[←h1.1,hnl]
    simp only[Array.size_append,List.size_toArray,size_zeroCells,iC,G9]
    rw[←dT] at R7
    rw[←R7,←Nat.add_mul,←Nat.add_mul]
    congr 1
    omega
   ·intro j hj
    exact Aq _ _ _ (by simp) j hj)
 exact cA.value g1 g2 g3 g4
section
variable {t u ty e:TypeId} {ku:IntKind} {i:TypeInfo} {zz:Value} {k:Nat}
theorem Ek {k:Nat} (h:k≤140737488355328):IntKind.i64.wrap (k:Int)=(k:Int):=by rw[IntKind.wrap_i64];omega
theorem JI (ht:P.underlying t=some (.slice e)) (hu:P.underlying u=some (.int ku)) (hi:P.info? e=some i) (FQ:i.zero=some zz) (hk:k≤140737488355328) (JK:k*i.bytes≤140737488355328)
  {a:Addr} {n c:Nat} {w':World} (Aj:n+k≤c) (hz:k*i.size=0→Builtin.zeroCells zz.cells k = #[]) (EP:(storeCells (a.add (n*i.size)) (Builtin.zeroCells zz.cells k).toList).run P w = .ok () w') :
  (Builtin.append_ #[t,u] ty #[.slice (some a) n c,.int .i64 k]).run P w = .ok (.slice (some a) (n+k) c) w':=by
 have h0:¬((k:Int)<0):=by omega
 have hb:¬(281474976710656<(k:Int)*(i.bytes:Int)):=by rw[←Int.natCast_mul];omega
 by_cases Ci:k*i.size=0
 ·rw[hz Ci] at EP
  simp[Builtin.append_,run_underlying ht,run_underlying hu,run_sizeOf e i hi,asInt,asIntOf,Ek hk,typeInfo,hi,h0,hb,Aj,Ci,EP]
 ·simp[Builtin.append_,run_underlying ht,run_underlying hu,run_sizeOf e i hi,asInt,asIntOf,Ek hk,typeInfo,hi,h0,hb,Aj,Ci,zeroValue,FQ,EP]
theorem Mh (ht:P.underlying t=some (.slice e)) (hu:P.underlying u=some (.int ku)) (hi:P.info? e=some i) :
  (Builtin.append_ #[t,u] ty #[.slice none 0 0,.int .i64 (0:Nat)]).run P w = .ok (.slice none 0 0) w:=by
 have hw:IntKind.i64.wrap 0=0:=rfl
 simp[Builtin.append_,run_underlying ht,run_underlying hu,run_sizeOf e i hi,asInt,asIntOf,hw,typeInfo,hi]
theorem JX (ht:P.underlying t=some (.slice e)) (hu:P.underlying u=some (.int ku)) (hi:P.info? e=some i) (FQ:i.zero=some zz) (hk:k≤140737488355328) (JK:k*i.bytes≤140737488355328)
  {base:Option Addr} {n c:Nat} {Az:List Value} (Wt:(Builtin.firstCells i.size n (.slice base n c)).run P w.drew = .ok Az.toArray w.drew) (hz:k*i.size=0→Builtin.zeroCells zz.cells k = #[])
  (hg:c<n+k) (Cj:1≤i.bytes) (Jk:(n+k)*i.bytes≤140737488355328) :
  (Builtin.append_ #[t,u] ty #[.slice base n c,.int .i64 k]).run P w = .ok (.slice (some ⟨w.heap.size,0,none⟩) (n+k) (grownCap w (n+k) c e))
   (w.drew.alloc (.cells (Az.toArray++Builtin.zeroCells zz.cells k++Builtin.zeroCells zz.cells (grownCap w (n+k) c e-(n+k))) e)):=by
 have vG:=growslice_fits (bytes:=i.bytes) hg Jk
 have h0:¬((k:Int)<0):=by omega
 have hb:¬(281474976710656<(k:Int)*(i.bytes:Int)):=by rw[←Int.natCast_mul];omega
 have h1:¬(n+k≤c):=by omega
 have h2:¬(281474976710656<Builtin.nextslicecap (n+k) c*i.bytes):=by omega
 have h4:n+k≤140737488355328:=Nat.le_trans (Nat.le_mul_of_pos_right _ Cj) Jk
 have h3:¬(9223372036854775807<(n:Int)+(k:Int)):=by omega
 by_cases Ci:k*i.size=0
 ·have e0:=hz Ci
  simp[Builtin.append_,run_underlying ht,run_underlying hu,run_sizeOf e i hi,asInt,asIntOf,Ek hk,typeInfo,hi,h0,hb,h1,h2,h3,e0,zeroValue,FQ,Question.forced,Wt,newRow,grownCap]
 ·simp[Builtin.append_,run_underlying ht,run_underlying hu,run_sizeOf e i hi,asInt,asIntOf,Ek hk,typeInfo,hi,h0,hb,h1,h2,h3,Ci,zeroValue,FQ,Question.forced,Wt,newRow,grownCap]
end
theorem S0 {t u ty:TypeId} {agg:Bool} {size bytes lo:Nat} {z:List Value} {ku:IntKind} {n:Int} {x rx v:Value} {H':aD} (ht:iP P t=some (agg,size,z,bytes)) (hu:P.underlying u=some (.int ku))
  (hn:0≤n∧n*bytes≤140737488355328) (sO:dJ lo z.length bytes x n.toNat (cG n.toNat z) H=some (v,H')) (hx:RV m x rx) (R7:size=z.length) (EI:z.all fS=true) (Pv:z.all jI=true) (Ci:1≤z.length)
  (hR:Rel m L0 H w) (gY:L0≤lo) (hf:∀b,H.length≤b→b<H'.length→m b=none) :
  cA P (do pure (.value (←Builtin.append_ #[t,u] ty #[rx,.int .i64 n]))) L0 lo m H w v H':=by
 obtain⟨e,FV,Mt⟩:=iH ht
 obtain⟨i,de,zz,hi,_,FQ,rfl,rfl,rfl,rfl⟩:=gU Mt
 obtain⟨k,rfl⟩:=Int.eq_ofNat_of_zero_le hn.1
 simp only[Int.toNat_natCast] at sO
 have Cj:1≤i.bytes:=by
  unfold dJ at sO
  split at sO
  ·rename_i h;exact h.1
  ·cases sO
 have JK:k*i.bytes≤140737488355328:=by have:=hn.2;omega
 have hk:k≤140737488355328:=Nat.le_trans (Nat.le_mul_of_pos_right _ Cj) JK
 have BH:i.size=zz.cells.size:=by rw[R7,dT]
 have Tn:1≤zz.cells.size:=by rw[dT];exact Ci
 have rH:(Builtin.zeroCells zz.cells k).toList=cG k (aL zz):=by rw[En _ _ Tn,fB]
 have ahG:k*i.size=0→Builtin.zeroCells zz.cells k = #[]:=by
  intro h0
  apply Array.ext'
  rw[rH]
  exact List.eq_nil_of_length_eq_zero (by rw[rV,←R7];exact h0)
 obtain⟨rv,w',m',g1,g2,g3,g4⟩:=GL (P:=P) (s:=Builtin.append_ #[t,u] ty #[rx,.int .i64 k]) (e:=e) (nM:=cG k (aL zz)) sO hR gY hx (tJ k Pv Ci) hf
  (fun a n c w' Hg Aj EP=>by
   subst Hg
   exact JI FV hu hi FQ hk JK Aj ahG (by rw[rH,R7];exact EP))
  (fun Hg hk0=>by
   subst Hg
   subst hk0
   exact Mh FV hu hi)
  (fun base n c Az Hg Wt iC hg hb=>by
   subst Hg
   refine⟨grownCap w (n+k) c e,_,grownCap_ge w _ _ _,JX FV hu hi FQ hk JK (by rw[R7];exact Wt) ahG hg Cj hb,?_,?_⟩
   ·have Cl:=grownCap_ge w (n+k) c e
    simp only[Array.size_append,List.size_toArray,size_zeroCells,iC,dT]
    rw[←Nat.add_mul,←Nat.add_mul]
    congr 1
    omega
   ·intro j hj
    exact Aq _ _ _ (by simp[rH]) j hj)
 exact cA.value g1 g2 g3 g4
theorem TZ {t ty:TypeId} {ts:List TypeId} {agg:Bool} {size bytes lo b o d c k:Nat} {z new:List Value} {y rx ry:Value} {H':aD} (ht:iP P t=some (agg,size,z,bytes))
  (hk:pO y=some k) (yQ:iD H size (Nat.min k d) y=some new) (hw:H.write lo b o new=some H') (hx:RV m (.slice (some ⟨b,o,none⟩) d c) rx) (hy:RV m y ry)
  (hR:Rel m L0 H w) (gY:L0≤lo) :
  cA P (do pure (.value (←Builtin.copy_ (t::ts).toArray ty #[rx,ry]))) L0 lo m H w (.int .i64 (Nat.min k d)) H':=by
 obtain⟨e,FV,Mt⟩:=iH ht
 obtain⟨i,de,zz,hi,_,FQ,rfl,rfl,rfl,rfl⟩:=gU Mt
 obtain⟨nM,h1,h2,h3⟩:=Gx (P:=P) yQ hk (Nat.min_le_left _ _) hR hy
 have hl:=EH hk hy
 cases hx with
 |
  slice _ _ _ _ l ra rc hm hn hc hxp ha =>
  rcases ha with ha | ⟨rfl,ha⟩
  ·have Bj:d=0:=by omega
   subst Bj
   have YN:Nat.min k 0=0:=Nat.min_zero k
   rw[YN] at yQ h3 ⊢
   have rH:new=[]:=by
    have:nM.length=new.length:=h1.1.symm
    unfold iD at yQ
    split at yQ
    ·obtain⟨_,_,_,_,_,_,hlen⟩:=KH yQ
     exact List.eq_nil_of_length_eq_zero (by simpa using hlen)
    ·split at yQ
     ·cases yQ;rfl
     ·cases yQ
    ·split at yQ
     ·cases yQ;simp
     ·cases yQ
    ·cases yQ
   subst rH
   have hrn:nM=[]:=List.eq_nil_of_length_eq_zero h1.1.symm
   subst hrn
   have hHH:H'=H:=by
    obtain⟨cs,e',p',q1,q2,q3,q4,rfl⟩:=zZ hw
    apply List.ext_getElem?
    intro j
    by_cases hj:b=j
    ·subst hj
     rw[List.getElem?_set_self (List.getElem?_eq_some_iff.1 q1).1,q1]
     simp[gW]
    ·rw[List.getElem?_set_ne hj]
   rw[hHH]
   refine cA.value (rv := .int .i64 0) (w':=w) ?_ (.int _ _) hR (Trans.refl lo m _ w)
   have ZP:=h3 w rfl
   simp[Builtin.copy_,run_underlying FV,hl,run_sizeOf e i hi,goInt,ZP,storeCells]
  ·obtain⟨w',s1,s2,s3⟩:=Cd P hR gY hm hw h1
   refine cA.value (rv := .int .i64 (Nat.min k d)) ?_ (.int _ _) s2 s3
   have ZP:=h3 w rfl
   unfold Builtin.copy_
   simp only[List.getElem?_toArray,List.getElem?_cons_zero,List.getElem?_cons_succ,Sem.run_bind,run_underlying FV,Result.andThen_ok,hl,Sem.run_pure,run_sizeOf e i hi]
   rw[ZP]
   simp only[Result.andThen_ok,s1,goInt]
theorem Qg {t ty e:TypeId} {ts:List TypeId} {i:TypeInfo} {zz:Value} {lo b o n c:Nat} {rx:Value} {H':aD} (FV:P.underlying t=some (.slice e)) (hi:P.info? e=some i) (FQ:i.zero=some zz)
  (Uv:n≠0) (hw:H.write lo b o (cG n (aL zz))=some H') (hx:RV m (.slice (some ⟨b,o,none⟩) n c) rx) (Pv:(aL zz).all jI=true) (Ci:1≤(aL zz).length) (hR:Rel m L0 H w) (gY:L0≤lo) :
  cA P (do pure (.value (←Builtin.clear_ (t::ts).toArray ty #[rx]))) L0 lo m H w undef H':=by
 cases hx with
 |
  slice _ _ _ _ l ra rc hm hn hc hxp ha =>
  rcases ha with ha | ⟨rfl,ha⟩
  ·omega
  ·obtain⟨w',s1,s2,s3⟩:=Cd P hR gY hm hw (tJ n Pv Ci)
   have rH:(Builtin.zeroCells zz.cells n).toList=cG n (aL zz):=by rw[En _ _ (by rw[dT];exact Ci),fB]
   refine cA.value (rv:=undef) ?_ (RV.undef m) s2 s3
   rw[←rH] at s1
   obtain⟨n',rfl⟩:∃n',n=n'+1:=⟨n-1,by omega⟩
   simp[Builtin.clear_,run_underlying FV,zeroValue,typeInfo,hi,FQ,s1,undef]
theorem Gn {t ty e:TypeId} {ts:List TypeId} {lo c:Nat} {a:Option Addr} {rx:Value} (FV:P.underlying t=some (.slice e)) (hx:RV m (.slice a 0 c) rx) (hR:Rel m L0 H w) :
  cA P (do pure (.value (←Builtin.clear_ (t::ts).toArray ty #[rx]))) L0 lo m H w undef H:=by
 refine cA.value (rv:=undef) (w':=w) ?_ (RV.undef m) hR (Trans.refl lo m _ w)
 cases hx<;>simp[Builtin.clear_,run_underlying FV,undef]
end
end Go.PM
namespace Go.PM
section
variable {P:Program} {m:cQ} {L0:Nat} {H:aD} {w:World}
theorem BC {po:lO} {ρ:Env} {v:Value} {H':aD} (h:(gL po ρ).map (Out.val · H)=some (.val v H')):gL po ρ=some v∧H'=H:=by
 cases hp:gL po ρ with
 | none=>rw[hp] at h;cases h
 | some u=>rw[hp] at h;cases h;exact⟨rfl,rfl⟩
def rA:lO→Bool
 | .load .. | .sub .. | .b2s _ | .new _ | .box _ | .make .. | .lit .. | .call .. | .store .. | .app .. | .appz .. | .copy .. | .clear .. | .callv .. => false
 | _=>true
theorem uY {lo:Nat} {po:lO} {ρ:Env} (h:rA po=true):pop lo po ρ H=(gL po ρ).map (.val · H):=by
 cases po<;>first | rfl | cases h
theorem N0 {pv rv:Value} {k:Nat} (size:Nat) (h:pO pv=some k) (hr:RV m pv rv):(Builtin.firstCells size 0 rv).run P w = .ok #[] w:=by
 unfold pO at h
 split at h
 ·cases hr
  ·rfl
  ·simp only[Builtin.firstCells,Nat.zero_mul]
   rfl
 ·cases hr
  simp[Builtin.firstCells]
 ·cases h
theorem R5 {o:Oper} {po:lO} {ρ:Env} {a:Act} {lo:Nat} {v:Value} {H':aD} (hp:nQ P o.op=some po) (hv:pop lo po ρ H=some (.val v H')) (hr:∀x∈o.op.operands,RV m (ev ρ x) (a.eval x))
  (hR:Rel m L0 H w) (gY:L0≤lo) (hf:∀b,H.length≤b→b<H'.length→m b=none):cA P (execOp a.eval o) L0 lo m H w v H':=by
 by_cases hJ:rA po=true
 ·rw[uY hJ] at hv
  obtain⟨h1,rfl⟩:=BC hv
  obtain⟨rv,h2,h3⟩:=Xu hp h1 hr
  exact⟨rv,w,m,.inl (h3 w),h2,hR,Trans.refl lo m _ w⟩
 obtain⟨dst,op,type,pos,after,guard⟩:=o
 unfold nQ at hp
 simp only at hp hr ⊢
 split at hp
 case isFalse=>cases hp
 cases op with
 | move x=>cases hp;exact absurd rfl hJ
 | assign x=>cases hp;exact absurd rfl hJ
 | pick c x y=>cases hp;exact absurd rfl hJ
 |
  binOp op t x y yt =>
  unfold zI at hp
  simp only at hp
  split at hp
  ·cases hp;exact absurd rfl hJ
  ·cases hp;exact absurd rfl hJ
  ·split at hp<;>first | (cases hp;done) | (cases hp;exact absurd rfl hJ)
  ·split at hp<;>first | (cases hp;done) | (split at hp<;>first | (cases hp;done) | (cases hp;exact absurd rfl hJ))
  ·split at hp<;>first | (cases hp;done) | (cases hp;exact absurd rfl hJ)
  ·cases hp
 | unOp op t x=>cases hp;exact absurd rfl hJ
 | extract x i=>cases hp;exact absurd rfl hJ
 |
  convert s d x =>
  have hx:=hr x (by simp[Op.operands])
  simp only at hp
  split at hp
  ·cases hp;exact absurd rfl hJ
  ·cases hp;exact absurd rfl hJ
  ·rename_i e hs hd
   split at hp
   ·rename_i he
    cases hp
    simp only[pop] at hv
    split at hv
    ·rename_i n c Tj
     cases hv
     rw[Tj] at hx
     show cA P (do pure (.value (←convert s d (a.eval x)))) L0 lo m H w _ H
     generalize a.eval x=rx at hx ⊢
     cases hx
     refine cA.value (rv := .string ByteArray.empty) ?_ (.str _) hR (Trans.refl lo m _ w)
     simp[convert,run_underlying hs,run_underlying hd,run_underlying he,Conv.bytesToString]
    ·rename_i b o n c Tj
     split at hv
     ·rename_i cs K8
      cases hb:rM cs with
      | none=>rw[hb] at hv;cases hv
      |
       some bs =>
       rw[hb] at hv
       cases hv
       rw[Tj] at hx
       exact UZ hs hd he K8 hb hR hx
     ·cases hv
    ·cases hv
   ·cases hp
  ·cases hp
 |
  field t x i =>
  simp only at hp
  split at hp
  ·split at hp
   ·rename_i f hf'
    cases ht:kL P f.type with
    | none=>rw[ht] at hp;cases hp
    | some q=>rw[ht] at hp;cases hp;exact absurd rfl hJ
   ·cases hp
  ·cases hp
 |
  build t parts =>
  simp only at hp
  split at hp
  ·split at hp
   ·split at hp
    ·cases hp;exact absurd rfl hJ
    ·cases hp
   ·cases hp
  ·cases hp
 | nilCheck x=>cases hp;exact absurd rfl hJ
 |
  fieldAddr t x i =>
  simp only at hp
  split at hp
  ·split at hp
   ·split at hp
    ·split at hp
     ·cases hp
     ·cases hp;exact absurd rfl hJ
    ·cases hp
   ·cases hp
  ·cases hp
 |
  indexAddr t x i =>
  simp only at hp
  cases ht:iP P t with
  | none=>rw[ht] at hp;cases hp
  | some q=>rw[ht] at hp;cases hp;exact absurd rfl hJ
 |
  index t x i =>
  simp only at hp
  split at hp
  ·cases hp;exact absurd rfl hJ
  ·cases hp
 |
  slice t x AJ hi mx =>
  have hx:=hr x (by simp[Op.operands])
  simp only at hp
  split at hp
  ·split at hp
   ·cases hp;exact absurd rfl hJ
   ·cases hp
  ·rename_i e hu
   cases ht:kL P e with
   | none=>rw[ht] at hp;cases hp
   |
    some q =>
    obtain⟨agg,size,z,nb⟩:=q
    rw[ht] at hp
    cases hp
    obtain⟨i,d,zz,Ch,_,_,rfl,rfl,rfl,rfl⟩:=gU ht
    simp only[pop] at hv
    cases hs:AG i.size (ev ρ x) (AJ.map (ev ρ)) (hi.map (ev ρ)) (mx.map (ev ρ)) H with
    | none=>rw[hs] at hv;cases hv
    |
     some q =>
     obtain⟨u,H1⟩:=q
     rw[hs] at hv
     cases hv
     exact Vr hu Ch hs hx (RO.map fun y hy=>hr y (by simp[Op.operands,hy])) (RO.map fun y hy=>hr y (by simp[Op.operands,hy])) (RO.map fun y hy=>hr y (by simp[Op.operands,hy])) hR hf
  ·cases hp
 |
  makeFunc fn first fA =>
  cases fn with
  |
   func f =>
   simp only at hp
   split at hp
   ·cases hp;exact absurd rfl hJ
   ·cases hp
  | _=>cases hp
 | makeInterface t x=>cases hp;exact absurd rfl hJ
 | panic x=>cases hp;exact absurd rfl hJ
 |
  load t p =>
  have hx:=hr p (by simp[Op.operands])
  simp only at hp
  cases ht:kL P t with
  | none=>rw[ht] at hp;cases hp
  |
   some q =>
   obtain⟨agg,size,z,nb⟩:=q
   rw[ht] at hp
   cases hp
   simp only[pop] at hv
   cases hl:lZ agg size (ev ρ p) H with
   | none=>rw[hl] at hv;cases hv
   |
    some u =>
    rw[hl] at hv
    cases hv
    obtain⟨rv,h1,h2⟩:=Kx ht hl hR hx
    exact cA.value h2 h1 hR (Trans.refl lo m _ w)
 |
  store t p x =>
  have ZT:=hr p (by simp[Op.operands])
  have hx:=hr x (by simp[Op.operands])
  simp only at hp
  cases ht:P.info? t with
  | none=>rw[ht] at hp;cases hp
  |
   some i =>
   rw[ht] at hp
   cases hp
   simp only[pop] at hv
   split at hv
   ·rename_i b o hpo
    split at hv
    ·rename_i hs
     cases hw:H.write lo b o (aL (ev ρ x)) with
     | none=>rw[hw] at hv;cases hv
     |
      some H1 =>
      rw[hw] at hv
      cases hv
      rw[hpo] at ZT
      exact PX ht ZT hx hs hw hR gY
    ·cases hv
   ·cases hv
 |
  alloc t =>
  simp only at hp
  split at hp
  ·rename_i agg size z nb ht
   split at hp
   ·rename_i hz
    cases hp
    simp only[Bool.and_eq_true] at hz
    cases hv
    exact W5 ht hz.1 hz.2 hR (hf _ (Nat.le_refl _) (by simp))
   ·cases hp
  ·cases hp
 |
  box t x =>
  have hx:=hr x (by simp[Op.operands])
  cases hp
  simp only[pop] at hv
  split at hv
  ·rename_i hs
   cases hv
   exact UO hx hs hR (hf _ (Nat.le_refl _) (by simp))
  ·cases hv
 |
  makeSlice t l c =>
  have hl:=hr l (by simp[Op.operands])
  have hc:=hr c (by simp[Op.operands])
  simp only at hp
  split at hp
  ·rename_i agg size z nb ht
   split at hp
   ·rename_i hz
    cases hp
    simp only[Bool.and_eq_true,beq_iff_eq,decide_eq_true_eq] at hz
    obtain⟨⟨⟨z1,z2⟩,z3⟩,z4⟩:=hz
    simp only[pop] at hv
    split at hv
    ·rename_i l' c' AO hc'
     split at hv
     ·rename_i hb
      cases hv
      rw[AO] at hl
      rw[hc'] at hc
      show cA P (do pure (.value (←Instr.makeSlice t (a.eval l) (a.eval c)))) L0 lo m H w _ _
      generalize a.eval l=rl at hl ⊢
      generalize a.eval c=rc at hc ⊢
      cases hl
      cases hc
      exact TX ht z1 z2 z3 z4 hb.1 hb.2.1 hb.2.2.1 hb.2.2.2 hR (hf _ (Nat.le_refl _) (by simp))
     ·cases hv
    ·cases hv
   ·cases hp
  ·cases hp
 |
  buildSlice t n parts =>
  simp only at hp
  split at hp
  ·rename_i agg size z nb ht
   split at hp
   ·rename_i hz
    cases hp
    simp only[Bool.and_eq_true,beq_iff_eq,decide_eq_true_eq] at hz
    obtain⟨⟨⟨⟨z1,z2⟩,z3⟩,z4⟩,z5⟩:=hz
    simp only[pop] at hv
    split at hv
    ·rename_i cs K8
     split at hv
     ·rename_i AI
      cases hv
      have:=Wo (P:=P) (w:=w) (lo:=lo) (a:=a) ht z1 z2 z3 z4 z5 K8 AI (fun p hpm=>hr p.2 (by simp only[Op.operands];simp;exact⟨p.1,by simpa using hpm⟩)) hR (hf _ (Nat.le_refl _) (by simp))
      rw[Array.toArray_toList] at this
      exact this
     ·cases hv
    ·cases hv
   ·cases hp
  ·cases hp
 |
  call c =>
  obtain⟨callee,args,ts⟩:=c
  cases callee with
  |
   builtin b =>
   have Pw:∀x∈args,RV m (ev ρ x) (a.eval x):=fun x hx=>hr x (by simpa[Op.operands,Call.operands] using hx)
   simp only at hp
   unfold mK at hp
   split at hp
   ·split at hp<;>first | (cases hp;done) | (cases hp;exact absurd rfl hJ)
   ·split at hp<;>first | (cases hp;done) | (cases hp;exact absurd rfl hJ)
   ·cases hp;exact absurd rfl hJ
   ·cases hp;exact absurd rfl hJ
   ·rename_i x y t u AR vH YU _
    have ea:args = #[x,y]:=Array.toList_inj.1 (by simpa using vH)
    subst ea
    have hx:=Pw x (by simp)
    have hy:=Pw y (by simp)
    have ajN:∃tr,ts=(t::u::tr).toArray:=⟨AR,Array.toList_inj.1 (by simpa using YU)⟩
    obtain⟨tr,rfl⟩:=ajN
    show cA P (do pure (.value (←Builtin.append_ (t::u::tr).toArray type ((#[x,y]:Array Operand).map a.eval)))) L0 lo m H w v H'
    rw[Hs]
    have akV:∀r1 r2,Builtin.append_ (t::u::tr).toArray type #[r1,r2]=Builtin.append_ #[t,u] type #[r1,r2]:=fun r1 r2=>by simp[Builtin.append_]
    rw[akV]
    split at hp
    ·rename_i agg size zero bytes ku ht hu
     split at hp
     ·rename_i hz
      cases hp
      simp only[Bool.and_eq_true,beq_iff_eq,decide_eq_true_eq] at hz
      obtain⟨⟨⟨z1,z2⟩,z3⟩,z4⟩:=hz
      simp only[pop] at hv
      split at hv
      ·rename_i n hn
       split at hv
       ·rename_i hb
        cases sO:dJ lo zero.length bytes (ev ρ x) n.toNat (cG n.toNat zero) H with
        | none=>rw[sO] at hv;cases hv
        |
         some q =>
         obtain⟨u',H1⟩:=q
         rw[sO] at hv
         cases hv
         rw[hn] at hy
         generalize a.eval y=ry at hy ⊢
         cases hy
         exact S0 ht hu hb sO hx z4 z1 z2 z3 hR gY hf
       ·cases hv
      ·cases hv
     ·cases hp
    ·rename_i agg size zero bytes d _ ht hu
     split at hp
     ·rename_i hd
      split at hp
      ·rename_i R7
       cases hp
       simp only[pop] at hv
       split at hv
       ·rename_i k hk
        split at hv
        ·rename_i new rH
         cases sO:dJ lo size bytes (ev ρ x) k new H with
         | none=>rw[sO] at hv;cases hv
         |
          some q =>
          obtain⟨u',H1⟩:=q
          rw[sO] at hv
          cases hv
          exact VD ht hu hd hk rH sO hx hy (by simpa using R7) hR gY hf
        ·cases hv
       ·cases hv
      ·cases hp
     ·cases hp
    ·cases hp
   ·rename_i x y t AR vH YU _
    have ea:args = #[x,y]:=Array.toList_inj.1 (by simpa using vH)
    have et:ts=(t::AR).toArray:=Array.toList_inj.1 (by simpa using YU)
    subst ea;subst et
    have hx:=Pw x (by simp)
    have hy:=Pw y (by simp)
    show cA P (do pure (.value (←Builtin.copy_ (t::AR).toArray type ((#[x,y]:Array Operand).map a.eval)))) L0 lo m H w v H'
    rw[Hs]
    split at hp
    ·rename_i agg size zero bytes ht
     cases hp
     simp only[pop] at hv
     split at hv
     ·rename_i n c k Tj hk
      cases hv
      rw[Tj] at hx
      generalize a.eval x=rx at hx ⊢
      cases hx
      obtain⟨e,FV,Mt⟩:=iH ht
      obtain⟨i,de,zz,hi,_,FQ,_,_,_,_⟩:=gU Mt
      refine cA.value (rv := .int .i64 0) (w':=w) ?_ (.int _ _) hR (Trans.refl lo m _ w)
      have hl:=EH hk hy
      have ZP:=N0 (P:=P) (w:=w) i.size hk hy
      simp[Builtin.copy_,run_underlying FV,hl,run_sizeOf e i hi,goInt,ZP]
     ·rename_i b o d c k Tj hk
      split at hv
      ·rename_i new rH
       cases hw:H.write lo b o new with
       | none=>rw[hw] at hv;cases hv
       |
        some H1 =>
        rw[hw] at hv
        cases hv
        rw[Tj] at hx
        exact TZ ht hk rH hw hx hy hR gY
      ·cases hv
     ·cases hv
    ·cases hp
   ·rename_i x t AR vH YU _
    have ea:args = #[x]:=Array.toList_inj.1 (by simpa using vH)
    have et:ts=(t::AR).toArray:=Array.toList_inj.1 (by simpa using YU)
    subst ea;subst et
    have hx:=Pw x (by simp)
    show cA P (do pure (.value (←Builtin.clear_ (t::AR).toArray type ((#[x]:Array Operand).map a.eval)))) L0 lo m H w v H'
    rw[L7]
    split at hp
    ·rename_i agg size zero bytes ht
     split at hp
     ·rename_i hz
      cases hp
      simp only[Bool.and_eq_true,beq_iff_eq,decide_eq_true_eq] at hz
      obtain⟨⟨⟨z1,z2⟩,z3⟩,z4⟩:=hz
      obtain⟨e,FV,Mt⟩:=iH ht
      obtain⟨i,de,zz,hi,_,FQ,rfl,rfl,rfl,rfl⟩:=gU Mt
      simp only[pop] at hv
      split at hv
      ·rename_i n c Tj
       cases hv
       rw[Tj] at hx
       generalize a.eval x=rx at hx ⊢
       cases hx
       exact Gn FV .JG hR
      ·rename_i b o n c Tj
       rw[Tj] at hx
       split at hv
       ·rename_i Uv
        cases hv
        subst Uv
        exact Gn FV hx hR
       ·rename_i Uv
        cases hw:H.write lo b o (cG n (aL zz)) with
        | none=>rw[hw] at hv;cases hv
        |
         some H1 =>
         rw[hw] at hv
         cases hv
         exact Qg FV hi FQ Uv hw hx z2 z4 hR gY
      ·cases hv
     ·cases hp
    ·cases hp
   ·cases hp
  |
   value f =>
   cases f with
   | func g=>cases hp;cases hv
   |
    tmp t =>
    cases hp
    simp only[pop] at hv
    split at hv<;>cases hv
   | const c=>cases hp
   | global g=>cases hp
  | invoke r s=>cases hp
 | _=>cases hp
def I7 (P:Program) (f:Nat):Prop:=∃fn,P.funcs[f]? = some fn∧(fn.name == "runtime.NumGoroutine")=false∧fn.body.isNone=false
theorem Ey {f:Nat} {args:Array Value} (h:I7 P f):(callFunc f args).run P w = .ok (.enter f args) w:=by
 obtain⟨fn,h1,h2,h3⟩:=h
 unfold callFunc
 rw[Sem.run_bind,run_program,Result.andThen_ok,h1]
 simp[h2,h3]
theorem map_none {α β:Type} {o:Option α} {f:α→β} {x:β} (h:o.map f=some x) (hf:∀y,f y≠x):False:=by
 cases o with
 | none=>cases h
 | some y=>injection h with h;exact hf y h
theorem TY {op:Op} {g:Nat} {as:List Operand} (h:nQ P op=some (.call g as)):∃args ts,op = .call ⟨.value (.func g),args,ts⟩∧as=args.toList:=by
 unfold nQ at h
 split at h
 case isFalse=>cases h
 cases op with
 |
  call c =>
  obtain⟨callee,args,ts⟩:=c
  cases callee with
  |
   builtin b =>
   exfalso
   simp only[mK] at h
   repeat' (split at h)
   all_goals cases h
  |
   value f =>
   cases f with
   | func g'=>cases h;exact⟨args,ts,rfl,rfl⟩
   | _=>cases h
  | invoke r s=>cases h
 |
  _ =>
  exfalso
  dsimp only at h
  try unfold zI at h
  repeat' (split at h)
  all_goals first
   | contradiction
   | (cases h;done)
   | exact map_none h (by intro y h;cases h)
theorem PA {op:Op} {fv:Operand} {as:List Operand} (h:nQ P op=some (.callv fv as)):∃args ts,op = .call ⟨.value fv,args,ts⟩∧as=args.toList:=by
 unfold nQ at h
 split at h
 case isFalse=>cases h
 cases op with
 |
  call c =>
  obtain⟨callee,args,ts⟩:=c
  cases callee with
  |
   builtin b =>
   exfalso
   simp only[mK] at h
   repeat' (split at h)
   all_goals cases h
  |
   value f =>
   cases f with
   | tmp g'=>cases h;exact⟨args,ts,rfl,rfl⟩
   | _=>cases h
  | invoke r s=>cases h
 |
  _ =>
  exfalso
  dsimp only at h
  try unfold zI at h
  repeat' (split at h)
  all_goals first
   | contradiction
   | (cases h;done)
   | exact map_none h (by intro y h;cases h)
theorem qN {po:lO} {ρ:Env} {lo f:Nat} {args:List Value} (hv:pop lo po ρ H=some (.call f args)):(∃g as,po = .call g as)∨(∃g as,po = .callv g as):=by
 by_cases hJ:rA po=true
 ·rw[uY hJ] at hv
  cases ZT:gL po ρ with
  | none=>rw[ZT] at hv;cases hv
  | some u=>rw[ZT] at hv;cases hv
 cases po<;>first | exact absurd rfl hJ | exact .inl ⟨_,_,rfl⟩ | exact .inr ⟨_,_,rfl⟩ | skip
 all_goals
  exfalso
  simp only[pop] at hv
  repeat' (split at hv)
  all_goals first
   | (cases hv;done)
   | (revert hv;generalize aD.write _ _ _ _ _=q;cases q<;>intro hv<;>cases hv)
   | (revert hv;generalize lZ _ _ _ _=q;cases q<;>intro hv<;>cases hv)
   | (revert hv;generalize AG _ _ _ _ _ _=q;cases q<;>intro hv<;>cases hv)
   | (revert hv;generalize dJ _ _ _ _ _ _ _=q;cases q<;>intro hv<;>cases hv)
   | (revert hv;generalize rM _=q;cases q<;>intro hv<;>cases hv)
theorem Tr {o:Oper} {po:lO} {ρ:Env} {a:Act} {lo f:Nat} {args:List Value} (hp:nQ P o.op=some po) (hv:pop lo po ρ H=some (.call f args)) (hr:∀x∈o.op.operands,RV m (ev ρ x) (a.eval x)) :
  ∃fP,RL m args fP∧(I7 P f→∀w,(execOp a.eval o).run P w = .ok (.enter f fP.toArray) w):=by
 have key:=qN hv
 obtain⟨dst,op,type,pos,after,guard⟩:=o
 simp only at hp hr ⊢
 rcases key with⟨g,as,rfl⟩ | ⟨g,as,rfl⟩
 ·obtain⟨Ad,ts,rfl,rfl⟩:=TY hp
  cases hv
  refine⟨Ad.toList.map a.eval,RL.map fun x hx=>hr x (by simp[Op.operands,Call.operands];right;simpa using hx),fun hc w => ?_⟩
  have e1:(Ad.toList.map a.eval).toArray=Ad.map a.eval:=Array.toList_inj.1 (by rw[Array.toList_map])
  rw[e1]
  have e2:execOp a.eval ⟨dst,.call ⟨.value (.func f),Ad,ts⟩,type,pos,after,guard⟩=callFunc f ((#[]++Ad.map a.eval) ++ #[]):=rfl
  rw[e2,Ey hc]
  simp
 ·obtain⟨Ad,ts,rfl,rfl⟩:=PA hp
  have hg:=hr g (by simp[Op.operands,Call.operands])
  simp only[pop] at hv
  split at hv
  ·rename_i f' first fA hfv
   cases hv
   rw[hfv] at hg
   generalize hrg:a.eval g=rg at hg
   cases hg with
   |
    func fn f1 g1 c1 d1 h1 h2 h3 h4 =>
    refine⟨g1.toList++Ad.toList.map a.eval++d1.toList,((RL.arr h1 h2).append (RL.map fun x hx=>hr x (by simp[Op.operands,Call.operands];right;simpa using hx))).append (RL.arr h3 h4),fun hc w => ?_⟩
    have e1:(g1.toList++Ad.toList.map a.eval++d1.toList).toArray=(g1++Ad.map a.eval)++d1:=by
     apply Array.ext'
     simp
    rw[e1]
    have e2:(execOp a.eval ⟨dst,.call ⟨.value g,Ad,ts⟩,type,pos,after,guard⟩)=(do let d ←Deferred.ofValue (a.eval g) (Ad.map a.eval);invoke d.target d.args):=rfl
    rw[e2,hrg]
    show (callFunc f ((g1++Ad.map a.eval)++d1)).run P w=_
    exact Ey hc
  ·cases hv
end
end Go.PM
namespace Go.PM
section
variable {H:aD}
theorem Sy {lo:Nat} {H':aD} (h:Ext H.length H H'):Ext lo H H' :=
 ⟨h.len,fun b _ hl=>h.low b hl hl,h.liv⟩
theorem GO {lo size bytes add:Nat} {x v:Value} {new:List Value} {H':aD} (h:dJ lo size bytes x add new H=some (v,H')):Ext lo H H':=by
 unfold dJ at h
 split at h
 case isFalse=>cases h
 split at h
 ·split at h
  ·split at h
   ·cases h;exact Ext.refl _ _
   ·split at h
    ·cases h;exact nB _ _ _
    ·cases h
  ·cases h
 ·split at h
  ·split at h
   ·split at h
    ·split at h
     ·cases h;exact Ext.refl _ _
     ·cases hw:aD.write H lo _ _ new with
      | none=>rw[hw] at h;cases h
      | some H1=>rw[hw] at h;cases h;exact B3 hw
    ·split at h
     ·split at h
      ·split at h
       ·rename_i Cy
        cases h
        exact SX Cy
       ·cases h
      ·cases h;exact nB _ _ _
     ·cases h
   ·cases h
  ·cases h
 ·cases h
theorem W4 {lo size:Nat} {x v:Value} {l h' mx:Option Value} {H':aD} (h:AG size x l h' mx H=some (v,H')):Ext lo H H':=by
 unfold AG at h
 repeat' (split at h)
 all_goals first
  | (cases h;done)
  | (cases h;exact Ext.refl _ _)
  | (cases h;exact nB _ _ _)
theorem Rd {lo:Nat} {po:lO} {ρ:Env} {v:Value} {H':aD} (h:pop lo po ρ H=some (.val v H')):Ext lo H H':=by
 by_cases hJ:rA po=true
 ·rw[uY hJ] at h
  obtain⟨_,rfl⟩:=BC h
  exact Ext.refl _ _
 cases po<;>first | exact absurd rfl hJ | skip
 case load agg size p =>
  simp only[pop] at h
  cases hl:lZ agg size (ev ρ p) H with
  | none=>rw[hl] at h;cases h
  | some u=>rw[hl] at h;cases h;exact Ext.refl _ _
 case sub size x l hh mx =>
  simp only[pop] at h
  cases hs:AG size (ev ρ x) (l.map (ev ρ)) (hh.map (ev ρ)) (mx.map (ev ρ)) H with
  | none=>rw[hs] at h;cases h
  |
   some q =>
   obtain⟨u,H1⟩:=q
   rw[hs] at h;cases h;exact W4 hs
 case b2s x =>
  simp only[pop] at h
  split at h
  ·cases h;exact Ext.refl _ _
  ·split at h
   ·rename_i cs _
    cases hb:rM cs with
    | none=>rw[hb] at h;cases h
    | some bs=>rw[hb] at h;cases h;exact Ext.refl _ _
   ·cases h
  ·cases h
 case new z=>cases h;exact nB _ _ _
 case box x =>
  simp only[pop] at h
  split at h
  ·cases h;exact nB _ _ _
  ·cases h
 case make z b l c =>
  simp only[pop] at h
  split at h
  ·split at h
   ·cases h;exact nB _ _ _
   ·cases h
  ·cases h
 case lit z n parts =>
  simp only[pop] at h
  split at h
  ·split at h
   ·cases h;exact nB _ _ _
   ·cases h
  ·cases h
 case call f args=>cases h
 case callv f args =>
  simp only[pop] at h
  split at h<;>cases h
 case store size p x =>
  simp only[pop] at h
  split at h
  ·rename_i b o _
   split at h
   ·cases hw:H.write lo b o (aL (ev ρ x)) with
    | none=>rw[hw] at h;cases h
    | some H1=>rw[hw] at h;cases h;exact B3 hw
   ·cases h
  ·cases h
 case app size bytes x y =>
  simp only[pop] at h
  split at h
  ·rename_i n _
   split at h
   ·rename_i new _
    cases ha:dJ lo size bytes (ev ρ x) n new H with
    | none=>rw[ha] at h;cases h
    |
     some q =>
     obtain⟨u,H1⟩:=q
     rw[ha] at h;cases h;exact GO ha
   ·cases h
  ·cases h
 case appz z bytes x n =>
  simp only[pop] at h
  split at h
  ·rename_i k _
   split at h
   ·cases ha:dJ lo z.length bytes (ev ρ x) k.toNat (cG k.toNat z) H with
    | none=>rw[ha] at h;cases h
    |
     some q =>
     obtain⟨u,H1⟩:=q
     rw[ha] at h;cases h;exact GO ha
   ·cases h
  ·cases h
 case copy size x y =>
  simp only[pop] at h
  split at h
  ·cases h;exact Ext.refl _ _
  ·rename_i b o d _ s _ _
   split at h
   ·rename_i new _
    cases hw:H.write lo b o new with
    | none=>rw[hw] at h;cases h
    | some H1=>rw[hw] at h;cases h;exact B3 hw
   ·cases h
  ·cases h
 case clear z x =>
  simp only[pop] at h
  split at h
  ·cases h;exact Ext.refl _ _
  ·rename_i b o n _ _
   split at h
   ·cases h;exact Ext.refl _ _
   ·cases hw:H.write lo b o (cG n z) with
    | none=>rw[hw] at h;cases h
    | some H1=>rw[hw] at h;cases h;exact B3 hw
  ·cases h
def pA (call:fD):Prop:=∀f args lo H v H',call f args lo H=some (v,H')→Ext lo H H'
theorem HT {call:fD} (hc:pA call) {lo:Nat} {i:PI} {ρ:Env} {v:Value} {H':aD} (h:wA call lo i ρ H=some (v,H')):Ext lo H H':=by
 unfold wA at h
 split at h
 ·cases h
 ·cases h;exact Ext.refl _ _
 ·split at h
  ·split at h
   ·rename_i hp
    cases h
    exact Rd hp
   ·rename_i f args _
    have:=hc _ _ _ _ _ _ h
    split at this
    ·exact Sy this
    ·exact this
   ·cases h
  ·cases h
theorem vP {call:fD} {lo:Nat} {i:PI} {ρ aU:Env} {H':aD} (h:vD call lo i ρ H=some (aU,H')):∃v,wA call lo i ρ H=some (v,H')∧aU=put ρ i.dst v:=by
 unfold vD at h
 split at h
 ·rename_i v H1 hv
  cases h
  exact⟨v,hv,rfl⟩
 ·cases h
theorem E8 {call:fD} (hc:pA call) {lo:Nat} {i:PI} {ρ aU:Env} {H':aD} (h:vD call lo i ρ H=some (aU,H')):Ext lo H H':=by
 obtain⟨v,h1,_⟩:=vP h
 exact HT hc h1
theorem IH {call:fD} (hc:pA call) {lo:Nat}:∀(is:List PI) {ρ aU:Env} {H H':aD},fW call lo is ρ H=some (aU,H')→Ext lo H H'
 | [],ρ,aU,H,H',h=>by cases h;exact Ext.refl _ _
 |
  i::is,ρ,aU,H,H',h=>by
  rw[fW] at h
  split at h
  ·rename_i h1
   exact(E8 hc h1).trans (IH hc is h)
  ·cases h
theorem ES {lo:Nat} {body:Env→aD→Option (Ex×Env×aD)} (hb:∀ρ H x aU H',body ρ H=some (x,aU,H')→Ext lo H H'):∀(n:Nat) {ρ aU:Env} {H H':aD} {x:Ex},vS body n ρ H=some (x,aU,H')→Ext lo H H'
 | 0,_,_,_,_,_,h=>by cases h
 |
  n+1,ρ,aU,H,H',x,h=>by
  rw[vS] at h
  split at h
  ·rename_i h1
   exact(hb _ _ _ _ _ h1).trans (ES hb n h)
  ·exact hb _ _ _ _ _ h
theorem iK {call:fD} (hc:pA call) {lo n:Nat}:∀(c:aF) {ρ aU:Env} {H H':aD} {x:Ex},cR call lo n c ρ H=some (x,aU,H')→Ext lo H H'
 | .skip,_,_,_,_,_,h=>by cases h;exact Ext.refl _ _
 |
  .dU ops,ρ,aU,H,H',x,h=>by
  rw[cR] at h
  cases hp:fW call lo ops ρ H with
  | none=>rw[hp] at h;cases h
  |
   some q =>
   obtain⟨tZ,H1⟩:=q
   rw[hp] at h;cases h
   exact IH hc ops hp
 |
  .seq a b,ρ,aU,H,H',x,h=>by
  rw[cR] at h
  split at h
  ·rename_i h1
   exact(iK hc a h1).trans (iK hc b h)
  ·exact iK hc a h
 |
  .cond c a b,ρ,aU,H,H',x,h=>by
  rw[cR] at h
  split at h
  ·split at h
   ·exact iK hc a h
   ·exact iK hc b h
  ·cases h
 |
  .block id a,ρ,aU,H,H',x,h=>by
  rw[cR] at h
  split at h
  ·rename_i h1
   split at h<;>(cases h;exact iK hc a h1)
  ·exact iK hc a h
 |
  .loop a,ρ,aU,H,H',x,h=>by
  rw[cR] at h
  exact ES (fun ρ H x aU H' h=>iK hc a h) n h
 | .exit id,_,_,_,_,_,h=>by cases h;exact Ext.refl _ _
 | .ret,_,_,_,_,_,h=>by cases h;exact Ext.refl _ _
theorem B1 (E:xS) (T:Xr):∀n,pA (kO E T n)
 | 0=>fun _ _ _ _ _ _ h=>by cases h
 |
  n+1=>fun f args lo H v H' h=>by
  rw[kO] at h
  split at h
  ·rename_i p _
   cases hp:p args H with
   | none=>rw[hp] at h;cases h
   | some u=>rw[hp] at h;cases h;exact Ext.refl _ _
  ·split at h
   ·cases h
   ·rename_i pf _
    split at h
    ·split at h
     ·rename_i tZ H1 h1
      cases hr:oH pf.res tZ H1 with
      | none=>rw[hr] at h;cases h
      | some u=>rw[hr] at h;cases h;exact iK (B1 E T n) _ h1
     ·rename_i tZ H1 h1
      cases hr:oH pf.res tZ H1 with
      | none=>rw[hr] at h;cases h
      | some u=>rw[hr] at h;cases h;exact iK (B1 E T n) _ h1
     ·cases h
    ·cases h
end
end Go.PM
namespace Go.PM
theorem BX {α β:Type} {f:α→Option β}:∀ {l:List α} {ys:List β},l.mapM f=some ys→ys.length=l.length∧∀i (h:i<l.length),f l[i]=ys[i]?
 |
  [],ys,h=>by
  simp at h
  subst h
  exact⟨rfl,fun i h=>absurd h (by simp)⟩
 |
  x::l,ys,h=>by
  simp only[List.mapM_cons,Option.pure_def,Option.bind_eq_bind] at h
  cases h1:f x with
  | none=>rw[h1] at h;cases h
  |
   some y =>
   rw[h1] at h
   cases h2:l.mapM f with
   | none=>rw[h2] at h;cases h
   |
    some zs =>
    rw[h2] at h
    cases h
    obtain⟨k1,k2⟩:=BX h2
    refine⟨by simp[k1],fun i hi => ?_⟩
    cases i with
    | zero=>simpa using h1
    | succ i=>simpa using k2 i (by simpa using hi)
theorem Oz {α β:Type} {f:α→Option β} {l:List α} {ys:List β} (h:l.mapM f=some ys) {i:Nat} {x:α} (hx:l[i]? = some x):∃y,ys[i]? = some y∧f x=some y:=by
 obtain⟨h1,h2⟩:=BX h
 obtain⟨aX,rfl⟩:=List.getElem?_eq_some_iff.1 hx
 have Io:i<ys.length:=by omega
 refine⟨ys[i],List.getElem?_eq_getElem Io,?_⟩
 rw[h2 i aX,List.getElem?_eq_getElem Io]
def Cq (E:xS) (ops:List Oper) (M:List Nat) (i j:Nat) (pi pj:lO) (l:List (Operand×Operand)):Prop :=
 match eZ E pi,eZ E pj with
 | .look,.write | .write,.look=>ahead M i j=true∨∃a b,Cs pi=some a∧Cs pj=some b∧Cb ops i j a=true∧(a,b)∈l
 | .write,.write | .quiet,.write | .write,.quiet=>ahead M i j=true
 | _,_=>True
theorem Cq.mono {E:xS} {ops:List Oper} {M:List Nat} {i j:Nat} {pi pj:lO} {l l':List (Operand×Operand)} (h:Cq E ops M i j pi pj l) (hl:∀x∈l,x∈l'):Cq E ops M i j pi pj l':=by
 unfold Cq at h ⊢
 split at h
 all_goals first
  | exact h
  | exact h.imp id fun⟨a,b,h1,h2,h3,h4⟩=>⟨a,b,h1,h2,h3,hl _ h4⟩
theorem HB {E:xS} {ops:List Oper} {ps:List lO} {M:List Nat} {j:Nat} {pj:lO} {l:List (Operand×Operand)} (h:conflicts E ops ps M j pj=some l) :
  ∀i,i<j→∀pi,ps[i]? = some pi→Cq E ops M i j pi pj l:=by
 have key:∀(is:List Nat) (l:List (Operand×Operand)),(is.foldr (fun i acc=>match acc,ps[i]? with
  |
   some l,some pi =>
   match eZ E pi,eZ E pj with
   |
    .look,.write | .write,.look =>
    if ahead M i j then some l
    else match Cs pi,Cs pj with
     | some a,some b=>if Cb ops i j a then some ((a,b)::l) else none
     | _,_=>none
   | .write,.write | .quiet,.write | .write,.quiet=>if ahead M i j then some l else none
   | _,_=>some l
  | _,_=>none) (some []))=some l→∀i∈is,∀pi,ps[i]? = some pi→Cq E ops M i j pi pj l:=by
  intro is
  induction is with
  | nil=>intro l _ i hi;cases hi
  |
   cons i0 is ih =>
   intro l h i hi pi Sx
   rw[List.foldr_cons] at h
   revert h
   generalize akR:is.foldr _ (some [])=acc
   intro h
   cases acc with
   | none=>cases h
   |
    some l0 =>
    have ih':=ih l0 akR
    cases hp0:ps[i0]? with
    | none=>rw[hp0] at h;cases h
    |
     some p0 =>
     rw[hp0] at h
     simp only at h
     have step:(∀x∈l0,x∈l)∧Cq E ops M i0 j p0 pj l:=by
      unfold Cq
      split at h
      ·rename_i c1 c2
       try rw[c1,c2]
       split at h
       ·rename_i ha;cases h;exact⟨fun x hx=>hx,.inl ha⟩
       ·split at h
        ·rename_i a b ta tb
         split at h
         ·rename_i hu;cases h;exact⟨fun x hx=>List.mem_cons_of_mem _ hx,.inr ⟨a,b,ta,tb,hu,List.mem_cons_self⟩⟩
         ·cases h
        ·cases h
      ·rename_i c1 c2
       try rw[c1,c2]
       split at h
       ·rename_i ha;cases h;exact⟨fun x hx=>hx,.inl ha⟩
       ·split at h
        ·rename_i a b ta tb
         split at h
         ·rename_i hu;cases h;exact⟨fun x hx=>List.mem_cons_of_mem _ hx,.inr ⟨a,b,ta,tb,hu,List.mem_cons_self⟩⟩
         ·cases h
        ·cases h
      ·rename_i c1 c2
       try rw[c1,c2]
       split at h
       ·rename_i ha;cases h;exact⟨fun x hx=>hx,ha⟩
       ·cases h
      ·rename_i c1 c2
       try rw[c1,c2]
       split at h
       ·rename_i ha;cases h;exact⟨fun x hx=>hx,ha⟩
       ·cases h
      ·rename_i c1 c2
       try rw[c1,c2]
       split at h
       ·rename_i ha;cases h;exact⟨fun x hx=>hx,ha⟩
       ·cases h
      ·cases h
       refine⟨fun x hx=>hx,?_⟩
       first | trivial | (split<;>first | trivial | (simp_all;done)) | (simp_all;done)
     rcases List.mem_cons.1 hi with rfl | hi
     ·rw[hp0] at Sx
      cases Sx
      exact step.2
     ·exact(ih' i hi pi Sx).mono step.1
 exact fun i hi pi Sx=>key _ l h i (List.mem_range.2 hi) pi Sx
structure Xf (P:Program) (E:xS) (n:Nat) (ops:List Oper) (i:Nat) (o:Oper) (p:lO) (pi:PI):Prop where
 TG:nQ P o.op=some p
 dst:pi.dst=o.dst
 op:pi.op=p
 guard:guardOf ops i o=some pi.g
 bound:∀d,o.dst=some d→d<n
structure L6 (E:xS) (ops:List Oper) (ps:List lO) (M:List Nat) (i:Nat) (o:Oper) (p:lO) (pi:PI):Prop where
 back:∀e∈o.after.toList,Region.binds .any e=true→e.on<i
 guard:∀j w,o.guard=some (j,w)→(M.getD i 0).testBit j=true
 Kn:∀t∈o.dst.toList++tI ops o,∀k ok,ops[k]? = some ok→ok.dst=some t→k=i∨ahead M i k=true
 mask:M.getD i 0=tY o M
 quiet:pi.quiet=(match eZ E p with | .quiet=>true | _=>false)
 afZ:∀k,k<i→∀pk,ps[k]? = some pk→Cq E ops M k i pk p pi.cf
theorem Ny {P:Program} {E:xS} {n:Nat} {ops:List Oper} {ps:List lO} {M:List Nat} {draw:Bool} {i:Nat} {pi:PI} (h:P7 E ops ps M n draw i=some pi) {o:Oper} {p:lO} (ho:ops[i]? = some o) (hp:ps[i]? = some p)
  (Rs:nQ P o.op=some p):Xf P E n ops i o p pi∧(draw=true→L6 E ops ps M i o p pi)∧(draw=false→pi.quiet=false∧pi.cf=[]):=by
 unfold P7 at h
 rw[ho,hp] at h
 simp only at h
 split at h
 case isFalse=>cases h
 rename_i hb
 have hbound:∀d,o.dst=some d→d<n:=by
  intro d hd
  rw[hd] at hb
  simpa[Zs] using hb
 split at h
 ·cases h
 ·rename_i g hg
  cases draw with
  |
   false =>
   simp only[Bool.false_eq_true,if_false] at h
   cases h
   exact⟨⟨Rs,rfl,rfl,hg,hbound⟩,(fun h=>by cases h),fun _=>⟨rfl,rfl⟩⟩
  |
   true =>
   simp only[if_true] at h
   split at h
   case isFalse=>cases h
   rename_i hc
   simp only[Bool.and_eq_true,beq_iff_eq] at hc
   obtain⟨⟨⟨c1,c2⟩,c3⟩,c4⟩:=hc
   cases MR:conflicts E ops ps M i p with
   | none=>rw[MR] at h;cases h
   |
    some cf =>
    rw[MR] at h
    cases h
    refine⟨⟨Rs,rfl,rfl,hg,hbound⟩,fun _=>⟨fun e he XC => ?_,fun j w hj => ?_,fun t ht k ok hk hkd => ?_,c4,rfl,HB MR⟩,(fun h=>by cases h)⟩
    ·have:=List.all_eq_true.1 c1 e he
     simpa[XC] using this
    ·rw[hj] at c2
     exact c2
    ·have h1:=List.all_eq_true.1 c3 t ht
     have Za:k<ops.length:=(List.getElem?_eq_some_iff.1 hk).1
     have h2:=List.all_eq_true.1 h1 k (List.mem_range.2 Za)
     rw[hk] at h2
     simp only[Bool.or_eq_true,bne_iff_ne,ne_eq,beq_iff_eq] at h2
     rcases h2 with(h2 | h2) | h2
     ·exact absurd hkd h2
     ·exact .inl h2
     ·exact .inr h2
structure Zl (P:Program) (E:xS) (n:Nat) (ops:List Oper) (draw:Bool) (qR:List PI) (ps:List lO) (M:List Nat):Prop where
 Eo:ps.length=ops.length
 akD:qR.length=ops.length
 each:∀i o,ops[i]? = some o→∃p pi,ps[i]? = some p∧qR[i]? = some pi∧Xf P E n ops i o p pi∧(draw=true→L6 E ops ps M i o p pi)∧(draw=false→pi.quiet=false∧pi.cf=[])
theorem G5 {P:Program} {E:xS} {n:Nat} {ops:Array Oper} {draw:Bool} {qR:List PI} (h:vZ P E n ops draw=some qR):∃ps M,Zl P E n ops.toList draw qR ps M:=by
 unfold vZ at h
 split at h
 ·rename_i ps hps
  simp only at h
  generalize (if draw=true then Mn ops.toList [] else [])=M at h
  obtain⟨h1,h2⟩:=BX hps
  obtain⟨h3,h4⟩:=BX h
  refine⟨ps,M,h1,by simpa using h3,fun i o ho => ?_⟩
  have aX:=(List.getElem?_eq_some_iff.1 ho).1
  obtain⟨p,hp,Rs⟩:=Oz hps ho
  have hr:(List.range ops.size)[i]? = some i:=by rw[List.getElem?_range];simpa using aX
  obtain⟨pi,Sx,ZT⟩:=Oz h hr
  exact⟨p,pi,hp,Sx,Ny ZT ho hp Rs⟩
 ·cases h
theorem JB {o:Oper} {M:List Nat} {i:Nat} (h:(tY o M).testBit i=true):∃e∈o.after.toList,Region.binds .any e=true∧(e.on=i∨(M.getD e.on 0).testBit i=true):=by
 unfold tY at h
 revert h
 generalize o.after.toList=es
 induction es with
 | nil=>intro h;simp at h
 |
  cons e es ih =>
  intro h
  rw[List.foldr_cons] at h
  split at h
  ·rename_i hb
   rw[Nat.testBit_or,Nat.testBit_or,Bool.or_eq_true,Bool.or_eq_true] at h
   rcases h with(h | h) | h
   ·obtain⟨e',h1,h2⟩:=ih h
    exact⟨e',List.mem_cons_of_mem _ h1,h2⟩
   ·refine⟨e,List.mem_cons_self,hb,.inl ?_⟩
    rw[Nat.testBit_two_pow] at h
    simpa using h
   ·exact⟨e,List.mem_cons_self,hb,.inr h⟩
  ·obtain⟨e',h1,h2⟩:=ih h
   exact⟨e',List.mem_cons_of_mem _ h1,h2⟩
theorem QL {ops:List Oper} {M:List Nat} {S:Nat→Prop} (hb:∀i o,ops[i]? = some o→∀e∈o.after.toList,Region.binds .any e=true→e.on<i) (hm:∀i o,ops[i]? = some o→M.getD i 0=tY o M)
  (hS:∀i o,ops[i]? = some o→S i→∀e∈o.after.toList,Region.binds .any e=true→S e.on):∀j o,ops[j]? = some o→(∀e∈o.after.toList,Region.binds .any e=true→S e.on)→∀i,(M.getD j 0).testBit i=true→S i:=by
 intro j
 induction j using Nat.strongRecOn with
 |
  _ j ih =>
  intro o ho hj i hi
  rw[hm j o ho] at hi
  obtain⟨e,he,XC,h1⟩:=JB hi
  rcases h1 with rfl | h1
  ·exact hj e he XC
  ·have aX:=hb j o ho e he XC
   have hjl:=(List.getElem?_eq_some_iff.1 ho).1
   have hel:e.on<ops.length:=by omega
   exact ih e.on aX ops[e.on] (List.getElem?_eq_getElem hel) (hS e.on _ (List.getElem?_eq_getElem hel) (hj e he XC)) i h1
end Go.PM
namespace Go.PM
def uB (P:Program) (L0:Nat) (call:fD):Prop :=
 ∀f args lo H v H',call f args lo H=some (v,H')→∀m w fP,Rel m L0 H w→L0≤lo→L0≤H.length→RL m args fP→(∀b,H.length≤b→b<H'.length→m b=none) →
  I7 P f∧Calls P f fP.toArray w fun e w'=>∃m' rv,e = .returned rv∧RV m' v rv∧Rel m' L0 H' w'∧Trans lo m H w m' H' w'
section
variable {P:Program} {m:cQ} {L0:Nat} {H:aD} {w:World}
theorem rJ {call:fD} {lo:Nat} {i:PI} {ρ:Env} {v:Value} {H':aD} (h:wA call lo i ρ H=some (v,H')) :
  (wM i.g ρ=some false∧v=undef∧H'=H) ∨
  (wM i.g ρ=some true∧i.cf.all (yF ρ)=true∧(pop lo i.op ρ H=some (.val v H') ∨
   ∃f args,pop lo i.op ρ H=some (.call f args)∧call f args (if i.quiet then H.length else lo) H=some (v,H'))):=by
 unfold wA at h
 split at h
 ·cases h
 ·rename_i hw;cases h;exact .inl ⟨hw,rfl,rfl⟩
 ·rename_i hw
  split at h
  ·rename_i MR
   refine .inr ⟨hw,MR,?_⟩
   split at h
   ·rename_i hp;cases h;exact .inl hp
   ·rename_i f args hp;exact .inr ⟨f,args,hp,h⟩
   ·cases h
  ·cases h
theorem Ts {t:Array Value} {d:Nat} {b:Bool} (h:t.getD d undef = .bool b):t[d]? = some (.bool b):=by
 rcases Nat.lt_or_ge d t.size with hd | hd
 ·simp[hd] at h ⊢
  exact h
 ·simp[Array.getElem?_eq_none hd,undef] at h
theorem Dt {ops:Array Oper} {i:Nat} {o:Oper} {g:Option (Nat×Bool)} {ρ:Env} {a:Act} {t:Bool} (hg:guardOf ops.toList i o=some g) (hw:wM g ρ=some t)
  (hr:∀d∈tI ops.toList o,RV m (ρ d) (a.tmps.getD d undef)):Region.wanted o (yielded ops a.tmps)=t:=by
 unfold guardOf at hg
 unfold Region.wanted
 cases Zi:o.guard with
 |
  none =>
  rw[Zi] at hg
  cases hg
  cases hw
  rfl
 |
  some jw =>
  obtain⟨j,want⟩:=jw
  rw[Zi] at hg
  simp only at hg
  split at hg
  ·split at hg
   ·rename_i d hd
    cases hg
    have Jb:d∈tI ops.toList o:=by
     unfold tI
     rw[Zi]
     simp only[List.mem_append]
     right
     rw[hd]
     simp
    have Rg:=hr d Jb
    simp only[wM] at hw
    split at hw
    ·rename_i b hb
     cases hw
     rw[hb] at Rg
     generalize hx:a.tmps.getD d undef=x at Rg
     cases Rg
     have hy:yielded ops a.tmps j=some b:=by
      unfold yielded
      have UL:(ops[j]?).bind (·.dst)=some d:=by simpa using hd
      rw[UL,Option.bind_some,Ts hx]
     simp only[hy]
     cases b<;>cases want<;>rfl
    ·rename_i vs hb
     cases hw
     rw[hb] at Rg
     generalize hx:a.tmps.getD d undef=x at Rg
     obtain⟨ws,rfl⟩:∃ws,x = .tuple ws:=by cases Rg;exact⟨_,rfl⟩
     have UL:(ops[j]?).bind (·.dst)=some d:=by simpa using hd
     have hy:yielded ops a.tmps j=none:=by
      unfold yielded
      rw[UL,Option.bind_some]
      rcases Nat.lt_or_ge d a.tmps.size with aX | aX
      ·have:a.tmps[d]? = some (.tuple ws):=by rw[←hx];simp[aX]
       rw[this]
      ·rw[Array.getElem?_eq_none aX]
     simp only[hy]
     rfl
    ·cases hw
   ·cases hg
  ·cases hg
theorem Vg {E:xS} {p:lO} {lo AJ:Nat} {ρ:Env} (h:eZ E p = .quiet):pop lo p ρ H=pop AJ p ρ H:=by
 cases p<;>first | rfl | (simp[eZ] at h;done)
theorem CD {ops:List Oper} {o:Oper} {t:Nat} (h:Operand.tmp t∈o.op.operands):t∈tI ops o:=by
 unfold tI tmpsOf
 rw[List.mem_append]
 left
 rw[List.mem_filterMap]
 exact⟨.tmp t,by simpa using h,rfl⟩
theorem II {op:Op} {p:lO} (h:nQ P op=some p):∀x∈op.operands,MI x=true:=by
 intro x hx
 unfold nQ at h
 split at h
 ·rename_i jX
  obtain⟨i,hi,rfl⟩:=Array.getElem_of_mem hx
  exact Array.all_eq_true.1 jX i hi
 ·cases h
theorem Lr {E:xS} {n lo k:Nat} {ops:Array Oper} {o:Oper} {p:lO} {pi:PI} {call:fD} {ρ:Env} {v:Value} {H':aD} {a:Act} {K:Act→World→Prop} {Q:Exit→Act→World→Prop} (ho:ops[k]? = some o) (B5:Xf P E n ops.toList k o p pi)
  (hq:pi.quiet=true→eZ E p = .quiet) (hv:wA call lo pi ρ H=some (v,H')) (hr:∀t∈tI ops.toList o,RV m (ρ t) (a.tmps.getD t undef)) (hR:Rel m L0 H w) (gY:L0≤lo) (hlen:L0≤H.length)
  (hf:∀b,H.length≤b→b<H'.length→m b=none) (lX:uB P L0 call)
  (hK:∀m' rv w',RV m' v rv→Rel m' L0 H' w'→Trans (if pi.quiet then H.length else lo) m H w m' H' w'→K (a.put o.dst rv) w'):wpOp P ops Q k K a w:=by
 have hro:∀x∈o.op.operands,RV m (ev ρ x) (a.eval x):=fun x hx=>Q5 (II B5.TG x hx) fun t ht=>hr t (CD (ht▸hx))
 unfold wpOp
 rw[ho]
 simp only
 rcases rJ hv with⟨hw,rfl,rfl⟩ | ⟨hw,_,hp | ⟨f,args,hp,hc⟩⟩
 ·rw[Dt B5.guard hw hr]
  simp only[Bool.false_eq_true,if_false]
  exact hK m undef w (RV.undef m) hR (Trans.refl _ m _ w)
 ·rw[Dt B5.guard hw hr]
  simp only[if_true]
  left
  rw[B5.op] at hp
  have hs:cA P (execOp a.eval o) L0 (if pi.quiet then H.length else lo) m H w v H':=by
   split
   ·rename_i hqq
    rw[Vg (AJ:=H.length) (hq hqq)] at hp
    exact R5 B5.TG hp hro hR hlen hf
   ·exact R5 B5.TG hp hro hR gY hf
  obtain⟨rv,w',m',nD,h1,h2,h3⟩:=hs
  unfold Oper.wp
  rcases nD with nD | ⟨nD,rfl⟩
  ·rw[nD]
   exact hK m' rv w' h1 h2 h3
  ·rw[nD]
   exact hK m' undef w' h1 h2 h3
 ·rw[Dt B5.guard hw hr]
  simp only[if_true]
  left
  rw[B5.op] at hp
  have aeJ:L0≤(if pi.quiet then H.length else lo):=by split<;>assumption
  obtain⟨fP,Pw,aeR⟩:=Tr B5.TG hp hro
  have nD:=aeR (lX f args _ H v H' hc m w fP hR aeJ hlen Pw hf).1
  unfold Oper.wp
  rw[nD w]
  show Calls P f fP.toArray w _
  refine(lX f args _ H v H' hc m w fP hR aeJ hlen Pw hf).2.mono ?_
  rintro e w' ⟨m',rv,rfl,h1,h2,h3⟩
  exact hK m' rv w' h1 h2 h3
end
end Go.PM
namespace Go.PM
theorem Ei {call:fD} {lo:Nat}:∀ {qR:List PI} {ρ aU:Env} {H H':aD},fW call lo qR ρ H=some (aU,H') →
  ∃st:Nat→Env×aD,st 0=(ρ,H)∧st qR.length=(aU,H')∧∀i pi,qR[i]? = some pi→vD call lo pi (st i).1 (st i).2=some (st (i+1))
 |
  [],ρ,aU,H,H',h=>by
  cases h
  exact⟨fun _=>(ρ,H),rfl,rfl,fun i pi hi=>by simp at hi⟩
 |
  x::qR,ρ,aU,H,H',h=>by
  rw[fW] at h
  split at h
  ·rename_i tZ H1 h1
   obtain⟨st,h2,h3,h4⟩:=Ei h
   refine⟨fun i=>match i with | 0=>(ρ,H) | i+1=>st i,rfl,h3,fun i pi hi => ?_⟩
   cases i with
   |
    zero =>
    simp at hi
    subst hi
    show vD call lo x ρ H=some (st 0)
    rw[h1,h2]
   | succ i=>exact h4 i pi (by simpa using hi)
  ·cases h
theorem gX {H1 H2:aD} {b:Nat} (h:H2[b]? = H1[b]?):Live H2 b↔Live H1 b:=by
 unfold Live
 rw[h]
theorem Rel.restrict {m:cQ} {L0:Nat} {H1 H2:aD} {w:World} (h:Rel m L0 H2 w) (hs:∀b,b<H1.length→H2[b]? = H1[b]?):Rel m L0 H1 w:=by
 refine⟨h.valid,fun b l cs e p hm hb=>h.row b l cs e p hm ?_,fun b1 b2 l1 l2 hb h1 h2 EB Ge=>h.inj b1 b2 l1 l2 hb h1 h2 ((gX (hs b1 EB.lt)).2 EB) ((gX (hs b2 Ge.lt)).2 Ge),fun x hx=>⟨(h.Bv x hx).1,fun b l hb hm hl=>(h.Bv x hx).2 b l hb hm ((gX (hs b hl.lt)).2 hl)⟩⟩
 rw[hs b (List.getElem?_eq_some_iff.1 hb).1]
 exact hb
theorem Rel.grow {m:cQ} {L0:Nat} {H1 H2:aD} {w:World} (h:Rel m L0 H1 w) (hs:∀b,b<H1.length→H2[b]? = H1[b]?) (hd:∀b,H1.length≤b→b<H2.length→m b=none):Rel m L0 H2 w:=by
 have lt:∀b l,m b=some l→b<H2.length→b<H1.length:=fun b l hm hb=>by
  rcases Nat.lt_or_ge b H1.length with h | h
  ·exact h
  ·rw[hd b h hb] at hm;cases hm
 refine⟨h.valid,fun b l cs e p hm hb=>h.row b l cs e p hm ?_,fun b1 b2 l1 l2 hb h1 h2 EB Ge=>h.inj b1 b2 l1 l2 hb h1 h2 ((gX (hs b1 (lt b1 l1 h1 EB.lt))).1 EB) ((gX (hs b2 (lt b2 l2 h2 Ge.lt))).1 Ge),fun x hx=>⟨(h.Bv x hx).1,fun b l hb hm hl=>(h.Bv x hx).2 b l hb hm ((gX (hs b (lt b l hm hl.lt))).1 hl)⟩⟩
 rw[←hs b (lt b l hm (List.getElem?_eq_some_iff.1 hb).1)]
 exact hb
structure Text (P:Program) (E:xS) (n:Nat) (ops:Array Oper) (qR:List PI) (ps:List lO) (M:List Nat) (call:fD) (lo:Nat) (st:Nat→Env×aD):Prop where
 ok:Zl P E n ops.toList true qR ps M
 ext:pA call
 step:∀i pi,qR[i]? = some pi→vD call lo pi (st i).1 (st i).2=some (st (i+1))
section
variable {P:Program} {E:xS} {n:Nat} {ops:Array Oper} {qR:List PI} {ps:List lO} {M:List Nat} {call:fD} {lo:Nat} {st:Nat→Env×aD}
theorem Text.at (T:Text P E n ops qR ps M call lo st) {i:Nat} (hi:i<ops.size):∃o p pi,ops[i]? = some o∧ps[i]? = some p∧qR[i]? = some pi∧Xf P E n ops.toList i o p pi∧L6 E ops.toList ps M i o p pi ∧
  ∃v,wA call lo pi (st i).1 (st i).2=some (v,(st (i+1)).2)∧(st (i+1)).1=put (st i).1 o.dst v:=by
 have ho:ops.toList[i]? = some ops[i]:=by simp[hi]
 obtain⟨p,pi,h1,h2,h3,h4,_⟩:=T.ok.each i _ ho
 obtain⟨v,h5,h6⟩:=vP (T.step i pi h2)
 exact⟨ops[i],p,pi,by simp[hi],h1,h2,h3,h4 rfl,v,h5,by rw[h6,h3.dst]⟩
theorem Text.agP (T:Text P E n ops qR ps M call lo st) {i:Nat} (hi:i<ops.size):(st i).2.length≤(st (i+1)).2.length:=by
 obtain⟨o,p,pi,_,_,_,_,_,v,hv,_⟩:=T.at hi
 exact(HT T.ext hv).len
theorem Text.len (T:Text P E n ops qR ps M call lo st) {i:Nat}:∀ {j:Nat},i≤j→j≤ops.size→(st i).2.length≤(st j).2.length:=by
 intro j Xz
 induction j with
 | zero =>
    intro _;have:i=0:=by omega
    subst this;exact Nat.le_refl _
 |
  succ j ih =>
  intro hj
  rcases Nat.lt_or_ge i (j+1) with h | h
  ·exact Nat.le_trans (ih (by omega) (by omega)) (T.agP (by omega))
  ·have:i=j+1:=by omega
   subst this;exact Nat.le_refl _
theorem Text.agC (T:Text P E n ops qR ps M call lo st) {i:Nat} {p:lO} (hi:i<ops.size) (hp:ps[i]? = some p) (hw:eZ E p ≠ .write):∀b,b<(st i).2.length→(st (i+1)).2[b]? = (st i).2[b]? := by
 intro b hb
 obtain⟨o,p',pi,_,Bl,_,B5,Tp,v,hv,_⟩:=T.at hi
 rw[hp] at Bl
 cases Bl
 rcases rJ hv with⟨_,_,h⟩ | ⟨_,_,h | ⟨f,args,h1,h2⟩⟩
 ·rw[h]
 ·rw[B5.op] at h
  by_cases hq:eZ E p = .quiet
  ·rw[Vg (AJ:=(st i).2.length) hq] at h
   exact(Rd h).low b hb hb
  ·
   have:(st (i+1)).2=(st i).2:=by
    cases p<;>first
     | (exact absurd rfl hw)
     | (exact absurd rfl hq)
     | (rw[uY rfl] at h;exact(BC h).2)
     | skip
    case load agg size q =>
     simp only[pop] at h
     cases hl:lZ agg size (ev (st i).1 q) (st i).2 with
     | none=>rw[hl] at h;cases h
     | some u=>rw[hl] at h;injection h with h;injection h with _ h;exact h.symm
    case b2s x =>
     simp only[pop] at h
     split at h
     ·injection h with h;injection h with _ h;exact h.symm
     ·split at h
      ·rename_i cs _
       cases hb:rM cs with
       | none=>rw[hb] at h;cases h
       | some bs=>rw[hb] at h;injection h with h;injection h with _ h;exact h.symm
      ·cases h
     ·cases h
    case sub size x l hh mx =>
     simp only[pop] at h
     cases mx with
     | some mx=>exact absurd rfl hq
     |
      none =>
      cases hs:AG size (ev (st i).1 x) (l.map (ev (st i).1)) (hh.map (ev (st i).1)) ((none:Option Operand).map (ev (st i).1)) (st i).2 with
      | none=>rw[hs] at h;cases h
      |
       some q =>
       obtain⟨u,H1⟩:=q
       rw[hs] at h
       injection h with h;injection h with _ h
       subst h
       unfold AG at hs
       simp only[Option.map_none,Option.isSome_none,Bool.false_eq_true,false_and,if_false] at hs
       repeat' (split at hs)
       all_goals first
        | (cases hs;done)
        | (injection hs with hs;injection hs with _ hs;exact hs.symm)
    case call f args=>cases h
   rw[this]
 ·rw[B5.op] at h1
  have hq:pi.quiet=true:=by
   rw[Tp.quiet]
   rcases qN h1 with⟨g,as,rfl⟩ | ⟨g,as,rfl⟩
   ·simp only[eZ] at hw ⊢
    split at hw
    ·exact absurd rfl hw
    ·rename_i h;rw[if_neg h]
   ·exact absurd rfl hw
  rw[hq] at h2
  exact(T.ext _ _ _ _ _ _ h2).low b hb hb
end
end Go.PM
namespace Go.PM
theorem B4 {H H':aD} {lo b o:Nat} {new:List Value} (h:H.write lo b o new=some H') {b':Nat} (hb:b'≠b):H'[b']? = H[b']? := by
 obtain⟨cs,e,p,h1,h2,h3,h4,rfl⟩:=zZ h
 exact List.getElem?_set_ne (Ne.symm hb)
theorem GD {H H':aD} {lo size bytes add:Nat} {x v:Value} {new:List Value} (h:dJ lo size bytes x add new H=some (v,H')) {b':Nat} (hb:hC x≠some b') (aX:b'<H.length):H'[b']? = H[b']? := by
 unfold dJ at h
 split at h
 case isFalse=>cases h
 split at h
 ·split at h
  ·split at h
   ·cases h;rfl
   ·split at h
    ·cases h;exact List.getElem?_append_left aX
    ·cases h
  ·cases h
 ·rename_i b o n c
  have eW:b'≠b:=fun e=>hb (by rw[e];rfl)
  split at h
  ·split at h
   ·split at h
    ·split at h
     ·cases h;rfl
     ·cases hw:aD.write H lo b (o+n*size) new with
      | none=>rw[hw] at h;cases h
      | some H1=>rw[hw] at h;cases h;exact B4 hw eW
    ·split at h
     ·split at h
      ·split at h
       ·cases h
        rw[List.getElem?_append_left (by simpa using aX)]
        exact List.getElem?_set_ne (Ne.symm eW)
       ·cases h
      ·cases h;exact List.getElem?_append_left aX
     ·cases h
   ·cases h
  ·cases h
 ·cases h
theorem YO {E:xS} {lo:Nat} {p:lO} {ρ:Env} {H H':aD} {v:Value} {x:Operand} (h:pop lo p ρ H=some (.val v H')) (hw:eZ E p = .write) (ht:Cs p=some x) {b':Nat} (hb:hC (ev ρ x)≠some b') (aX:b'<H.length):H'[b']? = H[b']? := by
 cases p<;>first | (cases ht;done) | (cases hw;done) | skip
 case sub size y l hh mx=>cases mx<;>cases hw
 case store size q y =>
  cases ht
  simp only[pop] at h
  split at h
  ·rename_i b o he
   rw[he] at hb
   have eW:b'≠b:=fun e=>hb (by rw[e];rfl)
   split at h
   ·cases hw:H.write lo b o (aL (ev ρ y)) with
    | none=>rw[hw] at h;cases h
    | some H1=>rw[hw] at h;cases h;exact B4 hw eW
   ·cases h
  ·cases h
 case app size bytes y z =>
  cases ht
  simp only[pop] at h
  split at h
  ·rename_i n _
   split at h
   ·rename_i new _
    cases ha:dJ lo size bytes (ev ρ x) n new H with
    | none=>rw[ha] at h;cases h
    |
     some q =>
     obtain⟨u,H1⟩:=q
     rw[ha] at h;cases h;exact GD ha hb aX
   ·cases h
  ·cases h
 case appz z bytes y n =>
  cases ht
  simp only[pop] at h
  split at h
  ·rename_i k _
   split at h
   ·cases ha:dJ lo z.length bytes (ev ρ x) k.toNat (cG k.toNat z) H with
    | none=>rw[ha] at h;cases h
    |
     some q =>
     obtain⟨u,H1⟩:=q
     rw[ha] at h;cases h;exact GD ha hb aX
   ·cases h
  ·cases h
 case copy size y z =>
  cases ht
  simp only[pop] at h
  split at h
  ·cases h;rfl
  ·rename_i b o d _ s he _
   rw[he] at hb
   have eW:b'≠b:=fun e=>hb (by rw[e];rfl)
   split at h
   ·rename_i new _
    cases hw:H.write lo b o new with
    | none=>rw[hw] at h;cases h
    | some H1=>rw[hw] at h;cases h;exact B4 hw eW
   ·cases h
  ·cases h
 case clear z y =>
  cases ht
  simp only[pop] at h
  split at h
  ·cases h;rfl
  ·rename_i b o n _ he
   rw[he] at hb
   have eW:b'≠b:=fun e=>hb (by rw[e];rfl)
   split at h
   ·cases h;rfl
   ·cases hw:H.write lo b o (cG n z) with
    | none=>rw[hw] at h;cases h
    | some H1=>rw[hw] at h;cases h;exact B4 hw eW
  ·cases h
theorem LC {H:aD} {b o n:Nat} {cs:List Value} (h:H.read b o n=some cs):b<H.length:=by
 unfold aD.read at h
 split at h
 ·rename_i hb;exact(List.getElem?_eq_some_iff.1 hb).1
 ·cases h
theorem C0 {H H2:aD} {b o n:Nat} (h:H2[b]? = H[b]?):H2.read b o n=H.read b o n:=by
 unfold aD.read
 rw[h]
theorem Q6 {agg:Bool} {size:Nat} {x v:Value} {H H2:aD} (h:lZ agg size x H=some v) (hb:∀b,hC x=some b→b<H.length→H2[b]? = H[b]?):lZ agg size x H2=some v:=by
 unfold lZ at h ⊢
 split at h
 ·rename_i b o
  have aX:b<H.length:=by
   split at h
   ·cases hr:H.read b o size with
    | none=>rw[hr] at h;cases h
    | some cs=>exact LC hr
   ·cases hr:H.read b o 1 with
    | none=>rw[hr] at h;cases h
    | some cs=>exact LC hr
  have e:=hb b rfl aX
  simp only[C0 e]
  exact h
 ·cases h
theorem NB {E:xS} {lo:Nat} {p:lO} {ρ:Env} {H H' H2:aD} {v:Value} (h:pop lo p ρ H=some (.val v H')) (hc:eZ E p = .look) (hb:∀x,Cs p=some x→∀b,hC (ev ρ x)=some b→b<H.length→H2[b]? = H[b]?) :
  H'=H∧pop lo p ρ H2=some (.val v H2):=by
 cases p<;>first | (cases hc;done) | skip
 case call f args=>simp only[eZ] at hc;split at hc<;>cases hc
 case load agg size q =>
  simp only[pop] at h ⊢
  cases hl:lZ agg size (ev ρ q) H with
  | none=>rw[hl] at h;cases h
  |
   some u =>
   rw[hl] at h
   cases h
   refine⟨rfl,?_⟩
   rw[Q6 hl (hb q rfl)]
   rfl
 case b2s x =>
  simp only[pop] at h ⊢
  split at h
  ·cases h;exact⟨rfl,rfl⟩
  ·rename_i b o n _ he
   split at h
   ·rename_i cs hr
    cases Zc:rM cs with
    | none=>rw[Zc] at h;cases h
    |
     some bs =>
     rw[Zc] at h
     cases h
     refine⟨rfl,?_⟩
     have e:=hb x rfl b (by rw[he];rfl) (LC hr)
     rw[C0 e,hr]
     simp only[Zc]
     rfl
   ·cases h
  ·cases h
 case sub size x l hh mx =>
  cases mx with
  | some mx=>cases hc
  |
   none =>
   simp only[pop] at h ⊢
   cases hs:AG size (ev ρ x) (l.map (ev ρ)) (hh.map (ev ρ)) ((none:Option Operand).map (ev ρ)) H with
   | none=>rw[hs] at h;cases h
   |
    some q =>
    obtain⟨u,H1⟩:=q
    rw[hs] at h
    cases h
    have wX:=hb x rfl
    generalize ev ρ x=xv at hs wX
    have key:H1=H∧AG size xv (l.map (ev ρ)) (hh.map (ev ρ)) ((none:Option Operand).map (ev ρ)) H2=some (u,H2):=by
     unfold AG at hs ⊢
     simp only[Option.map_none,Option.isSome_none,Bool.false_eq_true,false_and,if_false] at hs ⊢
     split at hs
     ·repeat' (split at hs)
      all_goals first | (cases hs;done) | skip
      cases hs
      simp_all
     ·rename_i b o n c
      split at hs
      ·rename_i cs e p E4
       have e1:=wX b rfl (List.getElem?_eq_some_iff.1 E4).1
       rw[e1,E4]
       simp only
       repeat' (split at hs)
       all_goals first | (cases hs;done) | skip
       cases hs
       simp_all
      ·cases hs
     ·cases hs
    rw[key.2]
    exact⟨key.1,rfl⟩
section
variable {P:Program} {E:xS} {n:Nat} {ops:Array Oper} {qR:List PI} {ps:List lO} {M:List Nat} {call:fD} {lo:Nat} {st:Nat→Env×aD}
theorem Text.Wy (T:Text P E n ops qR ps M call lo st) {i:Nat}:∀ {j:Nat},i≤j→j≤ops.size→Ext lo (st i).2 (st j).2:=by
 intro j Xz
 induction j with
 | zero =>
    intro _;have:i=0:=by omega
    subst this;exact Ext.refl _ _
 |
  succ j ih =>
  intro hj
  rcases Nat.lt_or_ge i (j+1) with h | h
  ·obtain⟨o,p,pi,_,_,_,_,_,v,hv,_⟩:=T.at (i:=j) (by omega)
   exact(ih (by omega) (by omega)).trans (HT T.ext hv)
  ·have:i=j+1:=by omega
   subst this;exact Ext.refl _ _
theorem Text.VC (T:Text P E n ops qR ps M call lo st) {i:Nat}:∀ {j:Nat},i≤j→j≤ops.size→∀b,b<(st i).2.length →
  (∀k,i≤k→k<j→∀p pi,ps[k]? = some p→qR[k]? = some pi→eZ E p = .write→wM pi.g (st k).1=some true→∃x,Cs p=some x∧hC (ev (st k).1 x)≠some b) →
  (st j).2[b]? = (st i).2[b]? := by
 intro j Xz
 induction j with
 | zero =>
      intro _ b _ _;have:i=0:=by omega
      subst this;rfl
 |
  succ j ih =>
  intro hj b hb hk
  rcases Nat.lt_or_ge i (j+1) with h | h
  ·have aX:b<(st j).2.length:=Nat.lt_of_lt_of_le hb (T.len (by omega) (by omega))
   have h1:(st (j+1)).2[b]? = (st j).2[b]? := by
    obtain⟨o,p,pi,_,hp,Sx,B5,_,v,hv,_⟩:=T.at (i:=j) (by omega)
    by_cases hw:eZ E p = .write
    ·rcases rJ hv with⟨_,_,h⟩ | ⟨hwt,_,h | ⟨f,args,h1,h2⟩⟩
     ·rw[h]
     ·rw[B5.op] at h
      obtain⟨x,hx,eW⟩:=hk j (by omega) (by omega) p pi hp Sx hw hwt
      exact YO h hw hx eW aX
     ·rw[B5.op] at h1
      obtain⟨x,hx,eW⟩:=hk j (by omega) (by omega) p pi hp Sx hw hwt
      rcases qN h1 with⟨g,as,rfl⟩ | ⟨g,as,rfl⟩<;>cases hx
    ·exact T.agC (by omega) hp hw b aX
   rw[h1]
   exact ih (by omega) (by omega) b hb fun k hk1 XS=>hk k hk1 (by omega)
  ·have:i=j+1:=by omega
   subst this;rfl
theorem Text.same (T:Text P E n ops qR ps M call lo st) {i j:Nat} (Xz:i≤j) (hj:j≤ops.size) (hk:∀k,i≤k→k<j→∀p,ps[k]? = some p→eZ E p ≠ .write):∀b,b<(st i).2.length→(st j).2[b]? = (st i).2[b]? :=
 fun b hb=>T.VC Xz hj b hb fun k h1 h2 p _ hp _ hw _=>absurd hw (hk k h1 h2 p hp)
theorem Text.MC (T:Text P E n ops qR ps M call lo st) {i t:Nat}:∀ {j:Nat},i≤j→j≤ops.size→(∀k o,i≤k→k<j→ops[k]? = some o→o.dst≠some t)→(st j).1 t=(st i).1 t:=by
 intro j Xz
 induction j with
 | zero =>
      intro _ _;have:i=0:=by omega
      subst this;rfl
 |
  succ j ih =>
  intro hj hk
  rcases Nat.lt_or_ge i (j+1) with h | h
  ·obtain⟨o,p,pi,ho,hp,Sx,B5,_,v,hv,he⟩:=T.at (i:=j) (by omega)
   rw[he]
   have eW:=hk j o (by omega) (by omega) ho
   have h1:put (st j).1 o.dst v t=(st j).1 t:=by
    cases hd:o.dst with
    | none=>rfl
    |
     some d =>
     rw[hd] at eW
     show (if t=d then v else _)=_
     rw[if_neg (fun e=>eW (by rw[e]))]
   rw[h1]
   exact ih (by omega) (by omega) fun k o hk1 XS=>hk k o hk1 (by omega)
  ·have:i=j+1:=by omega
   subst this;rfl
end
end Go.PM
namespace Go.PM
theorem vJ {M:List Nat} {i j:Nat} (h:i<j):ahead M i j=(M.getD j 0).testBit i:=by
 unfold ahead
 have e1:Nat.max i j=j:=Nat.max_eq_right (by omega)
 have e2:Nat.min i j=i:=Nat.min_eq_left (by omega)
 rw[e1,e2]
theorem Vh {M:List Nat} {i j:Nat} (h:j<i):ahead M i j=(M.getD i 0).testBit j:=by
 unfold ahead
 have e1:Nat.max i j=i:=Nat.max_eq_left (by omega)
 have e2:Nat.min i j=j:=Nat.min_eq_right (by omega)
 rw[e1,e2]
theorem NR {a:Act} {d t:Nat} {v:Value} (hd:d<a.tmps.size):(a.put (some d) v).tmps.getD t undef=if t=d then v else a.tmps.getD t undef:=by
 show (a.tmps.setIfInBounds d v).getD t undef=_
 rcases Nat.lt_or_ge t a.tmps.size with h | h
 ·by_cases e:t=d
  ·subst e;simp[h]
  ·simp[h,e,Ne.symm e]
 ·have:t≠d:=by omega
  simp[h,this]
theorem Ef (a:Act) (d:Option Nat) (v:Value):(a.put d v).tmps.size=a.tmps.size:=by
 cases d<;>simp[Act.put]
theorem DK (a:Act) (d:Option Nat) (v:Value):(a.put d v).defers=a.defers:=by
 cases d<;>rfl
section
variable {P:Program} {E:xS} {n:Nat} {ops:Array Oper} {qR:List PI} {ps:List lO} {M:List Nat} {call:fD} {lo L0:Nat} {st:Nat→Env×aD}
structure pV (E:xS) (n:Nat) (ops:Array Oper) (ps:List lO) (lo L0:Nat) (st:Nat→Env×aD) (m0:cQ) (w0:World) (ds:List Deferred) (S:Nat→Prop) (m:cQ) (c:Nat) (a:Act) (w:World):Prop where
 Ec:a.tmps.size=n
 defs:a.defers=ds
 back:∀i o,ops.toList[i]? = some o→S i→∀e∈o.after.toList,Region.binds .any e=true→S e.on
 tm:∀t j,j≤ops.size→(∀i o,ops.toList[i]? = some o→o.dst=some t→(S i↔i<j))→RV m ((st j).1 t) (a.tmps.getD t undef)
 Jp:c≤ops.size
 before:∀i p,i<c→ps[i]? = some p→eZ E p = .write→S i
 Zd:c<ops.size→¬S c∧∃p,ps[c]? = some p∧eZ E p = .write
 rel:Rel m L0 (st c).2 w
 tr:Trans lo m0 (st 0).2 w0 m (st c).2 w
 Um:∀b l,m b=some l→m0 b≠none∨∃i,S i∧i<ops.size∧(st i).2.length≤b∧b<(st (i+1)).2.length
theorem Text.ZB (T:Text P E n ops qR ps M call lo st) {S:Nat→Prop} (hS:∀i o,ops.toList[i]? = some o→S i→∀e∈o.after.toList,Region.binds .any e=true→S e.on) {k:Nat} {o:Oper} (ho:ops.toList[k]? = some o)
  (hk:∀e∈o.after.toList,Region.binds .any e=true→S e.on) {i:Nat} (hi:(M.getD k 0).testBit i=true):S i :=
 QL (fun i o hio=>by
   obtain⟨p,pi,_,_,_,hd,_⟩:=T.ok.each i o hio
   exact(hd rfl).back) (fun i o hio=>by
   obtain⟨p,pi,_,_,_,hd,_⟩:=T.ok.each i o hio
   exact(hd rfl).mask) hS k o ho hk i hi
theorem Text.RX (T:Text P E n ops qR ps M call lo st) {i:Nat} {p:lO} (hi:i<ops.size) (hp:ps[i]? = some p) (h:eZ E p = .pure∨eZ E p = .look):(st (i+1)).2=(st i).2:=by
 obtain⟨o,p',pi,_,Bl,_,B5,Tp,v,hv,_⟩:=T.at hi
 rw[hp] at Bl
 cases Bl
 rcases rJ hv with⟨_,_,h'⟩ | ⟨_,_,h' | ⟨f,args,h1,h2⟩⟩
 ·exact h'
 ·rw[B5.op] at h'
  rcases h with h | h
  ·have:rA p=true:=by
    cases p<;>first | rfl | (cases h;done) | skip
    case sub s x l hh mx=>cases mx<;>cases h
    case call f as=>simp only[eZ] at h;split at h<;>cases h
   rw[uY this] at h'
   exact(BC h').2
  ·exact(NB h' h (fun _ _ _ _ _=>rfl)).1
 ·exfalso
  rw[B5.op] at h1
  rcases qN h1 with⟨g,as,rfl⟩ | ⟨g,as,rfl⟩
  ·simp only[eZ] at h
   split at h<;>rcases h with h | h<;>cases h
  ·rcases h with h | h<;>cases h
theorem SD {op:Op} {p:lO} {x:Operand} (h:nQ P op=some p) (ht:Cs p=some x):x∈op.operands:=by
 unfold nQ at h
 split at h
 case isFalse=>cases h
 cases op with
 |
  load t q =>
  dsimp only at h
  cases hi:kL P t with
  | none=>rw[hi] at h;cases h
  | some u=>rw[hi] at h;cases h;cases ht;simp[Op.operands]
 |
  store t q v =>
  dsimp only at h
  cases hi:P.info? t with
  | none=>rw[hi] at h;cases h
  | some u=>rw[hi] at h;cases h;cases ht;simp[Op.operands]
 |
  slice t y l hh mx =>
  dsimp only at h
  split at h
  ·split at h
   ·cases h;cases ht
   ·cases h
  ·rename_i e _
   cases hi:kL P e with
   | none=>rw[hi] at h;cases h
   | some u=>rw[hi] at h;cases h;cases ht;simp[Op.operands]
  ·cases h
 |
  convert s d y =>
  dsimp only at h
  repeat' (split at h)
  all_goals first
   | (cases h;done)
   | (cases h;cases ht;done)
   | (cases h;cases ht;simp[Op.operands])
 |
  call c =>
  obtain⟨callee,args,ts⟩:=c
  cases callee with
  |
   builtin b =>
   simp only[mK] at h
   repeat' (split at h)
   all_goals first
    | (cases h;done)
    | (cases h;cases ht;done)
    | skip
   all_goals
    cases h
    cases ht
    have hm:x∈args.toList:=by simp_all
    simpa[Op.operands,Call.operands] using hm
  |
   value f =>
   cases f with
   | tmp g'=>cases h;cases ht
   | func g'=>cases h;cases ht
   | _=>cases h
  | invoke r s=>cases h
 |
  _ =>
  exfalso
  dsimp only at h
  try unfold zI at h
  repeat' (split at h)
  all_goals first
   | contradiction
   | (cases h;done)
   | (cases h;cases ht;done)
   | exact map_none h (by intro y h;cases h;cases ht)
end
end Go.PM
namespace Go.PM
theorem C5 (p:Nat→Prop):∀(d c N:Nat),N-c=d→c≤N→∃c',c≤c'∧c'≤N∧(∀i,c≤i→i<c'→¬p i)∧(c'<N→p c')
 | 0,c,N,hd,hc=>⟨c,Nat.le_refl _,hc,fun i h1 h2=>by omega,fun h=>by omega⟩
 |
  d+1,c,N,hd,hc=>by
  by_cases hp:p c
  ·exact⟨c,Nat.le_refl _,hc,fun i h1 h2=>by omega,fun _=>hp⟩
  ·obtain⟨c',h1,h2,h3,h4⟩:=C5 p d (c+1) N (by omega) (by omega)
   refine⟨c',by omega,h2,fun i hi1 Hu => ?_,h4⟩
   rcases Nat.lt_or_ge c i with h | h
   ·exact h3 i h Hu
   ·have:i=c:=by omega
    subst this;exact hp
theorem Xb {m:cQ} {v r:Value} {b:Nat} (h:RV m v r) (hb:hC v=some b):∃l,m b=some l:=by
 cases h<;>first | (cases hb;done) | (cases hb;exact⟨_,by assumption⟩)
section
variable {P:Program} {E:xS} {n:Nat} {ops:Array Oper} {qR:List PI} {ps:List lO} {M:List Nat} {call:fD} {lo L0:Nat} {st:Nat→Env×aD}
 {m0:cQ} {w0:World} {ds:List Deferred} {S:Nat→Prop} {m:cQ} {c:Nat} {a:Act} {w:World} {k:Nat} {o:Oper} {p:lO} {pi:PI}
structure At (P:Program) (E:xS) (n:Nat) (ops:Array Oper) (qR:List PI) (ps:List lO) (M:List Nat) (S:Nat→Prop) (k:Nat) (o:Oper) (p:lO) (pi:PI):Prop where
 lt:k<ops.size
 eo:ops[k]? = some o
 ep:ps[k]? = some p
 epi:qR[k]? = some pi
 ok:Xf P E n ops.toList k o p pi
 dr:L6 E ops.toList ps M k o p pi
 akU:¬S k
 ZB:∀i,(M.getD k 0).testBit i=true→S i
 desc:∀i,i<ops.size→S i→(M.getD i 0).testBit k=true→False
theorem At.ah (A:At P E n ops qR ps M S k o p pi) {i:Nat} (hi:i<ops.size) (h:i=k∨ahead M k i=true):S i↔i<k:=by
 rcases Nat.lt_trichotomy i k with h1 | h1 | h1
 ·refine⟨fun _=>h1,fun _ => ?_⟩
  rcases h with h | h
  ·omega
  ·rw[Vh h1] at h;exact A.ZB i h
 ·subst h1
  exact⟨fun h=>absurd h A.akU,fun h=>by omega⟩
 ·refine⟨fun hs => ?_,fun h=>by omega⟩
  rcases h with h | h
  ·omega
  ·rw[vJ h1] at h;exact absurd h (fun h=>A.desc i hi hs h)
theorem C6 {i:Nat} {oi:Oper} (h:ops.toList[i]? = some oi):i<ops.size:=by
 have:=(List.getElem?_eq_some_iff.1 h).1
 simpa using this
theorem At.reads (A:At P E n ops qR ps M S k o p pi) (I:pV E n ops ps lo L0 st m0 w0 ds S m c a w):∀t∈tI ops.toList o,RV m ((st k).1 t) (a.tmps.getD t undef):=by
 intro t ht
 refine I.tm t k (Nat.le_of_lt A.lt) fun i oi hi hd => ?_
 exact A.ah (C6 hi) (A.dr.Kn t (List.mem_append_right _ ht) i oi hi hd)
theorem At.operand (A:At P E n ops qR ps M S k o p pi) (I:pV E n ops ps lo L0 st m0 w0 ds S m c a w) {x:Operand} (hx:x∈o.op.operands):RV m (ev (st k).1 x) (a.eval x) :=
 Q5 (II A.ok.TG x hx) fun t ht=>A.reads I t (CD (ht▸hx))
theorem At.pair (T:Text P E n ops qR ps M call lo st) {i j:Nat} {p q:lO} (Xz:i<j) (hj:j<ops.size) (hp:ps[i]? = some p) (hq:ps[j]? = some q):∃qi,qR[j]? = some qi∧Cq E ops.toList M i j p q qi.cf:=by
 obtain⟨o,q',qi,_,JQ,UQ,_,hd,_⟩:=T.at hj
 rw[hq] at JQ
 cases JQ
 exact⟨qi,UQ,hd.afZ i Xz p hp⟩
theorem pV.late (T:Text P E n ops qR ps M call lo st) (I:pV E n ops ps lo L0 st m0 w0 ds S m c a w) {i:Nat} {q:lO} (hi:c<i) (hn:i<ops.size) (hS:S i) (hq:ps[i]? = some q):eZ E q = .pure∨eZ E q = .look:=by
 obtain⟨ZL,pc,Ye,MQ⟩:=I.Zd (by omega)
 obtain⟨qi,_,iJ⟩:=At.pair T hi hn Ye hq
 unfold Cq at iJ
 rw[MQ] at iJ
 obtain⟨oi,_,_,hoi,_⟩:=T.at hn
 have OF:ops.toList[i]? = some oi:=by simpa using hoi
 have fin:ahead M c i=true→False:=fun h=>by
  rw[vJ hi] at h
  exact ZL (T.ZB I.back OF (I.back i oi OF hS) h)
 cases lG:eZ E q with
 | pure=>exact .inl rfl
 | look=>exact .inr rfl
 | quiet=>rw[lG] at iJ;exact absurd iJ fin
 | write=>rw[lG] at iJ;exact absurd iJ fin
theorem pV.Kn (T:Text P E n ops qR ps M call lo st) (I:pV E n ops ps lo L0 st m0 w0 ds S m c a w) (A:At P E n ops qR ps M S k o p pi) {m':cQ} {v rv:Value} (hm:∀b l,m b=some l→m' b=some l) (hv:RV m' v rv)
  (he:(st (k+1)).1=put (st k).1 o.dst v):∀t j,j≤ops.size→(∀i o,ops.toList[i]? = some o→o.dst=some t→((i=k∨S i)↔i<j))→RV m' ((st j).1 t) ((a.put o.dst rv).tmps.getD t undef):=by
 intro t j hj hw
 have B5:ops.toList[k]? = some o:=by simpa using A.eo
 cases hd:o.dst with
 |
  none =>
  show RV m' _ (a.tmps.getD t undef)
  refine(I.tm t j hj fun i oi hi Xa => ?_).mono hm
  have eW:i≠k:=fun e=>by subst e;rw[B5] at hi;cases hi;rw[hd] at Xa;cases Xa
  rw[←hw i oi hi Xa]
  simp[eW]
 |
  some d =>
  rw[NR (by rw[I.Ec];exact A.ok.bound d hd)]
  by_cases htd:t=d
  ·subst htd
   rw[if_pos rfl]
   have hkj:k<j:=(hw k o B5 hd).1 (.inl rfl)
   have e1:(st j).1 t=(st (k+1)).1 t:=by
    refine T.MC hkj hj fun i oi hi1 Hu hoi Xa => ?_
    have OF:ops.toList[i]? = some oi:=by simpa using hoi
    have hS:=(hw i oi OF Xa).2 Hu
    have hik:i≠k:=by omega
    have:=(A.ah (C6 OF) (A.dr.Kn t (List.mem_append_left _ (by rw[hd];simp)) i oi OF Xa)).1 (hS.resolve_left hik)
    omega
   rw[e1,he,hd]
   show RV m' (if t=t then v else _) rv
   rw[if_pos rfl]
   exact hv
  ·rw[if_neg htd]
   refine(I.tm t j hj fun i oi hi Xa => ?_).mono hm
   have eW:i≠k:=fun e=>by subst e;rw[B5] at hi;cases hi;rw[hd] at Xa;cases Xa;exact htd rfl
   rw[←hw i oi hi Xa]
   simp[eW]
theorem pV.Wh (I:pV E n ops ps lo L0 st m0 w0 ds S m c a w) (A:At P E n ops qR ps M S k o p pi) (hr:∀e∈o.after.toList,Region.binds .any e=true→S e.on) :
  ∀i oi,ops.toList[i]? = some oi→(i=k∨S i)→∀e∈oi.after.toList,Region.binds .any e=true→(e.on=k∨S e.on):=by
 intro i oi hi hS e he hb
 rcases hS with rfl | hS
 ·have:ops.toList[i]? = some o:=by simpa using A.eo
  rw[this] at hi
  cases hi
  exact .inr (hr e he hb)
 ·exact .inr (I.back i oi hi hS e he hb)
theorem ED (T:Text P E n ops qR ps M call lo st) {i j:Nat} {x:Operand} (Xz:i≤j) (hj:j≤ops.size) (h:Cb ops.toList i j x=true):ev (st j).1 x=ev (st i).1 x:=by
 cases x with
 |
  tmp t =>
  refine T.MC Xz hj fun q oq h1 h2 hoq hd => ?_
  have jX:=List.all_eq_true.1 h oq (by
   have akJ:ops.toList[q]? = some oq:=by simpa using hoq
   rw[List.mem_iff_getElem?]
   refine⟨q-i,?_⟩
   rw[List.getElem?_drop,List.getElem?_take,show i+(q-i)=q by omega,if_pos h2,akJ])
  simp[hd] at jX
 | const v=>rfl
 | global g=>rfl
 | func f=>rfl
theorem pV.look (T:Text P E n ops qR ps M call lo st) (I:pV E n ops ps lo L0 st m0 w0 ds S m c a w) (A:At P E n ops qR ps M S k o p pi) (Ac:∀b,(st 0).2.length≤b→b<(st ops.size).2.length→m0 b=none)
  (lG:eZ E p = .pure∨eZ E p = .look) {v:Value} (hv:wA call lo pi (st k).1 (st k).2=some (v,(st (k+1)).2)):wA call lo pi (st k).1 (st c).2=some (v,(st c).2):=by
 rcases rJ hv with⟨hw,rfl,_⟩ | ⟨hw,MR,hp | ⟨f,args,hp,_⟩⟩
 ·unfold wA
  rw[hw]
 ·unfold wA
  rw[hw]
  simp only[MR,if_true]
  have key:pop lo pi.op (st k).1 (st c).2=some (.val v (st c).2):=by
   rw[A.ok.op] at hp ⊢
   rcases lG with lG | lG
   ·have hlp:rA p=true:=by
     cases p<;>first | rfl | (cases lG;done) | skip
     case sub s x l hh mx=>cases mx<;>cases lG
     case call f as=>simp only[eZ] at lG;split at lG<;>cases lG
    rw[uY hlp] at hp ⊢
    rw[(BC hp).1]
    rfl
   ·refine(NB hp lG fun x hx b hb aX => ?_).2
    rcases Nat.lt_or_ge c k with hck | hck
    ·obtain⟨ZL,pc,Ye,MQ⟩:=I.Zd (Nat.lt_trans hck A.lt)
     have Io:b<(st c).2.length:=by
      rcases Nat.lt_or_ge b (st c).2.length with h | h
      ·exact h
      ·exfalso
       obtain⟨l,hl⟩:=Xb (A.operand I (SD A.ok.TG hx)) hb
       have h0:=T.len (i:=0) (j:=c) (Nat.zero_le _) I.Jp
       have h1:=T.len (i:=k) (j:=ops.size) (Nat.le_of_lt A.lt) (Nat.le_refl _)
       rcases I.Um b l hl with h2 | ⟨i,hiS,cX,hi1,Hu⟩
       ·exact h2 (Ac b (by omega) (by omega))
       ·rcases Nat.lt_trichotomy i c with h3 | h3 | h3
        ·have:=T.len (i:=i+1) (j:=c) h3 I.Jp
         omega
        ·subst h3;exact ZL hiS
        ·obtain⟨oi,qi,pii,_,UQ,_⟩:=T.at cX
         have:=I.late T h3 cX hiS UQ
         rw[T.RX cX UQ this] at Hu
         omega
     refine(T.VC (Nat.le_of_lt hck) (Nat.le_of_lt A.lt) b Io fun j hj1 Un q qi hq UQ hqw ZA => ?_).symm
     obtain⟨pi',aeI,iJ⟩:=At.pair T Un A.lt hq A.ep
     rw[A.epi] at aeI
     cases aeI
     unfold Cq at iJ
     rw[hqw,lG] at iJ
     rcases iJ with h | ⟨xa,xb,ha,wX,hun,Jb⟩
     ·exfalso
      rw[vJ Un] at h
      have hjS:=A.ZB j h
      rcases Nat.lt_or_ge c j with h3 | h3
      ·rcases I.late T h3 (Nat.lt_trans Un A.lt) hjS hq with h4 | h4<;>(rw[hqw] at h4;cases h4)
      ·have:j=c:=by omega
       subst this;exact ZL hjS
     ·rw[hx] at wX
      cases wX
      refine⟨xa,ha,fun e => ?_⟩
      have hk:=List.all_eq_true.1 MR _ Jb
      unfold yF at hk
      rw[ED T (Nat.le_of_lt Un) (Nat.le_of_lt A.lt) hun,e,hb] at hk
      simp at hk
    ·refine T.VC hck I.Jp b aX fun j hj1 Un q qi hq UQ hqw ZA => ?_
     have hjk:k<j:=by
      rcases Nat.lt_or_ge k j with h | h
      ·exact h
      ·have:j=k:=by omega
       subst this
       rw[A.ep] at hq
       cases hq
       rw[hqw] at lG
       cases lG
     have hjn:j<ops.size:=Nat.lt_of_lt_of_le Un I.Jp
     obtain⟨oj,q',qi',hoj,JQ,VN,asJ,_,vj,hvj,_⟩:=T.at hjn
     rw[hq] at JQ
     cases JQ
     rw[UQ] at VN
     cases VN
     obtain⟨qi',VN,iJ⟩:=At.pair T hjk hjn A.ep hq
     rw[UQ] at VN
     cases VN
     unfold Cq at iJ
     rw[hqw,lG] at iJ
     rcases iJ with h | ⟨xa,xb,ha,wX,hun,Jb⟩
     ·exfalso
      rw[vJ hjk] at h
      exact A.desc j hjn (I.before j q Un hq hqw) h
     ·rw[hx] at ha
      cases ha
      refine⟨xb,wX,fun e => ?_⟩
      have akZ:qi.cf.all (yF (st j).1)=true:=by
       rcases rJ hvj with⟨h,_⟩ | ⟨_,h,_⟩
       ·rw[ZA] at h;cases h
       ·exact h
      have hk:=List.all_eq_true.1 akZ _ Jb
      unfold yF at hk
      rw[ED T (Nat.le_of_lt hjk) (Nat.le_of_lt hjn) hun,e,hb] at hk
      simp at hk
  rw[key]
 ·exfalso
  rw[A.ok.op] at hp
  rcases qN hp with⟨g,as,rfl⟩ | ⟨g,as,rfl⟩
  ·simp only[eZ] at lG
   split at lG<;>rcases lG with h | h<;>cases h
  ·rcases lG with h | h<;>cases h
end
end Go.PM
namespace Go.PM
section
variable {P:Program} {E:xS} {n:Nat} {ops:Array Oper} {qR:List PI} {ps:List lO} {M:List Nat} {call:fD} {lo L0:Nat} {st:Nat→Env×aD}
 {m0:cQ} {w0:World} {ds:List Deferred}
theorem EC {H:aD} {b:Nat} (h:H.length≤b):¬Live H b:=fun hl=>by have:=hl.lt;omega
theorem VO {S:Nat→Prop} {m:cQ} {c:Nat} {a:Act} {w:World} {k:Nat} {o:Oper} (T:Text P E n ops qR ps M call lo st) (lX:uB P L0 call) (gY:L0≤lo) (xN:L0≤(st 0).2.length)
  (Ac:∀b,(st 0).2.length≤b→b<(st ops.size).2.length→m0 b=none) (I:pV E n ops ps lo L0 st m0 w0 ds S m c a w) (ho:ops[k]? = some o) (hkS:¬S k)
  (hr:∀e∈o.after.toList,Region.binds .any e=true→S e.on) {K:Act→World→Prop} {Q:Exit→Act→World→Prop}
  (hK:∀m' c' a' w',pV E n ops ps lo L0 st m0 w0 ds (fun i=>i=k∨S i) m' c' a' w'→K a' w'):wpOp P ops Q k K a w:=by
 have aX:k<ops.size:=(Array.getElem?_eq_some_iff.1 ho).1
 obtain⟨o',p,pi,Vo,hp,Sx,B5,Tp,v,hv,he⟩:=T.at aX
 rw[ho] at Vo
 cases Vo
 have ho2:ops.toList[k]? = some o:=by simpa using ho
 have A:At P E n ops qR ps M S k o p pi:=⟨aX,ho,hp,Sx,B5,Tp,hkS,fun i hi=>T.ZB I.back ho2 hr hi,fun i hi hS hb=>by
  have hio:ops.toList[i]? = some ops[i]:=by simp[hi]
  exact hkS (T.ZB I.back hio (I.back i _ hio hS) hb)⟩
 have Qc:=A.reads I
 have ZG:=T.len (i:=0) (j:=c) (Nat.zero_le _) I.Jp
 have aeZ:=T.len (i:=c) (j:=ops.size) I.Jp (Nat.le_refl _)
 have adX:=T.len (i:=0) (j:=k) (Nat.zero_le _) (Nat.le_of_lt aX)
 have akN:=T.len (i:=k+1) (j:=ops.size) aX (Nat.le_refl _)
 have akP:=T.agP aX
 have hfk:∀b,(st k).2.length≤b→b<(st (k+1)).2.length→m b=none:=by
  intro b h1 h2
  cases hm:m b with
  | none=>rfl
  |
   some l =>
   exfalso
   rcases I.Um b l hm with h3 | ⟨i,hiS,cX,hi1,Hu⟩
   ·exact h3 (Ac b (by omega) (by omega))
   ·rcases Nat.lt_trichotomy i k with h3 | h3 | h3
    ·have:=T.len (i:=i+1) (j:=k) h3 (Nat.le_of_lt aX)
     omega
    ·subst h3;exact hkS hiS
    ·have:=T.len (i:=k+1) (j:=i) h3 (Nat.le_of_lt cX)
     omega
 have OH:(eZ E p = .pure∨eZ E p = .look)→wpOp P ops Q k K a w:=by
  intro lG
  have hq:pi.quiet=false:=by
   rw[Tp.quiet]
   rcases lG with h | h<;>rw[h]
  have hw:eZ E p ≠ .write:=by rcases lG with h | h<;>(rw[h];exact fun h=>by cases h)
  refine Lr ho B5 (fun h=>by rw[hq] at h;cases h) (I.look T A Ac lG hv) Qc I.rel gY (Nat.le_trans xN ZG) (fun b h1 h2=>by omega) lX fun m' rv w' Qn hR hT => ?_
  rw[hq] at hT
  simp only[Bool.false_eq_true,if_false] at hT
  have hmm:m'=m:=by
   funext b
   cases hm:m b with
   | some l=>exact hT.ext b l hm
   |
    none =>
    cases hm':m' b with
    | none=>rfl
    | some l=>have:=(hT.new b l hm' hm).1;omega
  subst hmm
  refine hK m' c _ w' ⟨by rw[Ef];exact I.Ec,by rw[DK];exact I.defs,I.Wh A hr,I.Kn T A (fun _ _ h=>h) Qn he,I.Jp,fun i q h1 h2 h3 => .inr (I.before i q h1 h2 h3),?_,hR,?_,?_⟩
  ·intro h
   obtain⟨h1,q,h2,h3⟩:=I.Zd h
   refine⟨fun hS=>hS.elim (fun e => ?_) h1,q,h2,h3⟩
   subst e
   rw[hp] at h2
   cases h2
   exact hw h3
  ·exact Trans.trans (fun b h1 h2=>Ac b h1 (by omega)) (T.Wy (Nat.zero_le _) I.Jp) (Ext.refl _ _) I.tr hT
  ·intro b l hb
   exact(I.Um b l hb).imp id fun⟨i,h1,h2⟩=>⟨i,.inr h1,h2⟩
 cases lG:eZ E p with
 |
  write =>
  have hkc:k=c:=by
   rcases Nat.lt_trichotomy k c with h | h | h
   ·exact absurd (I.before k p h hp lG) hkS
   ·exact h
   ·exfalso
    obtain⟨ZL,pc,Ye,MQ⟩:=I.Zd (by omega)
    obtain⟨qi,_,iJ⟩:=At.pair T h aX Ye hp
    unfold Cq at iJ
    rw[MQ,lG] at iJ
    simp only at iJ
    rw[vJ h] at iJ
    exact ZL (A.ZB c iJ)
  subst hkc
  refine Lr ho B5 (fun hq=>by rw[Tp.quiet,lG] at hq;cases hq) hv Qc I.rel gY (Nat.le_trans xN ZG) hfk lX fun m' rv w' Qn hR hT => ?_
  have hq:pi.quiet=false:=by rw[Tp.quiet,lG]
  rw[hq] at hT
  simp only[Bool.false_eq_true,if_false] at hT
  obtain⟨c',hc1,XD,hc3,hc4⟩:=C5 (fun i=>∃q,ps[i]? = some q∧eZ E q = .write) _ (k+1) ops.size rfl aX
  have Se:∀b,b<(st (k+1)).2.length→(st c').2[b]? = (st (k+1)).2[b]? := T.same hc1 XD fun i h1 h2 q hq hw=>hc3 i h1 h2 ⟨q,hq,hw⟩
  have alI:=T.len hc1 XD
  have agU:=T.len (i:=c') (j:=ops.size) XD (Nat.le_refl _)
  have aeV:∀b l,m' b=some l→m0 b≠none∨∃i,(i=k∨S i)∧i<ops.size∧(st i).2.length≤b∧b<(st (i+1)).2.length:=by
   intro b l hb
   cases hm:m b with
   | some l'=>exact(I.Um b l' hm).imp id fun⟨i,h1,h2⟩=>⟨i,.inr h1,h2⟩
   | none=>exact .inr ⟨k,.inl rfl,aX,(hT.new b l hb hm).1⟩
  have acB:∀b,(st (k+1)).2.length≤b→b<(st c').2.length→m' b=none:=by
   intro b h1 h2
   cases hm:m' b with
   | none=>rfl
   |
    some l =>
    exfalso
    rcases aeV b l hm with h3 | ⟨i,hiS,cX,hi1,Hu⟩
    ·exact h3 (Ac b (by omega) (by omega))
    ·rcases Nat.lt_trichotomy i k with h3 | h3 | h3
     ·have:=T.len (i:=i+1) (j:=k) h3 (Nat.le_of_lt aX)
      omega
     ·subst h3;omega
     ·obtain⟨oi,qi,pii,_,UQ,_⟩:=T.at cX
      have:=I.late T h3 cX (hiS.resolve_left (by omega)) UQ
      rw[T.RX cX UQ this] at Hu
      omega
  have hTT:Trans lo m0 (st 0).2 w0 m' (st (k+1)).2 w':=Trans.trans (fun b h1 h2=>Ac b h1 (by omega)) (T.Wy (Nat.zero_le _) (Nat.le_of_lt aX)) (T.Wy (Nat.le_succ _) aX) I.tr hT
  refine hK m' c' _ w' ⟨by rw[Ef];exact I.Ec,by rw[DK];exact I.defs,I.Wh A hr,I.Kn T A hT.ext Qn he,XD,?_,?_,hR.grow Se acB,?_,aeV⟩
  ·intro i q hi hq hw
   rcases Nat.lt_trichotomy i k with h | h | h
   ·exact .inr (I.before i q h hq hw)
   ·exact .inl h
   ·exact absurd ⟨q,hq,hw⟩ (hc3 i h hi)
  ·intro h
   obtain⟨q,hq,hw⟩:=hc4 h
   refine⟨fun hS => ?_,q,hq,hw⟩
   rcases hS with hS | hS
   ·omega
   ·rcases I.late T (by omega) h hS hq with h4 | h4<;>(rw[hw] at h4;cases h4)
  ·refine⟨hTT.ext,fun b l hb hn => ?_,hTT.size,hTT.jO,hTT.same⟩
   obtain⟨⟨h1,h2⟩,h3⟩:=hTT.new b l hb hn
   refine⟨⟨h1,by omega⟩,?_⟩
   rcases h3 with h3 | h3 | h3
   ·exact .inl h3
   ·exact .inr (.inl fun hl=>h3 ((gX (Se b h2)).1 hl))
   ·exact .inr (.inr h3)
 |
  quiet =>
  have hkc:k<c:=by
   rcases Nat.lt_or_ge k c with h | h
   ·exact h
   ·exfalso
    rcases Nat.lt_or_ge c k with h' | h'
    ·obtain⟨ZL,pc,Ye,MQ⟩:=I.Zd (by omega)
     obtain⟨qi,_,iJ⟩:=At.pair T h' aX Ye hp
     unfold Cq at iJ
     rw[MQ,lG] at iJ
     simp only at iJ
     rw[vJ h'] at iJ
     exact ZL (A.ZB c iJ)
    ·have:k=c:=by omega
     subst this
     obtain⟨_,pc,Ye,MQ⟩:=I.Zd aX
     rw[hp] at Ye
     cases Ye
     rw[lG] at MQ
     cases MQ
  have SM:∀i,k<i→i<c→∀q,ps[i]? = some q→eZ E q ≠ .write:=by
   intro i h1 h2 q hq hw
   have cX:i<ops.size:=Nat.lt_of_lt_of_le h2 I.Jp
   obtain⟨qi,_,iJ⟩:=At.pair T h1 cX hp hq
   unfold Cq at iJ
   rw[lG,hw] at iJ
   simp only at iJ
   rw[vJ h1] at iJ
   exact A.desc i cX (I.before i q h2 hq hw) iJ
  have Jv:∀b,b<(st (k+1)).2.length→(st c).2[b]? = (st (k+1)).2[b]? := T.same hkc I.Jp fun i h1 h2 q hq=>SM i h1 h2 q hq
  have XG:∀b,b<(st k).2.length→(st c).2[b]? = (st k).2[b]? := T.same (Nat.le_of_lt hkc) I.Jp fun i h1 h2 q hq=>by
   rcases Nat.lt_or_ge k i with h | h
   ·exact SM i h h2 q hq
   ·have:i=k:=by omega
    subst this
    rw[hp] at hq
    cases hq
    rw[lG]
    exact fun h=>by cases h
  have aqB:=T.len (i:=k+1) (j:=c) hkc I.Jp
  refine Lr ho B5 (fun _=>lG) hv Qc (I.rel.restrict XG) gY (Nat.le_trans xN adX) hfk lX fun m' rv w' Qn hR hT => ?_
  have hq:pi.quiet=true:=by rw[Tp.quiet,lG]
  rw[hq] at hT
  simp only[if_true] at hT
  have KK:∀rb,rb<w.heap.size→w'.heap[rb]? = w.heap[rb]? := fun rb Bq=>hT.jO rb Bq fun b l hb _ hl=>absurd hl (EC hb)
  have rH:∀b l,m' b=some l→m b=none→((st k).2.length≤b∧b<(st (k+1)).2.length)∧(w.heap.size≤l.rb∨¬Live (st (k+1)).2 b):=by
   intro b l h1 h2
   obtain⟨h3,h4⟩:=hT.new b l h1 h2
   refine⟨h3,?_⟩
   rcases h4 with h4 | h4 | ⟨b0,l0,g1,_,g3,_⟩
   ·exact .inl h4
   ·exact .inr h4
   ·exact absurd g3 (EC g1)
  have ahJ:∀b l,m b=some l→l.rb<w.heap.size:=by
   intro b l hb
   obtain⟨arr,e,fz,h1,_⟩:=I.rel.valid b l hb
   exact(Array.getElem?_eq_some_iff.1 h1).1
  have Sp:∀rb j,rb<w.heap.size→w'.cell? ⟨rb,j,none⟩=w.cell? ⟨rb,j,none⟩:=by
   intro rb j Bq
   unfold World.cell?
   simp only[KK rb Bq]
  have AH:∀b l,m' b=some l→(st (k+1)).2.length≤b→m b=some l:=by
   intro b l hb h
   cases hm:m b with
   | some l'=>have:=hT.ext b l' hm;rw[hb] at this;exact this.symm
   | none=>have:=(rH b l hb hm).1.2;omega
  refine hK m' c _ w' ⟨by rw[Ef];exact I.Ec,by rw[DK];exact I.defs,I.Wh A hr,I.Kn T A hT.ext Qn he,I.Jp,fun i q h1 h2 h3 => .inr (I.before i q h1 h2 h3),?_,⟨hR.valid,?_,?_,?_⟩,?_,?_⟩
  ·intro h
   obtain⟨h1,q,h2,h3⟩:=I.Zd h
   exact⟨fun hS=>hS.elim (fun e=>by omega) h1,q,h2,h3⟩
  ·intro b l cs e pp hm hb
   rcases Nat.lt_or_ge b (st (k+1)).2.length with h | h
   ·exact hR.row b l cs e pp hm (by rw[←Jv b h];exact hb)
   ·have hmo:=AH b l hm h
    obtain⟨h1,h2,h3,h4⟩:=I.rel.row b l cs e pp hmo hb
    refine⟨h1,h2,h3,fun i hi => ?_⟩
    obtain⟨rv',g1,g2,g3⟩:=h4 i hi
    exact⟨rv',by rw[Sp _ _ (ahJ b l hmo)];exact g1,g2.mono hT.ext,g3⟩
  ·intro b1 b2 l1 l2 Cj h1 h2 EB Ge Bq
   have fresh:∀b b' l l',m' b=some l→m b=none→m b'=some l'→Live (st c).2 b→l.rb=l'.rb→False:=by
    intro b b' l l' g1 g2 g3 g4 g5
    obtain⟨⟨_,g6⟩,g7⟩:=rH b l g1 g2
    rcases g7 with g7 | g7
    ·have:=ahJ b' l' g3;omega
    ·exact g7 ((gX (Jv b g6)).1 g4)
   cases LD:m b1 with
   |
    some l1' =>
    cases XF:m b2 with
    |
     some l2' =>
     have e1:l1'=l1:=by have:=hT.ext b1 l1' LD;rw[h1] at this;injection this with this;exact this.symm
     have e2:l2'=l2:=by have:=hT.ext b2 l2' XF;rw[h2] at this;injection this with this;exact this.symm
     subst e1 e2
     exact I.rel.inj b1 b2 _ _ Cj LD XF EB Ge Bq
    |
     none =>
     have e1:l1'=l1:=by have:=hT.ext b1 l1' LD;rw[h1] at this;injection this with this;exact this.symm
     subst e1
     exact(fresh b2 b1 _ _ h2 XF LD Ge Bq.symm).elim
   |
    none =>
    cases XF:m b2 with
    |
     some l2' =>
     have e2:l2'=l2:=by have:=hT.ext b2 l2' XF;rw[h2] at this;injection this with this;exact this.symm
     subst e2
     exact(fresh b1 b2 _ _ h1 LD XF EB Bq).elim
    |
     none =>
     have g1:=(rH b1 l1 h1 LD).1.2
     have g2:=(rH b2 l2 h2 XF).1.2
     exact hR.inj b1 b2 l1 l2 Cj h1 h2 ((gX (Jv b1 g1)).1 EB) ((gX (Jv b2 g2)).1 Ge) Bq
  ·intro x hx
   refine⟨(hR.Bv x hx).1,fun b l hb hm hl => ?_⟩
   obtain⟨⟨e0,fz0,q1⟩,q2⟩:=I.rel.Bv x hx
   cases LD:m b with
   |
    some l' =>
    have e1:l'=l:=by have:=hT.ext b l' LD;rw[hm] at this;injection this with this;exact this.symm
    subst e1
    exact q2 b l' hb LD hl
   |
    none =>
    obtain⟨⟨_,g6⟩,g7⟩:=rH b l hm LD
    rcases g7 with g7 | g7
    ·have:=(Array.getElem?_eq_some_iff.1 q1).1
     omega
    ·exact(g7 ((gX (Jv b g6)).1 hl)).elim
  ·refine⟨fun b l hb=>hT.ext b l (I.tr.ext b l hb),fun b l hb hn => ?_,Nat.le_trans I.tr.size hT.size,fun rb Bq hk => ?_,hT.same.1.trans I.tr.same.1,hT.same.2.1.trans I.tr.same.2.1,hT.same.2.2.trans I.tr.same.2.2⟩
   ·cases hm:m b with
    |
     some l' =>
     have e1:l'=l:=by have:=hT.ext b l' hm;rw[hb] at this;injection this with this;exact this.symm
     subst e1
     exact I.tr.new b l' hm hn
    |
     none =>
     obtain⟨⟨g1,g2⟩,g3⟩:=rH b l hb hm
     refine⟨⟨by omega,by omega⟩,?_⟩
     rcases g3 with g3 | g3
     ·exact .inl (Nat.le_trans I.tr.size g3)
     ·exact .inr (.inl fun hl=>g3 ((gX (Jv b g2)).1 hl))
   ·rw[KK rb (Nat.lt_of_lt_of_le Bq I.tr.size),I.tr.jO rb Bq hk]
  ·intro b l hb
   cases hm:m b with
   | some l'=>exact(I.Um b l' hm).imp id fun⟨i,h1,h2⟩=>⟨i,.inr h1,h2⟩
   | none=>exact .inr ⟨k,.inl rfl,aX,(rH b l hb hm).1⟩
 | pure=>exact OH (.inl lG)
 | look=>exact OH (.inr lG)
end
end Go.PM
namespace Go.PM
section
variable {P:Program} {E:xS} {n:Nat} {call:fD} {lo L0:Nat}
theorem Trans.fresh {m m':cQ} {H H1 H2:aD} {w w':World} (h:Trans lo m H w m' H1 w') (h1:H.length≤H1.length) (hf:∀b,H.length≤b→b<H2.length→m b=none):∀b,H1.length≤b→b<H2.length→m' b=none:=by
 intro b Cj Ys
 cases hm:m' b with
 | none=>rfl
 |
  some l =>
  exfalso
  have hn:=hf b (by omega) Ys
  have:=(h.new b l hm hn).1
  omega
structure FN (n L0:Nat) (m:cQ) (ρ:Env) (H:aD) (a:Act) (w:World):Prop where
 Ec:a.tmps.size=n
 defs:a.defers=[]
 env:∀t,RV m (ρ t) (a.tmps.getD t undef)
 rel:Rel m L0 H w
theorem Ku {p q:Nat→Bool}:∀ {l:List Nat} {i:Nat},(∀x∈l,q x=true→p x=true)→i∈l→p i=true→q i=false→l.countP q<l.countP p
 |
  x::l,i,h,hi,hp,hq=>by
  rw[List.countP_cons,List.countP_cons]
  have hle:l.countP q≤l.countP p:=List.countP_mono_left fun x hx=>h x (List.mem_cons_of_mem _ hx)
  rcases List.mem_cons.1 hi with rfl | hi
  ·rw[if_neg (by simp[hq]),if_pos hp];omega
  ·have:=Ku (fun x hx=>h x (List.mem_cons_of_mem _ hx)) hi hp hq
   have:(if q x=true then 1 else 0)≤(if p x=true then 1 else 0):=by
    by_cases hqx:q x=true
    ·rw[if_pos hqx,if_pos (h x List.mem_cons_self hqx)];omega
    ·rw[if_neg hqx];omega
   omega
theorem Iy {listed:Array Bool} {k i:Nat} (hk:k<listed.size):(listed.setIfInBounds k true).getD i false=true↔(i=k∨listed.getD i false=true):=by
 rcases Nat.lt_or_ge i listed.size with h | h
 ·by_cases e:i=k
  ·subst e;simp[h]
  ·simp[h,e,Ne.symm e]
 ·have:i≠k:=by omega
  simp[h,this]
theorem XX {ops:Array Oper} {qR:List PI} {ps:List lO} {M:List Nat} {st:Nat→Env×aD} {m0:cQ} {w0:World} (T:Text P E n ops qR ps M call lo st) (lX:uB P L0 call) (gY:L0≤lo) (xN:L0≤(st 0).2.length)
  (Ac:∀b,(st 0).2.length≤b→b<(st ops.size).2.length→m0 b=none) {Q:Exit→Act→World→Prop}
  (hQ:∀m' a' w',FN n L0 m' (st ops.size).1 (st ops.size).2 a' w'→Trans lo m0 (st 0).2 w0 m' (st ops.size).2 w'→Q .normal a' w') :
  ∀(fuel:Nat) (listed:Array Bool) (m:cQ) (c:Nat) (a:Act) (w:World),listed.size=ops.size→((List.range ops.size).countP fun i => !listed.getD i false)≤fuel →
  pV E n ops ps lo L0 st m0 w0 [] (fun i=>listed.getD i false=true) m c a w→wpAny P .any ops Q fuel listed a w:=by
 have fin:∀(listed:Array Bool) (m:cQ) (c:Nat) (a:Act) (w:World),listed.size=ops.size→(Region.ready .any ops listed=[])→pV E n ops ps lo L0 st m0 w0 [] (fun i=>listed.getD i false=true) m c a w→Q .normal a w:=by
  intro listed m c a w hs hr I
  have all:∀i,i<ops.size→listed.getD i false=true:=by
   intro i
   induction i using Nat.strongRecOn with
   |
    _ i ih =>
    intro hi
    cases hl:listed.getD i false with
    | true=>rfl
    |
     false =>
     exfalso
     obtain⟨o,p,pi,ho,_,_,_,Tp,_⟩:=T.at hi
     have:i∈Region.ready .any ops listed:=by
      rw[mem_ready]
      refine⟨?_,o,ho,fun e he hb => ?_⟩
      ·have Qs:i<listed.size:=by omega
       simpa[Qs] using hl
      ·have:=Tp.back e (by simpa using he) hb
       exact ih e.on this (by omega)
     rw[hr] at this
     cases this
  have hcN:c=ops.size:=by
   rcases Nat.lt_or_ge c ops.size with h | h
   ·exact absurd (all c h) (I.Zd h).1
   ·have:=I.Jp;omega
  subst hcN
  exact hQ m a w ⟨I.Ec,I.defs,fun t=>I.tm t ops.size (Nat.le_refl _) fun i o hi _=>⟨fun _=>C6 hi,fun h=>all i h⟩,I.rel⟩ I.tr
 intro fuel
 induction fuel with
 |
  zero =>
  intro listed m c a w hs hc I
  have hr:Region.ready .any ops listed=[]:=by
   rw[List.eq_nil_iff_forall_not_mem]
   intro i hi
   have Ch:=mem_ready.1 hi
   obtain⟨h1,o,ho,_⟩:=Ch
   have aX:i<ops.size:=(Array.getElem?_eq_some_iff.1 ho).1
   have h0:((List.range ops.size).countP fun i => !listed.getD i false)=0:=by omega
   rw[List.countP_eq_zero] at h0
   have:=h0 i (List.mem_range.2 aX)
   have Qs:i<listed.size:=by omega
   simp[Qs] at this h1
   rw[h1] at this
   cases this
  exact⟨hr,fin listed m c a w hs hr I⟩
 |
  succ fuel ih =>
  intro listed m c a w hs hc I
  refine⟨fun hr=>fin listed m c a w hs hr I,fun k hk => ?_⟩
  obtain⟨h1,o,ho,hb⟩:=mem_ready.1 hk
  have aX:k<ops.size:=(Array.getElem?_eq_some_iff.1 ho).1
  have hkl:k<listed.size:=by omega
  have hkf:listed.getD k false=false:=by simpa[hkl] using h1
  refine VO T lX gY xN Ac I ho (by rw[hkf];exact fun h=>by cases h) (fun e he XC=>hb e (by simpa using he) XC) fun m' c' a' w' I'=>ih _ m' c' a' w' (by simpa using hs) ?_ ?_
  ·have:((List.range ops.size).countP fun i => !(listed.setIfInBounds k true).getD i false)<((List.range ops.size).countP fun i => !listed.getD i false):=by
    refine Ku (i:=k) (fun x _ hx => ?_) (List.mem_range.2 aX) (by rw[hkf];rfl) ?_
    ·cases hlx:listed.getD x false with
     | false=>rfl
     |
      true =>
      have:=(Iy (i:=x) hkl).2 (.inr hlx)
      rw[this] at hx
      cases hx
    ·rw[(Iy hkl).2 (.inl rfl)];rfl
   omega
  ·have e:(fun i=>(listed.setIfInBounds k true).getD i false=true)=fun i=>i=k∨listed.getD i false=true:=by
    funext i
    exact propext (Iy hkl)
   rw[e]
   exact I'
theorem Rel.drew {m:cQ} {H:aD} {w w':World} (h:Rel m L0 H w) (hw:w'.heap=w.heap):Rel m L0 H w':=by
 have hc:∀x,w'.cell? x=w.cell? x:=fun x=>by unfold World.cell?;rw[hw]
 refine⟨fun b l hb=>by rw[hw];exact h.valid b l hb,fun b l cs e p hm hb => ?_,h.inj,fun x hx=>⟨by rw[hw];exact(h.Bv x hx).1,(h.Bv x hx).2⟩⟩
 obtain⟨h1,h2,h3,h4⟩:=h.row b l cs e p hm hb
 refine⟨h1,h2,h3,fun i hi => ?_⟩
 rw[hc]
 exact h4 i hi
theorem PF {id:Nat} {ops:Array Oper} {draw:Bool} {qR:List PI} (BE:P.follows .mixedOrders=true) (lX:uB P L0 call) (oU:pA call) (hp:vZ P E n ops draw=some qR) {ρ aU:Env} {H H':aD}
  (hv:fW call lo qR ρ H=some (aU,H')) {m:cQ} {a:Act} {w:World} (h:FN n L0 m ρ H a w) (gY:L0≤lo) (hlen:L0≤H.length) (hf:∀b,H.length≤b→b<H'.length→m b=none) {Q:Exit→Act→World→Prop}
  (hQ:∀m' a' w',FN n L0 m' aU H' a' w'→Trans lo m H w m' H' w'→Q .normal a' w'):(Code.region id ops draw).wp P Q a w:=by
 obtain⟨ps,M,B5⟩:=G5 hp
 obtain⟨st,XG,hsn,EP⟩:=Ei hv
 have hN:qR.length=ops.size:=by rw[B5.akD];simp
 rw[hN] at hsn
 cases draw with
 |
  true =>
  have T:Text P E n ops qR ps M call lo st:=⟨B5,oU,EP⟩
  apply wp_region_any BE
  have e0:(st 0).1=ρ:=by rw[XG]
  have e1:(st 0).2=H:=by rw[XG]
  have e2:(st ops.size).1=aU:=by rw[hsn]
  have e3:(st ops.size).2=H':=by rw[hsn]
  obtain⟨c,hc1,XD,hc3,hc4⟩:=C5 (fun i=>∃q,ps[i]? = some q∧eZ E q = .write) _ 0 ops.size rfl (Nat.zero_le _)
  have Se:=T.same hc1 XD fun i h1 h2 q hq hw=>hc3 i h1 h2 ⟨q,hq,hw⟩
  have aeZ:=T.len hc1 XD
  have agU:=T.len (i:=c) (j:=ops.size) XD (Nat.le_refl _)
  have hgr:=h.rel.grow (by rw[←e1];exact Se) (fun b h1 h2=>hf b h1 (by rw[←e3];omega))
  have Xq:∀i,(Array.replicate ops.size false).getD i false=true→False:=by
   intro i hi
   rcases Nat.lt_or_ge i ops.size with h | h<;>simp[h] at hi
  refine XX (m0:=m) (w0:=w) T lX gY (by rw[e1];exact hlen) (by rw[e1,e3];exact hf) (by rw[e1,e2,e3];exact hQ) ops.size _ m c a _ (by simp) (Nat.le_trans List.countP_le_length (by simp)) ?_
  refine⟨h.Ec,h.defs,fun i o _ hi=>(Xq i hi).elim,fun t j hj hw => ?_,XD,fun i q hi hq hw=>absurd ⟨q,hq,hw⟩ (hc3 i (Nat.zero_le _) hi),fun hc=>⟨fun h=>Xq _ h,hc4 hc⟩,hgr.drew rfl,?_,fun b l hb => .inl (by rw[hb];exact fun h=>by cases h)⟩
  ·have e:(st j).1 t=ρ t:=by
    rw[←e0]
    refine T.MC (Nat.zero_le _) hj fun i oi _ Hu hoi hd => ?_
    have OF:ops.toList[i]? = some oi:=by simpa using hoi
    exact(Xq i ((hw i oi OF hd).2 Hu)).elim
   rw[e]
   exact h.env t
  ·rw[e1]
   refine⟨fun _ _ h=>h,fun b l hb hn=>(by rw[hb] at hn;cases hn),Nat.le_refl _,fun _ _ _=>rfl,rfl,rfl,rfl⟩
 |
  false =>
  apply wp_region
  have key:∀d i,ops.size-i=d→i≤ops.size→∀m1 a1 w1,FN n L0 m1 (st i).1 (st i).2 a1 w1→L0≤(st i).2.length→(∀b,(st i).2.length≤b→b<H'.length→m1 b=none) →
    (∀m' a' w',FN n L0 m' aU H' a' w'→Trans lo m1 (st i).2 w1 m' H' w'→Q .normal a' w')→wpOps P ops Q ((List.range ops.size).drop i) a1 w1:=by
   intro d
   induction d with
   |
    zero =>
    intro i hd hi m1 a1 w1 h1 _ _ hQ1
    have:i=ops.size:=by omega
    subst this
    rw[List.drop_eq_nil_of_le (by simp)]
    rw[hsn] at h1 hQ1
    exact hQ1 m1 a1 w1 h1 (Trans.refl _ _ _ _)
   |
    succ d ih =>
    intro i hd hi m1 a1 w1 h1 EB hf1 hQ1
    have aX:i<ops.size:=by omega
    rw[List.drop_eq_getElem_cons (by simpa using aX),wpOps_cons]
    have ho:ops.toList[i]? = some ops[i]:=by simp[aX]
    obtain⟨p,pi,hp1,hp2,abY,_,Tp⟩:=B5.each i _ ho
    have Zn:=EP i pi hp2
    obtain⟨v,ZH,hv2⟩:=vP Zn
    have hq:pi.quiet=false:=(Tp rfl).1
    have hE1:=E8 oU Zn
    have hE2:Ext lo (st (i+1)).2 H':=by
     have:∀d j,ops.size-j=d→j≤ops.size→Ext lo (st j).2 H':=by
      intro d
      induction d with
      | zero =>
        intro j hd hj;have:j=ops.size:=by omega
        subst this;rw[hsn];exact Ext.refl _ _
      |
       succ d ih =>
       intro j hd hj
       have hjl:j<qR.length:=by omega
       exact(E8 oU (EP j qR[j] (List.getElem?_eq_getElem hjl))).trans (ih (j+1) (by omega) (by omega))
     exact this _ (i+1) rfl aX
    have Cl:(List.range ops.size)[i]'(by simpa using aX)=i:=by simp
    rw[Cl]
    refine Lr (by simp[aX]) abY (fun h=>by rw[hq] at h;cases h) ZH (fun t _=>h1.env t) h1.rel gY EB (fun b Cj Ys=>hf1 b Cj (Nat.lt_of_lt_of_le Ys hE2.len)) lX fun m' rv w' Qn hR hT => ?_
    rw[hq] at hT
    simp only[Bool.false_eq_true,if_false] at hT
    refine ih (i+1) (by omega) aX m' _ w' ⟨by rw[Ef];exact h1.Ec,by rw[DK];exact h1.defs,fun t => ?_,hR⟩ (Nat.le_trans EB hE1.len) (hT.fresh hE1.len hf1) fun m2 a2 w2 h2 hT2=>hQ1 m2 a2 w2 h2 (Trans.trans hf1 hE1 hE2 hT hT2)
    rw[hv2,abY.dst]
    cases hd:ops[i].dst with
    | none=>exact(h1.env t).mono hT.ext
    |
     some d =>
     rw[NR (by rw[h1.Ec];exact abY.bound d hd)]
     show RV m' (if t=d then v else (st i).1 t) _
     by_cases e:t=d
     ·rw[if_pos e,if_pos e];exact Qn
     ·rw[if_neg e,if_neg e];exact(h1.env t).mono hT.ext
  have:=key ops.size 0 (by omega) (Nat.zero_le _) m a w (by rw[XG];exact h) (by rw[XG];exact hlen) (by rw[XG];exact hf) (by rw[XG];exact hQ)
  simpa using this
end
end Go.PM