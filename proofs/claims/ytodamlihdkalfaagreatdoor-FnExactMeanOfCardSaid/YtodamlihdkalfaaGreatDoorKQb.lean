/- Texts of a claim, in one: part 2. -/
import Derived.LoopN
import Derived.Test.YtodamlihdkalfaaGreatDoorKQa
set_option linter.unusedSimpArgs false
set_option linter.unusedVariables false
namespace Go.PM
section
variable {P:Program} {m:cQ} {L0:Nat} {H:aD} {w:World}
theorem RL.const {zs:List Value} (h:zs.all jL=true):RL m zs zs :=
 ⟨rfl,fun j hj=>by
  have:=RV.const (m:=m) (List.all_eq_true.1 h _ (List.getElem_mem hj))
  simpa[List.getD_eq_getElem?_getD,List.getElem?_eq_getElem hj] using this⟩
theorem rV (n:Nat) (zs:List Value):(cG n zs).length=n*zs.length:=by simp[cG]
theorem tL (n:Nat) {zs:List Value} (h:zs.all jL=true) (h0:1≤zs.length):RL m (cG n zs) (cG n zs):=by
 refine⟨rfl,fun i hi => ?_⟩
 rw[rV] at hi
 have aX:i % zs.length<zs.length:=Nat.mod_lt _ h0
 have e:(cG n zs).getD i undef=zs.getD (i % zs.length) undef:=by simp[cG,List.getD_eq_getElem?_getD,hi]
 rw[e]
 exact(RL.const h).2 _ aX
theorem OV (n:Nat) {zs:List Value} (h:zs.all fQ=true) (h0:1≤zs.length):(cG n zs).all fQ=true:=by
 rw[List.all_eq_true]
 intro x hx
 obtain⟨i,_,rfl⟩:=List.mem_map.1 hx
 have aX:i % zs.length<zs.length:=Nat.mod_lt _ h0
 have:=List.all_eq_true.1 h _ (List.getElem_mem aX)
 simpa[List.getD_eq_getElem?_getD,List.getElem?_eq_getElem aX] using this
theorem GN (z:Array Value) (n:Nat) (h0:1≤z.size):(madeCells z (n*z.size)).toList=cG n z.toList:=by
 apply List.ext_getElem
 ·simp[madeCells,cG]
 ·intro i h1 h2
  have aX:i % z.size<z.size:=Nat.mod_lt _ h0
  simp[madeCells,cG,aX]
theorem DZ (z:Array Value) (n:Nat) (h0:1≤z.size):(Builtin.zeroCells z n).toList=cG n z.toList:=by
 apply List.ext_getElem
 ·simp[Builtin.zeroCells,cG]
 ·intro i h1 h2
  have aX:i % z.size<z.size:=Nat.mod_lt _ h0
  simp[Builtin.zeroCells,cG,aX]
theorem Wn {t:TypeId} {agg:Bool} {size nb lo:Nat} {z:List Value} (ht:kM P t=some (agg,size,z,nb)) (Fw:z.all fQ=true) (Pq:z.all jL=true) (hR:Rel m L0 H w) (hf:m H.length=none) :
  cA P (do pure (.value (←Instr.alloc t true (.tuple #[])))) L0 lo m H w (.pointer (some ⟨H.length,0,none⟩)) (H++[.row z z.length false]):=by
 obtain⟨i,d,zz,hi,hd,FK,rfl,rfl,rfl,rfl⟩:=gX ht
 have nI:(Instr.alloc t true (.tuple #[])).run P w = .ok (.pointer (some ⟨w.heap.size,0,none⟩)) (w.alloc (.cells zz.cells t)):=by
  simp[Instr.alloc,zeroValue,typeInfo,hi,FK,newVar,newRow]
 have hA:=tS hR hf (w':=w.alloc (.cells zz.cells t)) (arr:=zz.cells) (e:=t) (fz:=(0,0)) rfl ⟨rfl,rfl,rfl⟩ (cs:=aL zz) (eR:=(aL zz).length) (Ny:=false)
  (by rw[dT];exact Nat.le_refl _) (fun i hi=>by
   have:=(RL.const (m:=m) Pq).2 i hi
   rwa [←wT,fB]) Fw (fun j _ h=>by simp at h)
 exact cA.value nI (.ptr _ 0 _ (bP m _ _)) hA.1 (hA.2 lo)
theorem UF {t:TypeId} {v r:Value} {lo:Nat} (hv:RV m v r) (hs:(aL v).all fQ=true) (hR:Rel m L0 H w) (hf:m H.length=none) :
  cA P (do pure (.value (←Instr.box t r))) L0 lo m H w (.pointer (some ⟨H.length,0,none⟩)) (H++[.row (aL v) (aL v).length false]):=by
 have nI:(Instr.box t r).run P w = .ok (.pointer (some ⟨w.heap.size,0,none⟩)) (w.alloc (.cells r.cells t)):=by
  simp[Instr.box,newVar,newRow]
 have hA:=tS hR hf (w':=w.alloc (.cells r.cells t)) (arr:=r.cells) (e:=t) (fz:=(0,0)) rfl ⟨rfl,rfl,rfl⟩ (cs:=aL v) (eR:=(aL v).length) (Ny:=false)
  (by rw[dT,hv.aL.1];exact Nat.le_refl _) (fun i hi=>by
   have:=hv.aL.2 i hi
   rwa [←wT,fB]) hs (fun j _ h=>by simp at h)
 exact cA.value nI (.ptr _ 0 _ (bP m _ _)) hA.1 (hA.2 lo)
theorem SO {t:TypeId} {agg:Bool} {size nb lo:Nat} {z:List Value} {kl kc:IntKind} {l c:Int} (ht:iN P t=some (agg,size,z,nb)) (Fw:z.all fQ=true) (Pq:z.all jL=true) (RN:size=z.length) (Cl:1≤size)
  (hl:0≤l) (hlc:l≤c) (hb:c*nb≤281474976710656) (hc:c≤9223372036854775807) (hR:Rel m L0 H w) (hf:m H.length=none) :
  cA P (do pure (.value (←Instr.makeSlice t (.int kl l) (.int kc c)))) L0 lo m H w (.slice (some ⟨H.length,0,none⟩) l.toNat c.toNat) (H++[.row (cG c.toNat z) z.length false]):=by
 obtain⟨e,hu,GH⟩:=iI ht
 obtain⟨i,d,zz,hi,hd,FK,rfl,rfl,rfl,rfl⟩:=gX GH
 have nI:=run_make (P:=P) w t e i zz hu hi FK kl kc l c hl hlc (by rw[Int.mul_comm];exact hb) hc
 have Bf:i.size=zz.cells.size:=by rw[RN,dT]
 rw[Bf] at nI Cl
 have abW:(madeCells zz.cells (c.toNat*zz.cells.size)).toList=cG c.toNat (aL zz):=by rw[GN _ _ Cl,fB]
 have aeE:(madeCells zz.cells (c.toNat*zz.cells.size)).size=c.toNat*(aL zz).length:=by rw[size_madeCells,dT]
 have Tt:1≤(aL zz).length:=by rw[←dT];exact Cl
 have hA:=tS hR hf (w':=w.alloc (.cells (madeCells zz.cells (c.toNat*zz.cells.size)) e)) (arr:=madeCells zz.cells (c.toNat*zz.cells.size)) (e:=e) (fz:=(0,0)) rfl ⟨rfl,rfl,rfl⟩
  (cs:=cG c.toNat (aL zz)) (eR:=(aL zz).length) (Ny:=false) (by rw[aeE,rV];exact Nat.le_refl _) (fun j hj=>by
   have:=(tL (m:=m) c.toNat Pq Tt).2 j hj
   rwa [←wT,abW]) (OV _ Fw Tt) (fun j _ h=>by simp at h)
 refine cA.value nI ?_ hA.1 (hA.2 lo)
 exact .slice _ 0 _ _ _ _ _ (bP m _ _) (by omega) (Nat.le_refl _) (fun _=>rfl) (.inr ⟨rfl,by simp only[aeE];omega⟩)
theorem VU {t:TypeId} {agg:Bool} {size nb lo n:Nat} {z cs:List Value} {parts:List (Nat×Operand)} {ρ:Env} {a:Act} (ht:iN P t=some (agg,size,z,nb)) (Fw:z.all fQ=true) (Pq:z.all jL=true) (RN:size=z.length) (Cl:1≤size) (hn:n*size≤16777216)
  (ZC:tB ((List.range n).map fun i=>(i*z.length,z.length)) (cG n z) (parts.map fun(i,x)=>(i,ev ρ x))=some cs) (AI:cs.all fQ=true) (hr:∀p∈parts,RV m (ev ρ p.2) (a.eval p.2))
  (hR:Rel m L0 H w) (hf:m H.length=none) :
  cA P (do pure (.value (←Instr.buildSlice t n (parts.toArray.map fun(i,x)=>(i,a.eval x))))) L0 lo m H w (.slice (some ⟨H.length,0,none⟩) n n) (H++[.row cs z.length false]):=by
 obtain⟨e,hu,GH⟩:=iI ht
 obtain⟨i,d,zz,hi,hd,FK,rfl,rfl,rfl,rfl⟩:=gX GH
 have Bf:i.size=zz.cells.size:=by rw[RN,dT]
 have Tt:1≤(aL zz).length:=by rw[←dT,←Bf];exact Cl
 have Jp:∀j q,((List.range n).map fun i=>(i*(aL zz).length,(aL zz).length))[j]? = some q→(fun i'=>some (i'*i.size,i.size):Nat→Option (Nat×Nat)) j=some q:=by
  intro j q hj
  simp only[List.getElem?_map,Option.map_eq_some_iff] at hj
  obtain⟨k,hk,rfl⟩:=hj
  have Zj:=(List.getElem?_eq_some_iff.1 hk)
  obtain⟨hk1,YE⟩:=Zj
  simp at YE
  subst YE
  rw[←RN]
 have hz:RL m (cG n (aL zz)) ((Array.range (n*i.size)).map (zz.cells[· % zz.cells.size]!)).toList:=by
  have:=tL (m:=m) n Pq Tt
  rw[Bf]
  have e1:=GN zz.cells n (by rw[←Bf];exact Cl)
  rw[fB] at e1
  show RL m _ (madeCells zz.cells (n*zz.cells.size)).toList
  rw[e1]
  exact this
 obtain⟨Iy,h1,h2⟩:=O1 (m:=m) _ _ Jp (parts.map fun(i,x)=>(i,ev ρ x)) (parts.map fun(i,x)=>(i,a.eval x)) _ _ cs
  (by simp[Function.comp_def]) (by simpa[Function.comp_def] using RL.map (l:=parts) (f:=fun p=>ev ρ p.2) (g:=fun p=>a.eval p.2) hr) hz ZC
 have hlen:cs.length=n*(aL zz).length:=by rw[Lx _ _ _ _ ZC,rV]
 have emap:(Array.map (fun x:Nat×Operand=>(x.1,a.eval x.2)) parts.toArray).toList=parts.map fun(i,x)=>(i,a.eval x):=by simp
 have QZ:¬(2^24<n*i.size):=by omega
 have nI:(Instr.buildSlice t n (parts.toArray.map fun(i,x)=>(i,a.eval x))).run P w = .ok (.slice (some ⟨w.heap.size,0,none⟩) n n) (w.alloc (.cells Iy e)):=by
  have Ue:Instr.fill (fun i'=>some (i'*i.size,i.size)) ((Array.range (n*i.size)).map (zz.cells[· % zz.cells.size]!)) (Array.map (fun x:Nat×Operand=>(x.1,a.eval x.2)) parts.toArray).toList=some Iy:=by rw[emap];exact h1
  by_cases Ur:n*i.size=0
  ·rw[Ur] at Ue
   simp only[show ∀f:Nat→Value,(Array.range 0).map f = #[] from fun f=>by simp] at Ue
   unfold Instr.buildSlice
   simp only[Sem.run_bind,run_underlying hu,Result.andThen_ok,run_sizeOf e i hi,Ur,if_true,Sem.run_pure,show ¬(0>2^24) by omega,if_false]
   rw[show ∀f:Nat→Value,(Array.range 0).map f = #[] from fun f=>by simp]
   simp only[Ue]
   simp[newRow]
  ·unfold Instr.buildSlice
   simp only[Sem.run_bind,run_underlying hu,Result.andThen_ok,run_sizeOf e i hi,Ur,if_false,Sem.run_pure,gt_iff_lt,QZ,zeroValue,typeInfo,run_program,hi,FK]
   simp only[Ue]
   simp[newRow]
 have hrs:Iy.size=n*(aL zz).length:=by rw[←hlen];simpa using h2.1.symm
 have hA:=tS hR hf (w':=w.alloc (.cells Iy e)) (arr:=Iy) (e:=e) (fz:=(0,0)) rfl ⟨rfl,rfl,rfl⟩ (cs:=cs) (eR:=(aL zz).length) (Ny:=false)
  (by rw[hlen,hrs];exact Nat.le_refl _) (fun j hj=>by rw[←wT];exact h2.2 j hj) AI (fun j _ h=>by simp at h)
 refine cA.value nI ?_ hA.1 (hA.2 lo)
 exact .slice _ 0 _ _ _ _ _ (bP m _ _) (Nat.le_refl _) (Nat.le_refl _) (fun _=>rfl) (.inr ⟨rfl,by simp only[hrs];omega⟩)
theorem QL (g:Value→ByteArray→Sem (ForInStep ByteArray)) (hg:∀n s,g (.int .u8 n) s=pure (ForInStep.yield (s.push (UInt8.ofNat n.toNat)))):∀(cs rs:List Value) (bs:List UInt8) (acc:ByteArray),RL m cs rs→rL cs=some bs→∀w,
  (forIn rs acc g).run P w = .ok ⟨(acc.data.toList++bs).toArray⟩ w:=by
 intro cs
 induction cs with
 |
  nil =>
  intro rs bs acc hr hb w
  have e0:rs=[]:=List.eq_nil_of_length_eq_zero hr.1.symm
  subst e0
  cases hb
  simp
 |
  cons c cs ih =>
  intro rs bs acc hr hb w
  cases rs with
  | nil=>exact absurd hr.1 (by simp)
  |
   cons r rs =>
   obtain⟨hc,Kb⟩:=hr.iO
   unfold rL at hb
   split at hb
   ·rename_i heq;cases heq
   ·rename_i n rest heq
    cases heq
    cases hc
    cases h2:rL cs with
    | none=>rw[h2] at hb;cases hb
    |
     some bs' =>
     rw[h2] at hb
     cases hb
     simp only[List.forIn_cons,hg,Sem.run_bind,Sem.run_pure,Result.andThen_ok]
     rw[ih rs bs' _ Kb h2 w]
     simp[ByteArray.push]
   ·cases hb
theorem UE {s d e:TypeId} {rp:Value} {lo n b off c:Nat} {cs:List Value} {bs:List UInt8} (hs:P.underlying s=some (.slice e)) (hd:P.underlying d=some .string) (he:P.underlying e=some (.int .u8))
  (RD:H.read b off n=some cs) (hb:rL cs=some bs) (hR:Rel m L0 H w) (hp:RV m (.slice (some ⟨b,off,none⟩) n c) rp) :
  cA P (do pure (.value (←convert s d rp))) L0 lo m H w (.string ⟨bs.toArray⟩) H:=by
 cases hp with
 |
  slice _ _ _ _ l ra rc hm hn hc hx ha =>
  obtain⟨rs,h1,h2,_,h3⟩:=vB hR hm RD
  have agG:(loadCells ra n).run P w = .ok rs.toArray w:=by
   rcases ha with ha | ⟨rfl,ha⟩
   ·have h0:n=0:=by omega
    subst h0
    have e0:rs=[]:=List.eq_nil_of_length_eq_zero h2
    subst e0
    rfl
   ·rw[←h2]
    exact run_loadCells_list w _ rs h3
  refine cA.value (rv := .string ⟨bs.toArray⟩) (w':=w) (m':=m) ?_ (.str _) hR (Trans.refl lo m H w)
  simp only[convert,Sem.run_bind,run_underlying hs,run_underlying hd,Result.andThen_ok,run_underlying he,Conv.bytesToString,agG,←Array.forIn_toList]
  rw[QL (P:=P) (m:=m) _ (fun n s=>rfl) cs rs bs ByteArray.empty h1 hb w]
  simp
theorem KH {t e:TypeId} {i:TypeInfo} (hu:P.underlying t=some (.slice e)) (hi:P.info? e=some i) {a:Option Addr} {n c:Nat} {lo Cq mx:Option Value} {l h k:Nat}
  (hb:(Instr.sliceBounds true n c lo Cq mx).run P w = .ok (l,h,k) w) :
  (Instr.sliceAt t (.slice a n c) lo Cq mx).run P w = .ok (.slice (if k=l then a else a.map (·.add (l*i.size))) (h-l) (k-l)) w:=by
 have h1:(Instr.sliceAt t (.slice a n c) lo Cq mx).run P w=(Instr.slice t (.slice a n c) lo Cq mx).run P w:=by
  unfold Instr.sliceAt
  rw[Sem.run_bind,run_underlying hu,Result.andThen_ok]
 rw[h1]
 unfold Instr.slice
 rw[Sem.run_bind,run_underlying hu,Result.andThen_ok]
 simp[hb,run_sizeOf e i hi]
theorem Wo {t e:TypeId} {i:TypeInfo} {lo:Nat} {x rx v:Value} {l h mx l' h' mx':Option Value} {H':aD} (hu:P.underlying t=some (.slice e)) (hi:P.info? e=some i)
  (hs:AE i.size x l h mx H=some (v,H')) (hx:RV m x rx) (hl:RO m l l') (hh:RO m h h') (hm:RO m mx mx') (hR:Rel m L0 H w) (hf:∀b,H.length≤b→b<H'.length→m b=none) :
  cA P (do pure (.value (←Instr.sliceAt t rx l' h' mx'))) L0 lo m H w v H':=by
 unfold AE at hs
 split at hs
 ·rename_i n c
  split at hs
  ·rename_i h0
   obtain⟨rfl,rfl⟩:=h0
   cases hx
   split at hs
   ·cases hs
   ·rename_i M hM
    split at hs
    ·cases hs
    ·rename_i hb hhb
     split at hs
     ·cases hs
     ·rename_i lb CD
      cases hs
      have key:∃k1 k2 k3,(Instr.sliceBounds true 0 0 l' h' mx').run P w = .ok (k1,k2,k3) w∧k1=0∧k2=0∧k3=0:=by
       rcases mG (P:=P) hM hm with⟨rfl,rfl,e1⟩ | ⟨_,r1,rfl,rfl,q1,e1⟩<;>rcases mG (P:=P) hhb hh with⟨_,rfl,e2⟩ | ⟨_,r2,_,rfl,q2,e2⟩<;>rcases mG (P:=P) CD hl with⟨_,rfl,e3⟩ | ⟨_,r3,_,rfl,q3,e3⟩
       ·cases e1;cases e2;cases e3
        exact⟨0,0,0,rfl,rfl,rfl,rfl⟩
       ·cases e1;cases e2
        exact⟨lb,0,0,by simp[Instr.sliceBounds,e3 0 (Nat.le_refl _)],by omega,rfl,rfl⟩
       ·cases e1;cases e3
        exact⟨0,hb,0,by simp[Instr.sliceBounds,e2 0 (Nat.le_refl _)],rfl,by omega,rfl⟩
       ·cases e1
        exact⟨lb,hb,0,by simp[Instr.sliceBounds,e2 0 (Nat.le_refl _),e3 hb (Nat.le_refl _)],by omega,by omega,rfl⟩
       ·cases e2
       ·cases e2
       ·cases e3
        exact⟨0,hb,M,by simp[Instr.sliceBounds,e1 0 (Nat.le_refl _),e2 M (Nat.le_refl _)],rfl,by omega,by omega⟩
       ·exact⟨lb,hb,M,by simp[Instr.sliceBounds,e1 0 (Nat.le_refl _),e2 M (Nat.le_refl _),e3 hb (Nat.le_refl _)],by omega,by omega,by omega⟩
      obtain⟨k1,k2,k3,hk,rfl,rfl,rfl⟩:=key
      exact cA.value (KH hu hi hk) (by simpa using RV.Js) hR (Trans.refl lo m H w)
  ·cases hs
 ·rename_i b o n c
  cases hx with
  |
   slice _ _ _ _ lc ra rc PA Un hcr hxp ha =>
   split at hs
   ·rename_i cells es p So
    obtain⟨g1,g2,g3,g4⟩:=hR.row b lc cells es p PA So
    split at hs
    ·rename_i JL
     subst JL
     split at hs
     ·cases hs
     ·rename_i M hM
      split at hs
      ·cases hs
      ·rename_i hb hhb
       split at hs
       ·cases hs
       ·rename_i lb CD
        have key:∃k3,(Instr.sliceBounds true n rc l' h' mx').run P w = .ok (lb,hb,k3) w∧lb≤hb∧hb≤M∧M≤c∧((mx=none∧k3=rc∧M=c)∨(mx.isSome=true∧k3=M)):=by
         rcases mG (P:=P) hM hm with⟨rfl,rfl,e1⟩ | ⟨_,r1,rfl,rfl,q1,e1⟩<;>rcases mG (P:=P) hhb hh with⟨_,rfl,e2⟩ | ⟨_,r2,_,rfl,q2,e2⟩<;>rcases mG (P:=P) CD hl with⟨_,rfl,e3⟩ | ⟨_,r3,_,rfl,q3,e3⟩
         ·cases e1;cases e2;cases e3
          exact⟨rc,rfl,Nat.zero_le _,Un,Nat.le_refl _,.inl ⟨rfl,rfl,rfl⟩⟩
         ·cases e1;cases e2
          exact⟨rc,by simp[Instr.sliceBounds,e3 n (Nat.le_refl _)],q3,Un,Nat.le_refl _,.inl ⟨rfl,rfl,rfl⟩⟩
         ·cases e1;cases e3
          exact⟨rc,by simp[Instr.sliceBounds,e2 rc hcr],Nat.zero_le _,q2,Nat.le_refl _,.inl ⟨rfl,rfl,rfl⟩⟩
         ·cases e1
          exact⟨rc,by simp[Instr.sliceBounds,e2 rc hcr,e3 hb (Nat.le_refl _)],q3,q2,Nat.le_refl _,.inl ⟨rfl,rfl,rfl⟩⟩
         ·cases e2
         ·cases e2
         ·cases e3
          exact⟨M,by simp[Instr.sliceBounds,e1 rc hcr,e2 M (Nat.le_refl _)],Nat.zero_le _,q2,q1,.inr ⟨rfl,rfl⟩⟩
         ·exact⟨M,by simp[Instr.sliceBounds,e1 rc hcr,e2 M (Nat.le_refl _),e3 hb (Nat.le_refl _)],q3,q2,q1,.inr ⟨rfl,rfl⟩⟩
        obtain⟨k3,hk,hlh,hhM,hMc,HF⟩:=key
        have nI:=KH (a:=some ra) hu hi hk
        have place:k3-lb=0∨((if k3=lb then some ra else (some ra).map (·.add (lb*i.size)))=some (⟨lc.rb,lc.base+(o+lb*i.size),none⟩:Addr)∧lc.base+(o+lb*i.size)+(k3-lb)*lc.eR≤lc.MI):=by
         by_cases hz:k3-lb=0
         ·exact .inl hz
         ·right
          have hk3:k3≤rc:=by rcases HF with⟨_,rfl,_⟩ | ⟨_,rfl⟩<;>omega
          rcases ha with ha | ⟨rfl,ha⟩
          ·omega
          ·rw[if_neg (by omega)]
           refine⟨by simp[Addr.add_lit,Nat.add_assoc],?_⟩
           rw[g1] at ha ⊢
           have e1:(k3-lb)*i.size=k3*i.size-lb*i.size:=Nat.sub_mul _ _ _
           have e2:lb*i.size≤k3*i.size:=Nat.mul_le_mul_right _ (by omega)
           have e3:k3*i.size≤rc*i.size:=Nat.mul_le_mul_right _ hk3
           omega
        obtain⟨ra',aeT⟩:∃ra',(if k3=lb then some ra else (some ra).map (·.add (lb*i.size)))=some ra':=by split<;>exact⟨_,rfl⟩
        rw[aeT] at nI
        have aaQ:k3-lb=0∨(ra'=⟨lc.rb,lc.base+(o+lb*i.size),none⟩∧lc.base+(o+lb*i.size)+(k3-lb)*lc.eR≤lc.MI):=by
         rcases place with hp | ⟨hp1,hp2⟩
         ·exact .inl hp
         ·rw[aeT] at hp1
          exact .inr ⟨by injection hp1,hp2⟩
        split at hs
        ·rename_i ajL
         cases hs
         obtain⟨afJ,hMl⟩:=ajL
         rcases HF with⟨rfl,_⟩ | ⟨_,rfl⟩
         ·cases afJ
         ·have hA:=Ti hR (hf H.length (Nat.le_refl _) (by simp)) PA i.size
          refine cA.value (rv := .slice (some ra') 0 0) (by rw[nI];congr 2<;>omega) ?_ hA.1 (hA.2 lo)
          exact .slice _ 0 0 0 _ _ 0 (bP m _ _) (Nat.le_refl _) (Nat.le_refl _) (fun _=>rfl) (.inl rfl)
        ·cases hs
         refine cA.value nI ?_ hR (Trans.refl lo m H w)
         refine .slice b _ _ _ lc _ _ PA (by omega) ?_ ?_ aaQ
         ·rcases HF with⟨_,rfl,rfl⟩ | ⟨_,rfl⟩<;>omega
         ·intro ho
          have:=hxp ho
          rcases HF with⟨_,rfl,rfl⟩ | ⟨_,rfl⟩<;>omega
    ·cases hs
   ·cases hs
 ·cases hs
end
end Go.PM
namespace Go.PM
section
variable {P:Program} {m:cQ} {L0:Nat} {H:aD} {w:World}
theorem Q1 {t:TypeId} {i:TypeInfo} {lo b o:Nat} {v r rp:Value} {H':aD} (hi:P.info? t=some i) (hp:RV m (.pointer (some ⟨b,o,none⟩)) rp) (hv:RV m v r) (hs:(aL v).length=i.size)
  (hw:H.write lo b o (aL v)=some H') (hR:Rel m L0 H w) (gV:L0≤lo) :
  cA P (do Instr.storeAt t rp r;pure .skip) L0 lo m H w undef H':=by
 cases hp with
 |
  ptr _ _ l hm =>
  obtain⟨w',s1,s2,s3⟩:=Ce P hR gV hm hw hv.aL
  refine⟨undef,w',m,.inr ⟨?_,rfl⟩,RV.undef m,s2,s3⟩
  have Bf:r.cells.size=i.size:=by rw[dT,←hv.aL.1,hs]
  have h1:(Instr.storeAt t (.pointer (some ⟨l.rb,l.base+o,none⟩)) r).run P w = .ok () w':=by
   show (storeVar t ⟨l.rb,l.base+o,none⟩ r).run P w=_
   unfold storeVar
   simp only[Sem.run_bind,run_sizeOf t i hi,Result.andThen_ok,Bf,ne_eq,not_true_eq_false,if_false,fB]
   exact s1
  rw[Sem.run_bind,h1]
  rfl
theorem FA {pv rv:Value} {k:Nat} (h:pG pv=some k) (hr:RV m pv rv):Builtin.lenOf rv=pure k:=by
 unfold pG at h
 split at h
 ·cases h;cases hr<;>rfl
 ·cases h;cases hr;rfl
 ·cases h
theorem Av (a b:Array Value) (xs:List Value) (h:a.toList=xs) (i:Nat) (hi:i<xs.length):(a++b).getD i undef=xs.getD i undef:=by
 subst h
 have:i<a.size:=by simpa using hi
 simp[Array.getD_eq_getD_getElem?,Array.getElem?_append_left this,List.getD_eq_getElem?_getD]
theorem U6 {t u ty:TypeId} {agg:Bool} {size bytes lo k:Nat} {z:List Value} {d:TypeDesc} {x y rx ry v:Value} {new:List Value} {H':aD} (ht:iN P t=some (agg,size,z,bytes)) (hu:P.underlying u=some d) (hd:Hy d=true)
  (hk:pG y=some k) (yP:iF H size k y=some new) (sM:dI lo size bytes x k new H=some (v,H')) (hx:RV m x rx) (hy:RV m y ry) (RN:size=z.length)
  (hR:Rel m L0 H w) (gV:L0≤lo) (hf:∀b,H.length≤b→b<H'.length→m b=none) :
  cA P (do pure (.value (←Builtin.append_ #[t,u] ty #[rx,ry]))) L0 lo m H w v H':=by
 obtain⟨e,GH,Me⟩:=iI ht
 obtain⟨i,de,zz,hi,_,FK,rfl,rfl,rfl,rfl⟩:=gX Me
 obtain⟨nQ,h1,h2,h3⟩:=GD yP hk (Nat.le_refl _) hR hy
 have hl:=FA hk hy
 have Cn:1≤i.bytes:=by
  unfold dI at sM
  split at sM
  ·rename_i h;exact h.1
  ·cases sM
 have hnl:new.length=k*i.size:=by
  unfold dI at sM
  split at sM
  ·rename_i h;exact h.2.2.2
  ·cases sM
 obtain⟨rv,w',m',g1,g2,g3,g4⟩:=GF (P:=P) (s:=Builtin.append_ #[t,u] ty #[rx,ry]) (e:=e) sM hR gV hx h1 hf
  (fun a n c w' GX Ag EZ=>by
   subst GX
   exact LJ GH hu hd hi hl (h3 w rfl) Ag EZ)
  (fun GX hk0=>by
   subst GX
   subst hk0
   exact NI GH hu hd hi hl (h3 w rfl))
  (fun base n c AG GX WA iC hg hb=>by
   subst GX
   refine⟨grownCap w (n+k) c e,_,grownCap_ge w _ _ _,MM GH hu hd hi FK hl WA (h3 w.drew rfl) hg Cn hb,?_,?_⟩
   ·have Cp:=grownCap_ge w (n+k) c e
    have Hi:nQ.length=k*i.size:=by rw[←h1.1,hnl]
    simp only[Array.size_append,List.size_toArray,size_zeroCells,iC,Hi]
    rw[←dT] at RN
    rw[←RN,←Nat.add_mul,←Nat.add_mul]
    congr 1
    omega
   ·intro j hj
    exact Av _ _ _ (by simp) j hj)
 exact cA.value g1 g2 g3 g4
section
variable {t u ty e:TypeId} {ku:IntKind} {i:TypeInfo} {zz:Value} {k:Nat}
theorem DJ {k:Nat} (h:k≤140737488355328):IntKind.i64.wrap (k:Int)=(k:Int):=by rw[IntKind.wrap_i64];omega
theorem JM (ht:P.underlying t=some (.slice e)) (hu:P.underlying u=some (.int ku)) (hi:P.info? e=some i) (FK:i.zero=some zz) (hk:k≤140737488355328) (Jy:k*i.bytes≤140737488355328)
  {a:Addr} {n c:Nat} {w':World} (Ag:n+k≤c) (hz:k*i.size=0→Builtin.zeroCells zz.cells k = #[]) (EZ:(storeCells (a.add (n*i.size)) (Builtin.zeroCells zz.cells k).toList).run P w = .ok () w') :
  (Builtin.append_ #[t,u] ty #[.slice (some a) n c,.int .i64 k]).run P w = .ok (.slice (some a) (n+k) c) w':=by
 have h0:¬((k:Int)<0):=by omega
 have hb:¬(281474976710656<(k:Int)*(i.bytes:Int)):=by rw[←Int.natCast_mul];omega
 by_cases Cl:k*i.size=0
 ·rw[hz Cl] at EZ
  simp[Builtin.append_,run_underlying ht,run_underlying hu,run_sizeOf e i hi,asInt,asIntOf,DJ hk,typeInfo,hi,h0,hb,Ag,Cl,EZ]
 ·simp[Builtin.append_,run_underlying ht,run_underlying hu,run_sizeOf e i hi,asInt,asIntOf,DJ hk,typeInfo,hi,h0,hb,Ag,Cl,zeroValue,FK,EZ]
theorem LU (ht:P.underlying t=some (.slice e)) (hu:P.underlying u=some (.int ku)) (hi:P.info? e=some i) :
  (Builtin.append_ #[t,u] ty #[.slice none 0 0,.int .i64 (0:Nat)]).run P w = .ok (.slice none 0 0) w:=by
 have hw:IntKind.i64.wrap 0=0:=rfl
 simp[Builtin.append_,run_underlying ht,run_underlying hu,run_sizeOf e i hi,asInt,asIntOf,hw,typeInfo,hi]
theorem JQ (ht:P.underlying t=some (.slice e)) (hu:P.underlying u=some (.int ku)) (hi:P.info? e=some i) (FK:i.zero=some zz) (hk:k≤140737488355328) (Jy:k*i.bytes≤140737488355328)
  {base:Option Addr} {n c:Nat} {AG:List Value} (WA:(Builtin.firstCells i.size n (.slice base n c)).run P w.drew = .ok AG.toArray w.drew) (hz:k*i.size=0→Builtin.zeroCells zz.cells k = #[])
  (hg:c<n+k) (Cn:1≤i.bytes) (Ii:(n+k)*i.bytes≤140737488355328) :
  (Builtin.append_ #[t,u] ty #[.slice base n c,.int .i64 k]).run P w = .ok (.slice (some ⟨w.heap.size,0,none⟩) (n+k) (grownCap w (n+k) c e))
   (w.drew.alloc (.cells (AG.toArray++Builtin.zeroCells zz.cells k++Builtin.zeroCells zz.cells (grownCap w (n+k) c e-(n+k))) e)):=by
 have vF:=growslice_fits (bytes:=i.bytes) hg Ii
 have h0:¬((k:Int)<0):=by omega
 have hb:¬(281474976710656<(k:Int)*(i.bytes:Int)):=by rw[←Int.natCast_mul];omega
 have h1:¬(n+k≤c):=by omega
 have h2:¬(281474976710656<Builtin.nextslicecap (n+k) c*i.bytes):=by omega
 have h4:n+k≤140737488355328:=Nat.le_trans (Nat.le_mul_of_pos_right _ Cn) Ii
 have h3:¬(9223372036854775807<(n:Int)+(k:Int)):=by omega
 by_cases Cl:k*i.size=0
 ·have e0:=hz Cl
  simp[Builtin.append_,run_underlying ht,run_underlying hu,run_sizeOf e i hi,asInt,asIntOf,DJ hk,typeInfo,hi,h0,hb,h1,h2,h3,e0,zeroValue,FK,Question.forced,WA,newRow,grownCap]
 ·simp[Builtin.append_,run_underlying ht,run_underlying hu,run_sizeOf e i hi,asInt,asIntOf,DJ hk,typeInfo,hi,h0,hb,h1,h2,h3,Cl,zeroValue,FK,Question.forced,WA,newRow,grownCap]
end
theorem T3 {t u ty:TypeId} {agg:Bool} {size bytes lo:Nat} {z:List Value} {ku:IntKind} {n:Int} {x rx v:Value} {H':aD} (ht:iN P t=some (agg,size,z,bytes)) (hu:P.underlying u=some (.int ku))
  (hn:0≤n∧n*bytes≤140737488355328) (sM:dI lo z.length bytes x n.toNat (cG n.toNat z) H=some (v,H')) (hx:RV m x rx) (RN:size=z.length) (Fw:z.all fQ=true) (Pq:z.all jL=true) (Cl:1≤z.length)
  (hR:Rel m L0 H w) (gV:L0≤lo) (hf:∀b,H.length≤b→b<H'.length→m b=none) :
  cA P (do pure (.value (←Builtin.append_ #[t,u] ty #[rx,.int .i64 n]))) L0 lo m H w v H':=by
 obtain⟨e,GH,Me⟩:=iI ht
 obtain⟨i,de,zz,hi,_,FK,rfl,rfl,rfl,rfl⟩:=gX Me
 obtain⟨k,rfl⟩:=Int.eq_ofNat_of_zero_le hn.1
 simp only[Int.toNat_natCast] at sM
 have Cn:1≤i.bytes:=by
  unfold dI at sM
  split at sM
  ·rename_i h;exact h.1
  ·cases sM
 have Jy:k*i.bytes≤140737488355328:=by have:=hn.2;omega
 have hk:k≤140737488355328:=Nat.le_trans (Nat.le_mul_of_pos_right _ Cn) Jy
 have Bf:i.size=zz.cells.size:=by rw[RN,dT]
 have Tt:1≤zz.cells.size:=by rw[dT];exact Cl
 have rG:(Builtin.zeroCells zz.cells k).toList=cG k (aL zz):=by rw[DZ _ _ Tt,fB]
 have agS:k*i.size=0→Builtin.zeroCells zz.cells k = #[]:=by
  intro h0
  apply Array.ext'
  rw[rG]
  exact List.eq_nil_of_length_eq_zero (by rw[rV,←RN];exact h0)
 obtain⟨rv,w',m',g1,g2,g3,g4⟩:=GF (P:=P) (s:=Builtin.append_ #[t,u] ty #[rx,.int .i64 k]) (e:=e) (nQ:=cG k (aL zz)) sM hR gV hx (tL k Pq Cl) hf
  (fun a n c w' GX Ag EZ=>by
   subst GX
   exact JM GH hu hi FK hk Jy Ag agS (by rw[rG,RN];exact EZ))
  (fun GX hk0=>by
   subst GX
   subst hk0
   exact LU GH hu hi)
  (fun base n c AG GX WA iC hg hb=>by
   subst GX
   refine⟨grownCap w (n+k) c e,_,grownCap_ge w _ _ _,JQ GH hu hi FK hk Jy (by rw[RN];exact WA) agS hg Cn hb,?_,?_⟩
   ·have Cp:=grownCap_ge w (n+k) c e
    simp only[Array.size_append,List.size_toArray,size_zeroCells,iC,dT]
    rw[←Nat.add_mul,←Nat.add_mul]
    congr 1
    omega
   ·intro j hj
    exact Av _ _ _ (by simp[rG]) j hj)
 exact cA.value g1 g2 g3 g4
theorem Sx {t ty:TypeId} {ts:List TypeId} {agg:Bool} {size bytes lo b o d c k:Nat} {z new:List Value} {y rx ry:Value} {H':aD} (ht:iN P t=some (agg,size,z,bytes))
  (hk:pG y=some k) (yP:iF H size (Nat.min k d) y=some new) (hw:H.write lo b o new=some H') (hx:RV m (.slice (some ⟨b,o,none⟩) d c) rx) (hy:RV m y ry)
  (hR:Rel m L0 H w) (gV:L0≤lo) :
  cA P (do pure (.value (←Builtin.copy_ (t::ts).toArray ty #[rx,ry]))) L0 lo m H w (.int .i64 (Nat.min k d)) H':=by
 obtain⟨e,GH,Me⟩:=iI ht
 obtain⟨i,de,zz,hi,_,FK,rfl,rfl,rfl,rfl⟩:=gX Me
 obtain⟨nQ,h1,h2,h3⟩:=GD (P:=P) yP hk (Nat.min_le_left _ _) hR hy
 have hl:=FA hk hy
 cases hx with
 |
  slice _ _ _ _ l ra rc hm hn hc hxp ha =>
  rcases ha with ha | ⟨rfl,ha⟩
  ·have BG:d=0:=by omega
   subst BG
   have YC:Nat.min k 0=0:=Nat.min_zero k
   rw[YC] at yP h3 ⊢
   have rG:new=[]:=by
    have:nQ.length=new.length:=h1.1.symm
    unfold iF at yP
    split at yP
    ·obtain⟨_,_,_,_,_,_,hlen⟩:=Lc yP
     exact List.eq_nil_of_length_eq_zero (by simpa using hlen)
    ·split at yP
     ·cases yP;rfl
     ·cases yP
    ·split at yP
     ·cases yP;simp
     ·cases yP
    ·cases yP
   subst rG
   have hrn:nQ=[]:=List.eq_nil_of_length_eq_zero h1.1.symm
   subst hrn
   have hHH:H'=H:=by
    obtain⟨cs,e',p',q1,q2,q3,q4,rfl⟩:=zQ hw
    apply List.ext_getElem?
    intro j
    by_cases hj:b=j
    ·subst hj
     rw[List.getElem?_set_self (List.getElem?_eq_some_iff.1 q1).1,q1]
     simp[gY]
    ·rw[List.getElem?_set_ne hj]
   rw[hHH]
   refine cA.value (rv := .int .i64 0) (w':=w) ?_ (.int _ _) hR (Trans.refl lo m _ w)
   have hf0:=h3 w rfl
   simp[Builtin.copy_,run_underlying GH,hl,run_sizeOf e i hi,goInt,hf0,storeCells]
  ·obtain⟨w',s1,s2,s3⟩:=Ce P hR gV hm hw h1
   refine cA.value (rv := .int .i64 (Nat.min k d)) ?_ (.int _ _) s2 s3
   have hf0:=h3 w rfl
   unfold Builtin.copy_
   simp only[List.getElem?_toArray,List.getElem?_cons_zero,List.getElem?_cons_succ,Sem.run_bind,run_underlying GH,Result.andThen_ok,hl,Sem.run_pure,run_sizeOf e i hi]
   rw[hf0]
   simp only[Result.andThen_ok,s1,goInt]
theorem QB {t ty e:TypeId} {ts:List TypeId} {i:TypeInfo} {zz:Value} {lo b o n c:Nat} {rx:Value} {H':aD} (GH:P.underlying t=some (.slice e)) (hi:P.info? e=some i) (FK:i.zero=some zz)
  (Ur:n≠0) (hw:H.write lo b o (cG n (aL zz))=some H') (hx:RV m (.slice (some ⟨b,o,none⟩) n c) rx) (Pq:(aL zz).all jL=true) (Cl:1≤(aL zz).length) (hR:Rel m L0 H w) (gV:L0≤lo) :
  cA P (do pure (.value (←Builtin.clear_ (t::ts).toArray ty #[rx]))) L0 lo m H w undef H':=by
 cases hx with
 |
  slice _ _ _ _ l ra rc hm hn hc hxp ha =>
  rcases ha with ha | ⟨rfl,ha⟩
  ·omega
  ·obtain⟨w',s1,s2,s3⟩:=Ce P hR gV hm hw (tL n Pq Cl)
   have rG:(Builtin.zeroCells zz.cells n).toList=cG n (aL zz):=by rw[DZ _ _ (by rw[dT];exact Cl),fB]
   refine cA.value (rv:=undef) ?_ (RV.undef m) s2 s3
   rw[←rG] at s1
   obtain⟨n',rfl⟩:∃n',n=n'+1:=⟨n-1,by omega⟩
   simp[Builtin.clear_,run_underlying GH,zeroValue,typeInfo,hi,FK,s1,undef]
theorem Gm {t ty e:TypeId} {ts:List TypeId} {lo c:Nat} {a:Option Addr} {rx:Value} (GH:P.underlying t=some (.slice e)) (hx:RV m (.slice a 0 c) rx) (hR:Rel m L0 H w) :
  cA P (do pure (.value (←Builtin.clear_ (t::ts).toArray ty #[rx]))) L0 lo m H w undef H:=by
 refine cA.value (rv:=undef) (w':=w) ?_ (RV.undef m) hR (Trans.refl lo m _ w)
 cases hx<;>simp[Builtin.clear_,run_underlying GH,undef]
end
end Go.PM
namespace Go.PM
section
variable {P:Program} {m:cQ} {L0:Nat} {H:aD} {w:World}
theorem BJ {po:lM} {ρ:Env} {v:Value} {H':aD} (h:(gR po ρ).map (Out.val · H)=some (.val v H')):gR po ρ=some v∧H'=H:=by
 cases hp:gR po ρ with
 | none=>rw[hp] at h;cases h
 | some u=>rw[hp] at h;cases h;exact⟨rfl,rfl⟩
def qU:lM→Bool
 | .load .. | .sub .. | .b2s _ | .new _ | .box _ | .make .. | .lit .. | .call .. | .store .. | .app .. | .appz .. | .copy .. | .clear .. | .callv .. => false
 | _=>true
theorem uF {lo:Nat} {po:lM} {ρ:Env} (h:qU po=true):pop lo po ρ H=(gR po ρ).map (.val · H):=by
 cases po<;>first | rfl | cases h
theorem M7 {pv rv:Value} {k:Nat} (size:Nat) (h:pG pv=some k) (hr:RV m pv rv):(Builtin.firstCells size 0 rv).run P w = .ok #[] w:=by
 unfold pG at h
 split at h
 ·cases hr
  ·rfl
  ·simp only[Builtin.firstCells,Nat.zero_mul]
   rfl
 ·cases hr
  simp[Builtin.firstCells]
 ·cases h
theorem Sq {o:Oper} {po:lM} {ρ:Env} {a:Act} {lo:Nat} {v:Value} {H':aD} (hp:nN P o.op=some po) (hv:pop lo po ρ H=some (.val v H')) (hr:∀x∈o.op.operands,RV m (ev ρ x) (a.eval x))
  (hR:Rel m L0 H w) (gV:L0≤lo) (hf:∀b,H.length≤b→b<H'.length→m b=none):cA P (execOp a.eval o) L0 lo m H w v H':=by
 by_cases iB:qU po=true
 ·rw[uF iB] at hv
  obtain⟨h1,rfl⟩:=BJ hv
  obtain⟨rv,h2,h3⟩:=Vr hp h1 hr
  exact⟨rv,w,m,.inl (h3 w),h2,hR,Trans.refl lo m _ w⟩
 obtain⟨dst,op,type,pos,after,guard⟩:=o
 unfold nN at hp
 simp only at hp hr ⊢
 split at hp
 case isFalse=>cases hp
 cases op with
 | move x=>cases hp;exact absurd rfl iB
 | assign x=>cases hp;exact absurd rfl iB
 | pick c x y=>cases hp;exact absurd rfl iB
 |
  binOp op t x y yt =>
  unfold zT at hp
  simp only at hp
  split at hp
  ·cases hp;exact absurd rfl iB
  ·cases hp;exact absurd rfl iB
  ·split at hp<;>first | (cases hp;done) | (cases hp;exact absurd rfl iB)
  ·split at hp<;>first | (cases hp;done) | (split at hp<;>first | (cases hp;done) | (cases hp;exact absurd rfl iB))
  ·split at hp<;>first | (cases hp;done) | (cases hp;exact absurd rfl iB)
  ·cases hp
 | unOp op t x=>cases hp;exact absurd rfl iB
 | extract x i=>cases hp;exact absurd rfl iB
 |
  convert s d x =>
  have hx:=hr x (by simp[Op.operands])
  simp only at hp
  split at hp
  ·cases hp;exact absurd rfl iB
  ·cases hp;exact absurd rfl iB
  ·rename_i e hs hd
   split at hp
   ·rename_i he
    cases hp
    simp only[pop] at hv
    split at hv
    ·rename_i n c S6
     cases hv
     rw[S6] at hx
     show cA P (do pure (.value (←convert s d (a.eval x)))) L0 lo m H w _ H
     generalize a.eval x=rx at hx ⊢
     cases hx
     refine cA.value (rv := .string ByteArray.empty) ?_ (.str _) hR (Trans.refl lo m _ w)
     simp[convert,run_underlying hs,run_underlying hd,run_underlying he,Conv.bytesToString]
    ·rename_i b o n c S6
     split at hv
     ·rename_i cs Kb
      cases hb:rL cs with
      | none=>rw[hb] at hv;cases hv
      |
       some bs =>
       rw[hb] at hv
       cases hv
       rw[S6] at hx
       exact UE hs hd he Kb hb hR hx
     ·cases hv
    ·cases hv
   ·cases hp
  ·cases hp
 |
  field t x i =>
  simp only at hp
  split at hp
  ·split at hp
   ·rename_i f hf'
    cases ht:kM P f.type with
    | none=>rw[ht] at hp;cases hp
    | some q=>rw[ht] at hp;cases hp;exact absurd rfl iB
   ·cases hp
  ·cases hp
 |
  build t parts =>
  simp only at hp
  split at hp
  ·split at hp
   ·split at hp
    ·cases hp;exact absurd rfl iB
    ·cases hp
   ·cases hp
  ·cases hp
 | nilCheck x=>cases hp;exact absurd rfl iB
 |
  fieldAddr t x i =>
  simp only at hp
  split at hp
  ·split at hp
   ·split at hp
    ·split at hp
     ·cases hp
     ·cases hp;exact absurd rfl iB
    ·cases hp
   ·cases hp
  ·cases hp
 |
  indexAddr t x i =>
  simp only at hp
  cases ht:iN P t with
  | none=>rw[ht] at hp;cases hp
  | some q=>rw[ht] at hp;cases hp;exact absurd rfl iB
 |
  index t x i =>
  simp only at hp
  split at hp
  ·cases hp;exact absurd rfl iB
  ·cases hp
 |
  slice t x AJ hi mx =>
  have hx:=hr x (by simp[Op.operands])
  simp only at hp
  split at hp
  ·split at hp
   ·cases hp;exact absurd rfl iB
   ·cases hp
  ·rename_i e hu
   cases ht:kM P e with
   | none=>rw[ht] at hp;cases hp
   |
    some q =>
    obtain⟨agg,size,z,nb⟩:=q
    rw[ht] at hp
    cases hp
    obtain⟨i,d,zz,Cq,_,_,rfl,rfl,rfl,rfl⟩:=gX ht
    simp only[pop] at hv
    cases hs:AE i.size (ev ρ x) (AJ.map (ev ρ)) (hi.map (ev ρ)) (mx.map (ev ρ)) H with
    | none=>rw[hs] at hv;cases hv
    |
     some q =>
     obtain⟨u,H1⟩:=q
     rw[hs] at hv
     cases hv
     exact Wo hu Cq hs hx (RO.map fun y hy=>hr y (by simp[Op.operands,hy])) (RO.map fun y hy=>hr y (by simp[Op.operands,hy])) (RO.map fun y hy=>hr y (by simp[Op.operands,hy])) hR hf
  ·cases hp
 |
  makeFunc fn first fA =>
  cases fn with
  |
   func f =>
   simp only at hp
   split at hp
   ·cases hp;exact absurd rfl iB
   ·cases hp
  | _=>cases hp
 | makeInterface t x=>cases hp;exact absurd rfl iB
 | panic x=>cases hp;exact absurd rfl iB
 |
  load t p =>
  have hx:=hr p (by simp[Op.operands])
  simp only at hp
  cases ht:kM P t with
  | none=>rw[ht] at hp;cases hp
  |
   some q =>
   obtain⟨agg,size,z,nb⟩:=q
   rw[ht] at hp
   cases hp
   simp only[pop] at hv
   cases hl:lR agg size (ev ρ p) H with
   | none=>rw[hl] at hv;cases hv
   |
    some u =>
    rw[hl] at hv
    cases hv
    obtain⟨rv,h1,h2⟩:=Lf ht hl hR hx
    exact cA.value h2 h1 hR (Trans.refl lo m _ w)
 |
  store t p x =>
  have hpp:=hr p (by simp[Op.operands])
  have hx:=hr x (by simp[Op.operands])
  simp only at hp
  cases ht:P.info? t with
  | none=>rw[ht] at hp;cases hp
  |
   some i =>
   rw[ht] at hp
   cases hp
   simp only[pop] at hv
   split at hv
   ·rename_i b o hpo
    split at hv
    ·rename_i hs
     cases hw:H.write lo b o (aL (ev ρ x)) with
     | none=>rw[hw] at hv;cases hv
     |
      some H1 =>
      rw[hw] at hv
      cases hv
      rw[hpo] at hpp
      exact Q1 ht hpp hx hs hw hR gV
    ·cases hv
   ·cases hv
 |
  alloc t =>
  simp only at hp
  split at hp
  ·rename_i agg size z nb ht
   split at hp
   ·rename_i hz
    cases hp
    simp only[Bool.and_eq_true] at hz
    cases hv
    exact Wn ht hz.1 hz.2 hR (hf _ (Nat.le_refl _) (by simp))
   ·cases hp
  ·cases hp
 |
  box t x =>
  have hx:=hr x (by simp[Op.operands])
  cases hp
  simp only[pop] at hv
  split at hv
  ·rename_i hs
   cases hv
   exact UF hx hs hR (hf _ (Nat.le_refl _) (by simp))
  ·cases hv
 |
  makeSlice t l c =>
  have hl:=hr l (by simp[Op.operands])
  have hc:=hr c (by simp[Op.operands])
  simp only at hp
  split at hp
  ·rename_i agg size z nb ht
   split at hp
   ·rename_i hz
    cases hp
    simp only[Bool.and_eq_true,beq_iff_eq,decide_eq_true_eq] at hz
    obtain⟨⟨⟨z1,z2⟩,z3⟩,z4⟩:=hz
    simp only[pop] at hv
    split at hv
    ·rename_i l' c' A7 hc'
     split at hv
     ·rename_i hb
      cases hv
      rw[A7] at hl
      rw[hc'] at hc
      show cA P (do pure (.value (←Instr.makeSlice t (a.eval l) (a.eval c)))) L0 lo m H w _ _
      generalize a.eval l=rl at hl ⊢
      generalize a.eval c=rc at hc ⊢
      cases hl
      cases hc
      exact SO ht z1 z2 z3 z4 hb.1 hb.2.1 hb.2.2.1 hb.2.2.2 hR (hf _ (Nat.le_refl _) (by simp))
     ·cases hv
    ·cases hv
   ·cases hp
  ·cases hp
 |
  buildSlice t n parts =>
  simp only at hp
  split at hp
  ·rename_i agg size z nb ht
   split at hp
   ·rename_i hz
    cases hp
    simp only[Bool.and_eq_true,beq_iff_eq,decide_eq_true_eq] at hz
    obtain⟨⟨⟨⟨z1,z2⟩,z3⟩,z4⟩,z5⟩:=hz
    simp only[pop] at hv
    split at hv
    ·rename_i cs Kb
     split at hv
     ·rename_i AI
      cases hv
      have:=VU (P:=P) (w:=w) (lo:=lo) (a:=a) ht z1 z2 z3 z4 z5 Kb AI (fun p hpm=>hr p.2 (by simp only[Op.operands];simp;exact⟨p.1,by simpa using hpm⟩)) hR (hf _ (Nat.le_refl _) (by simp))
      rw[Array.toArray_toList] at this
      exact this
     ·cases hv
    ·cases hv
   ·cases hp
  ·cases hp
 |
  call c =>
  obtain⟨callee,args,ts⟩:=c
  cases callee with
  |
   builtin b =>
   have Pv:∀x∈args,RV m (ev ρ x) (a.eval x):=fun x hx=>hr x (by simpa[Op.operands,Call.operands] using hx)
   simp only at hp
   unfold mR at hp
   split at hp
   ·split at hp<;>first | (cases hp;done) | (cases hp;exact absurd rfl iB)
   ·split at hp<;>first | (cases hp;done) | (cases hp;exact absurd rfl iB)
   ·cases hp;exact absurd rfl iB
   ·cases hp;exact absurd rfl iB
   ·rename_i x y t u BI vL X6 _
    have ea:args = #[x,y]:=Array.toList_inj.1 (by simpa using vL)
    subst ea
    have hx:=Pv x (by simp)
    have hy:=Pv y (by simp)
    have ajF:∃tr,ts=(t::u::tr).toArray:=⟨BI,Array.toList_inj.1 (by simpa using X6)⟩
    obtain⟨tr,rfl⟩:=ajF
    show cA P (do pure (.value (←Builtin.append_ (t::u::tr).toArray type ((#[x,y]:Array Operand).map a.eval)))) L0 lo m H w v H'
    rw[Hr]
    have amH:∀r1 r2,Builtin.append_ (t::u::tr).toArray type #[r1,r2]=Builtin.append_ #[t,u] type #[r1,r2]:=fun r1 r2=>by simp[Builtin.append_]
    rw[amH]
    split at hp
    ·rename_i agg size zero bytes ku ht hu
     split at hp
     ·rename_i hz
      cases hp
      simp only[Bool.and_eq_true,beq_iff_eq,decide_eq_true_eq] at hz
      obtain⟨⟨⟨z1,z2⟩,z3⟩,z4⟩:=hz
      simp only[pop] at hv
      split at hv
      ·rename_i n hn
       split at hv
       ·rename_i hb
        cases sM:dI lo zero.length bytes (ev ρ x) n.toNat (cG n.toNat zero) H with
        | none=>rw[sM] at hv;cases hv
        |
         some q =>
         obtain⟨u',H1⟩:=q
         rw[sM] at hv
         cases hv
         rw[hn] at hy
         generalize a.eval y=ry at hy ⊢
         cases hy
         exact T3 ht hu hb sM hx z4 z1 z2 z3 hR gV hf
       ·cases hv
      ·cases hv
     ·cases hp
    ·rename_i agg size zero bytes d _ ht hu
     split at hp
     ·rename_i hd
      split at hp
      ·rename_i RN
       cases hp
       simp only[pop] at hv
       split at hv
       ·rename_i k hk
        split at hv
        ·rename_i new rG
         cases sM:dI lo size bytes (ev ρ x) k new H with
         | none=>rw[sM] at hv;cases hv
         |
          some q =>
          obtain⟨u',H1⟩:=q
          rw[sM] at hv
          cases hv
          exact U6 ht hu hd hk rG sM hx hy (by simpa using RN) hR gV hf
        ·cases hv
       ·cases hv
      ·cases hp
     ·cases hp
    ·cases hp
   ·rename_i x y t BI vL X6 _
    have ea:args = #[x,y]:=Array.toList_inj.1 (by simpa using vL)
    have et:ts=(t::BI).toArray:=Array.toList_inj.1 (by simpa using X6)
    subst ea;subst et
    have hx:=Pv x (by simp)
    have hy:=Pv y (by simp)
    show cA P (do pure (.value (←Builtin.copy_ (t::BI).toArray type ((#[x,y]:Array Operand).map a.eval)))) L0 lo m H w v H'
    rw[Hr]
    split at hp
    ·rename_i agg size zero bytes ht
     cases hp
     simp only[pop] at hv
     split at hv
     ·rename_i n c k S6 hk
      cases hv
      rw[S6] at hx
      generalize a.eval x=rx at hx ⊢
      cases hx
      obtain⟨e,GH,Me⟩:=iI ht
      obtain⟨i,de,zz,hi,_,FK,_,_,_,_⟩:=gX Me
      refine cA.value (rv := .int .i64 0) (w':=w) ?_ (.int _ _) hR (Trans.refl lo m _ w)
      have hl:=FA hk hy
      have hf0:=M7 (P:=P) (w:=w) i.size hk hy
      simp[Builtin.copy_,run_underlying GH,hl,run_sizeOf e i hi,goInt,hf0]
     ·rename_i b o d c k S6 hk
      split at hv
      ·rename_i new rG
       cases hw:H.write lo b o new with
       | none=>rw[hw] at hv;cases hv
       |
        some H1 =>
        rw[hw] at hv
        cases hv
        rw[S6] at hx
        exact Sx ht hk rG hw hx hy hR gV
      ·cases hv
     ·cases hv
    ·cases hp
   ·rename_i x t BI vL X6 _
    have ea:args = #[x]:=Array.toList_inj.1 (by simpa using vL)
    have et:ts=(t::BI).toArray:=Array.toList_inj.1 (by simpa using X6)
    subst ea;subst et
    have hx:=Pv x (by simp)
    show cA P (do pure (.value (←Builtin.clear_ (t::BI).toArray type ((#[x]:Array Operand).map a.eval)))) L0 lo m H w v H'
    rw[Md]
    split at hp
    ·rename_i agg size zero bytes ht
     split at hp
     ·rename_i hz
      cases hp
      simp only[Bool.and_eq_true,beq_iff_eq,decide_eq_true_eq] at hz
      obtain⟨⟨⟨z1,z2⟩,z3⟩,z4⟩:=hz
      obtain⟨e,GH,Me⟩:=iI ht
      obtain⟨i,de,zz,hi,_,FK,rfl,rfl,rfl,rfl⟩:=gX Me
      simp only[pop] at hv
      split at hv
      ·rename_i n c S6
       cases hv
       rw[S6] at hx
       generalize a.eval x=rx at hx ⊢
       cases hx
       exact Gm GH .Js hR
      ·rename_i b o n c S6
       rw[S6] at hx
       split at hv
       ·rename_i Ur
        cases hv
        subst Ur
        exact Gm GH hx hR
       ·rename_i Ur
        cases hw:H.write lo b o (cG n (aL zz)) with
        | none=>rw[hw] at hv;cases hv
        |
         some H1 =>
         rw[hw] at hv
         cases hv
         exact QB GH hi FK Ur hw hx z2 z4 hR gV
      ·cases hv
     ·cases hp
    ·cases hp
   ·cases hp
  |
   value f =>
   cases f with
   | func g=>cases hp;cases hv
   |
    tmp t =>
    cases hp
    simp only[pop] at hv
    split at hv<;>cases hv
   | const c=>cases hp
   | global g=>cases hp
  | invoke r s=>cases hp
 | _=>cases hp
def IP (P:Program) (f:Nat):Prop:=∃fn,P.funcs[f]? = some fn∧(fn.name == "runtime.NumGoroutine")=false∧fn.body.isNone=false
theorem Ee {f:Nat} {args:Array Value} (h:IP P f):(callFunc f args).run P w = .ok (.enter f args) w:=by
 obtain⟨fn,h1,h2,h3⟩:=h
 unfold callFunc
 rw[Sem.run_bind,run_program,Result.andThen_ok,h1]
 simp[h2,h3]
theorem map_none {α β:Type} {o:Option α} {f:α→β} {x:β} (h:o.map f=some x) (hf:∀y,f y≠x):False:=by
 cases o with
 | none=>cases h
 | some y=>injection h with h;exact hf y h
theorem SU {op:Op} {g:Nat} {as:List Operand} (h:nN P op=some (.call g as)):∃args ts,op = .call ⟨.value (.func g),args,ts⟩∧as=args.toList:=by
 unfold nN at h
 split at h
 case isFalse=>cases h
 cases op with
 |
  call c =>
  obtain⟨callee,args,ts⟩:=c
  cases callee with
  |
   builtin b =>
   exfalso
   simp only[mR] at h
   repeat' (split at h)
   all_goals cases h
  |
   value f =>
   cases f with
   | func g'=>cases h;exact⟨args,ts,rfl,rfl⟩
   | _=>cases h
  | invoke r s=>cases h
 |
  _ =>
  exfalso
  dsimp only at h
  try unfold zT at h
  repeat' (split at h)
  all_goals first
   | contradiction
   | (cases h;done)
   | exact map_none h (by intro y h;cases h)
theorem Q6 {op:Op} {fv:Operand} {as:List Operand} (h:nN P op=some (.callv fv as)):∃args ts,op = .call ⟨.value fv,args,ts⟩∧as=args.toList:=by
 unfold nN at h
 split at h
 case isFalse=>cases h
 cases op with
 |
  call c =>
  obtain⟨callee,args,ts⟩:=c
  cases callee with
  |
   builtin b =>
   exfalso
   simp only[mR] at h
   repeat' (split at h)
   all_goals cases h
  |
   value f =>
   cases f with
   | tmp g'=>cases h;exact⟨args,ts,rfl,rfl⟩
   | _=>cases h
  | invoke r s=>cases h
 |
  _ =>
  exfalso
  dsimp only at h
  try unfold zT at h
  repeat' (split at h)
  all_goals first
   | contradiction
   | (cases h;done)
   | exact map_none h (by intro y h;cases h)
theorem pJ {po:lM} {ρ:Env} {lo f:Nat} {args:List Value} (hv:pop lo po ρ H=some (.call f args)):(∃g as,po = .call g as)∨(∃g as,po = .callv g as):=by
 by_cases iB:qU po=true
 ·rw[uF iB] at hv
  cases hpp:gR po ρ with
  | none=>rw[hpp] at hv;cases hv
  | some u=>rw[hpp] at hv;cases hv
 cases po<;>first | exact absurd rfl iB | exact .inl ⟨_,_,rfl⟩ | exact .inr ⟨_,_,rfl⟩ | skip
 all_goals
  exfalso
  simp only[pop] at hv
  repeat' (split at hv)
  all_goals first
   | (cases hv;done)
   | (revert hv;generalize aD.write _ _ _ _ _=q;cases q<;>intro hv<;>cases hv)
   | (revert hv;generalize lR _ _ _ _=q;cases q<;>intro hv<;>cases hv)
   | (revert hv;generalize AE _ _ _ _ _ _=q;cases q<;>intro hv<;>cases hv)
   | (revert hv;generalize dI _ _ _ _ _ _ _=q;cases q<;>intro hv<;>cases hv)
   | (revert hv;generalize rL _=q;cases q<;>intro hv<;>cases hv)
theorem Tl {o:Oper} {po:lM} {ρ:Env} {a:Act} {lo f:Nat} {args:List Value} (hp:nN P o.op=some po) (hv:pop lo po ρ H=some (.call f args)) (hr:∀x∈o.op.operands,RV m (ev ρ x) (a.eval x)) :
  ∃fS,RL m args fS∧(IP P f→∀w,(execOp a.eval o).run P w = .ok (.enter f fS.toArray) w):=by
 have key:=pJ hv
 obtain⟨dst,op,type,pos,after,guard⟩:=o
 simp only at hp hr ⊢
 rcases key with⟨g,as,rfl⟩ | ⟨g,as,rfl⟩
 ·obtain⟨Ao,ts,rfl,rfl⟩:=SU hp
  cases hv
  refine⟨Ao.toList.map a.eval,RL.map fun x hx=>hr x (by simp[Op.operands,Call.operands];right;simpa using hx),fun hc w => ?_⟩
  have e1:(Ao.toList.map a.eval).toArray=Ao.map a.eval:=Array.toList_inj.1 (by rw[Array.toList_map])
  rw[e1]
  have e2:execOp a.eval ⟨dst,.call ⟨.value (.func f),Ao,ts⟩,type,pos,after,guard⟩=callFunc f ((#[]++Ao.map a.eval) ++ #[]):=rfl
  rw[e2,Ee hc]
  simp
 ·obtain⟨Ao,ts,rfl,rfl⟩:=Q6 hp
  have hg:=hr g (by simp[Op.operands,Call.operands])
  simp only[pop] at hv
  split at hv
  ·rename_i f' first fA hfv
   cases hv
   rw[hfv] at hg
   generalize hrg:a.eval g=rg at hg
   cases hg with
   |
    func fn f1 g1 c1 d1 h1 h2 h3 h4 =>
    refine⟨g1.toList++Ao.toList.map a.eval++d1.toList,((RL.arr h1 h2).append (RL.map fun x hx=>hr x (by simp[Op.operands,Call.operands];right;simpa using hx))).append (RL.arr h3 h4),fun hc w => ?_⟩
    have e1:(g1.toList++Ao.toList.map a.eval++d1.toList).toArray=(g1++Ao.map a.eval)++d1:=by
     apply Array.ext'
     simp
    rw[e1]
    have e2:(execOp a.eval ⟨dst,.call ⟨.value g,Ao,ts⟩,type,pos,after,guard⟩)=(do let d ←Deferred.ofValue (a.eval g) (Ao.map a.eval);invoke d.target d.args):=rfl
    rw[e2,hrg]
    show (callFunc f ((g1++Ao.map a.eval)++d1)).run P w=_
    exact Ee hc
  ·cases hv
end
end Go.PM
namespace Go.PM
section
variable {H:aD}
theorem Tw {lo:Nat} {H':aD} (h:Ext H.length H H'):Ext lo H H' :=
 ⟨h.len,fun b _ hl=>h.low b hl hl,h.liv⟩
theorem Gg {lo size bytes add:Nat} {x v:Value} {new:List Value} {H':aD} (h:dI lo size bytes x add new H=some (v,H')):Ext lo H H':=by
 unfold dI at h
 split at h
 case isFalse=>cases h
 split at h
 ·split at h
  ·split at h
   ·cases h;exact Ext.refl _ _
   ·split at h
    ·cases h;exact mX _ _ _
    ·cases h
  ·cases h
 ·split at h
  ·split at h
   ·split at h
    ·split at h
     ·cases h;exact Ext.refl _ _
     ·cases hw:aD.write H lo _ _ new with
      | none=>rw[hw] at h;cases h
      | some H1=>rw[hw] at h;cases h;exact BO hw
    ·split at h
     ·split at h
      ·split at h
       ·rename_i CD
        cases h
        exact SS CD
       ·cases h
      ·cases h;exact mX _ _ _
     ·cases h
   ·cases h
  ·cases h
 ·cases h
theorem UQ {lo size:Nat} {x v:Value} {l h' mx:Option Value} {H':aD} (h:AE size x l h' mx H=some (v,H')):Ext lo H H':=by
 unfold AE at h
 repeat' (split at h)
 all_goals first
  | (cases h;done)
  | (cases h;exact Ext.refl _ _)
  | (cases h;exact mX _ _ _)
theorem RF {lo:Nat} {po:lM} {ρ:Env} {v:Value} {H':aD} (h:pop lo po ρ H=some (.val v H')):Ext lo H H':=by
 by_cases iB:qU po=true
 ·rw[uF iB] at h
  obtain⟨_,rfl⟩:=BJ h
  exact Ext.refl _ _
 cases po<;>first | exact absurd rfl iB | skip
 case load agg size p =>
  simp only[pop] at h
  cases hl:lR agg size (ev ρ p) H with
  | none=>rw[hl] at h;cases h
  | some u=>rw[hl] at h;cases h;exact Ext.refl _ _
 case sub size x l hh mx =>
  simp only[pop] at h
  cases hs:AE size (ev ρ x) (l.map (ev ρ)) (hh.map (ev ρ)) (mx.map (ev ρ)) H with
  | none=>rw[hs] at h;cases h
  |
   some q =>
   obtain⟨u,H1⟩:=q
   rw[hs] at h;cases h;exact UQ hs
 case b2s x =>
  simp only[pop] at h
  split at h
  ·cases h;exact Ext.refl _ _
  ·split at h
   ·rename_i cs _
    cases hb:rL cs with
    | none=>rw[hb] at h;cases h
    | some bs=>rw[hb] at h;cases h;exact Ext.refl _ _
   ·cases h
  ·cases h
 case new z=>cases h;exact mX _ _ _
 case box x =>
  simp only[pop] at h
  split at h
  ·cases h;exact mX _ _ _
  ·cases h
 case make z b l c =>
  simp only[pop] at h
  split at h
  ·split at h
   ·cases h;exact mX _ _ _
   ·cases h
  ·cases h
 case lit z n parts =>
  simp only[pop] at h
  split at h
  ·split at h
   ·cases h;exact mX _ _ _
   ·cases h
  ·cases h
 case call f args=>cases h
 case callv f args =>
  simp only[pop] at h
  split at h<;>cases h
 case store size p x =>
  simp only[pop] at h
  split at h
  ·rename_i b o _
   split at h
   ·cases hw:H.write lo b o (aL (ev ρ x)) with
    | none=>rw[hw] at h;cases h
    | some H1=>rw[hw] at h;cases h;exact BO hw
   ·cases h
  ·cases h
 case app size bytes x y =>
  simp only[pop] at h
  split at h
  ·rename_i n _
   split at h
   ·rename_i new _
    cases ha:dI lo size bytes (ev ρ x) n new H with
    | none=>rw[ha] at h;cases h
    |
     some q =>
     obtain⟨u,H1⟩:=q
     rw[ha] at h;cases h;exact Gg ha
   ·cases h
  ·cases h
 case appz z bytes x n =>
  simp only[pop] at h
  split at h
  ·rename_i k _
   split at h
   ·cases ha:dI lo z.length bytes (ev ρ x) k.toNat (cG k.toNat z) H with
    | none=>rw[ha] at h;cases h
    |
     some q =>
     obtain⟨u,H1⟩:=q
     rw[ha] at h;cases h;exact Gg ha
   ·cases h
  ·cases h
 case copy size x y =>
  simp only[pop] at h
  split at h
  ·cases h;exact Ext.refl _ _
  ·rename_i b o d _ s _ _
   split at h
   ·rename_i new _
    cases hw:H.write lo b o new with
    | none=>rw[hw] at h;cases h
    | some H1=>rw[hw] at h;cases h;exact BO hw
   ·cases h
  ·cases h
 case clear z x =>
  simp only[pop] at h
  split at h
  ·cases h;exact Ext.refl _ _
  ·rename_i b o n _ _
   split at h
   ·cases h;exact Ext.refl _ _
   ·cases hw:H.write lo b o (cG n z) with
    | none=>rw[hw] at h;cases h
    | some H1=>rw[hw] at h;cases h;exact BO hw
  ·cases h
def pC (call:fI):Prop:=∀f args lo H v H',call f args lo H=some (v,H')→Ext lo H H'
theorem Je {call:fI} (hc:pC call) {lo:Nat} {i:PI} {ρ:Env} {v:Value} {H':aD} (h:wB call lo i ρ H=some (v,H')):Ext lo H H':=by
 unfold wB at h
 split at h
 ·cases h
 ·cases h;exact Ext.refl _ _
 ·split at h
  ·split at h
   ·rename_i hp
    cases h
    exact RF hp
   ·rename_i f args _
    have:=hc _ _ _ _ _ _ h
    split at this
    ·exact Tw this
    ·exact this
   ·cases h
  ·cases h
theorem vE {call:fI} {lo:Nat} {i:PI} {ρ aU:Env} {H':aD} (h:vH call lo i ρ H=some (aU,H')):∃v,wB call lo i ρ H=some (v,H')∧aU=put ρ i.dst v:=by
 unfold vH at h
 split at h
 ·rename_i v H1 hv
  cases h
  exact⟨v,hv,rfl⟩
 ·cases h
theorem FG {call:fI} (hc:pC call) {lo:Nat} {i:PI} {ρ aU:Env} {H':aD} (h:vH call lo i ρ H=some (aU,H')):Ext lo H H':=by
 obtain⟨v,h1,_⟩:=vE h
 exact Je hc h1
theorem Ih {call:fI} (hc:pC call) {lo:Nat}:∀(is:List PI) {ρ aU:Env} {H H':aD},fZ call lo is ρ H=some (aU,H')→Ext lo H H'
 | [],ρ,aU,H,H',h=>by cases h;exact Ext.refl _ _
 |
  i::is,ρ,aU,H,H',h=>by
  rw[fZ] at h
  split at h
  ·rename_i h1
   exact(FG hc h1).trans (Ih hc is h)
  ·cases h
theorem FT {lo:Nat} {body:Env→aD→Option (Ex×Env×aD)} (hb:∀ρ H x aU H',body ρ H=some (x,aU,H')→Ext lo H H'):∀(n:Nat) {ρ aU:Env} {H H':aD} {x:Ex},vP body n ρ H=some (x,aU,H')→Ext lo H H'
 | 0,_,_,_,_,_,h=>by cases h
 |
  n+1,ρ,aU,H,H',x,h=>by
  rw[vP] at h
  split at h
  ·rename_i h1
   exact(hb _ _ _ _ _ h1).trans (FT hb n h)
  ·exact hb _ _ _ _ _ h
theorem iK {call:fI} (hc:pC call) {lo n:Nat}:∀(c:aF) {ρ aU:Env} {H H':aD} {x:Ex},cR call lo n c ρ H=some (x,aU,H')→Ext lo H H'
 | .skip,_,_,_,_,_,h=>by cases h;exact Ext.refl _ _
 |
  .dU ops,ρ,aU,H,H',x,h=>by
  rw[cR] at h
  cases hp:fZ call lo ops ρ H with
  | none=>rw[hp] at h;cases h
  |
   some q =>
   obtain⟨tW,H1⟩:=q
   rw[hp] at h;cases h
   exact Ih hc ops hp
 |
  .seq a b,ρ,aU,H,H',x,h=>by
  rw[cR] at h
  split at h
  ·rename_i h1
   exact(iK hc a h1).trans (iK hc b h)
  ·exact iK hc a h
 |
  .cond c a b,ρ,aU,H,H',x,h=>by
  rw[cR] at h
  split at h
  ·split at h
   ·exact iK hc a h
   ·exact iK hc b h
  ·cases h
 |
  .block id a,ρ,aU,H,H',x,h=>by
  rw[cR] at h
  split at h
  ·rename_i h1
   split at h<;>(cases h;exact iK hc a h1)
  ·exact iK hc a h
 |
  .loop a,ρ,aU,H,H',x,h=>by
  rw[cR] at h
  exact FT (fun ρ H x aU H' h=>iK hc a h) n h
 | .exit id,_,_,_,_,_,h=>by cases h;exact Ext.refl _ _
 | .ret,_,_,_,_,_,h=>by cases h;exact Ext.refl _ _
theorem BV (E:yW) (T:Vs):∀n,pC (kJ E T n)
 | 0=>fun _ _ _ _ _ _ h=>by cases h
 |
  n+1=>fun f args lo H v H' h=>by
  rw[kJ] at h
  split at h
  ·rename_i p _
   cases hp:p args H with
   | none=>rw[hp] at h;cases h
   | some u=>rw[hp] at h;cases h;exact Ext.refl _ _
  ·split at h
   ·cases h
   ·rename_i pf _
    split at h
    ·split at h
     ·rename_i tW H1 h1
      cases hr:nZ pf.res tW H1 with
      | none=>rw[hr] at h;cases h
      | some u=>rw[hr] at h;cases h;exact iK (BV E T n) _ h1
     ·rename_i tW H1 h1
      cases hr:nZ pf.res tW H1 with
      | none=>rw[hr] at h;cases h
      | some u=>rw[hr] at h;cases h;exact iK (BV E T n) _ h1
     ·cases h
    ·cases h
end
end Go.PM
namespace Go.PM
theorem Cf {α β:Type} {f:α→Option β}:∀ {l:List α} {ys:List β},l.mapM f=some ys→ys.length=l.length∧∀i (h:i<l.length),f l[i]=ys[i]?
 |
  [],ys,h=>by
  simp at h
  subst h
  exact⟨rfl,fun i h=>absurd h (by simp)⟩
 |
  x::l,ys,h=>by
  simp only[List.mapM_cons,Option.pure_def,Option.bind_eq_bind] at h
  cases h1:f x with
  | none=>rw[h1] at h;cases h
  |
   some y =>
   rw[h1] at h
   cases h2:l.mapM f with
   | none=>rw[h2] at h;cases h
   |
    some zs =>
    rw[h2] at h
    cases h
    obtain⟨k1,k2⟩:=Cf h2
    refine⟨by simp[k1],fun i hi => ?_⟩
    cases i with
    | zero=>simpa using h1
    | succ i=>simpa using k2 i (by simpa using hi)
theorem ND {α β:Type} {f:α→Option β} {l:List α} {ys:List β} (h:l.mapM f=some ys) {i:Nat} {x:α} (hx:l[i]? = some x):∃y,ys[i]? = some y∧f x=some y:=by
 obtain⟨h1,h2⟩:=Cf h
 obtain⟨aX,rfl⟩:=List.getElem?_eq_some_iff.1 hx
 have Ia:i<ys.length:=by omega
 refine⟨ys[i],List.getElem?_eq_getElem Ia,?_⟩
 rw[h2 i aX,List.getElem?_eq_getElem Ia]
def Ck (E:yW) (ops:List Oper) (M:List Nat) (i j:Nat) (pi pj:lM) (l:List (Operand×Operand)):Prop :=
 match eZ E pi,eZ E pj with
 | .look,.write | .write,.look=>ahead M i j=true∨∃a b,CU pi=some a∧CU pj=some b∧B1 ops i j a=true∧(a,b)∈l
 | .write,.write | .quiet,.write | .write,.quiet=>ahead M i j=true
 | _,_=>True
theorem Ck.mono {E:yW} {ops:List Oper} {M:List Nat} {i j:Nat} {pi pj:lM} {l l':List (Operand×Operand)} (h:Ck E ops M i j pi pj l) (hl:∀x∈l,x∈l'):Ck E ops M i j pi pj l':=by
 unfold Ck at h ⊢
 split at h
 all_goals first
  | exact h
  | exact h.imp id fun⟨a,b,h1,h2,h3,h4⟩=>⟨a,b,h1,h2,h3,hl _ h4⟩
theorem HD {E:yW} {ops:List Oper} {ps:List lM} {M:List Nat} {j:Nat} {pj:lM} {l:List (Operand×Operand)} (h:conflicts E ops ps M j pj=some l) :
  ∀i,i<j→∀pi,ps[i]? = some pi→Ck E ops M i j pi pj l:=by
 have key:∀(is:List Nat) (l:List (Operand×Operand)),(is.foldr (fun i acc=>match acc,ps[i]? with
  |
   some l,some pi =>
   match eZ E pi,eZ E pj with
   |
    .look,.write | .write,.look =>
    if ahead M i j then some l
    else match CU pi,CU pj with
     | some a,some b=>if B1 ops i j a then some ((a,b)::l) else none
     | _,_=>none
   | .write,.write | .quiet,.write | .write,.quiet=>if ahead M i j then some l else none
   | _,_=>some l
  | _,_=>none) (some []))=some l→∀i∈is,∀pi,ps[i]? = some pi→Ck E ops M i j pi pj l:=by
  intro is
  induction is with
  | nil=>intro l _ i hi;cases hi
  |
   cons i0 is ih =>
   intro l h i hi pi TB
   rw[List.foldr_cons] at h
   revert h
   generalize akU:is.foldr _ (some [])=acc
   intro h
   cases acc with
   | none=>cases h
   |
    some l0 =>
    have ih':=ih l0 akU
    cases hp0:ps[i0]? with
    | none=>rw[hp0] at h;cases h
    |
     some p0 =>
     rw[hp0] at h
     simp only at h
     have step:(∀x∈l0,x∈l)∧Ck E ops M i0 j p0 pj l:=by
      unfold Ck
      split at h
      ·rename_i c1 c2
       try rw[c1,c2]
       split at h
       ·rename_i ha;cases h;exact⟨fun x hx=>hx,.inl ha⟩
       ·split at h
        ·rename_i a b ta tb
         split at h
         ·rename_i hu;cases h;exact⟨fun x hx=>List.mem_cons_of_mem _ hx,.inr ⟨a,b,ta,tb,hu,List.mem_cons_self⟩⟩
         ·cases h
        ·cases h
      ·rename_i c1 c2
       try rw[c1,c2]
       split at h
       ·rename_i ha;cases h;exact⟨fun x hx=>hx,.inl ha⟩
       ·split at h
        ·rename_i a b ta tb
         split at h
         ·rename_i hu;cases h;exact⟨fun x hx=>List.mem_cons_of_mem _ hx,.inr ⟨a,b,ta,tb,hu,List.mem_cons_self⟩⟩
         ·cases h
        ·cases h
      ·rename_i c1 c2
       try rw[c1,c2]
       split at h
       ·rename_i ha;cases h;exact⟨fun x hx=>hx,ha⟩
       ·cases h
      ·rename_i c1 c2
       try rw[c1,c2]
       split at h
       ·rename_i ha;cases h;exact⟨fun x hx=>hx,ha⟩
       ·cases h
      ·rename_i c1 c2
       try rw[c1,c2]
       split at h
       ·rename_i ha;cases h;exact⟨fun x hx=>hx,ha⟩
       ·cases h
      ·cases h
       refine⟨fun x hx=>hx,?_⟩
       first | trivial | (split<;>first | trivial | (simp_all;done)) | (simp_all;done)
     rcases List.mem_cons.1 hi with rfl | hi
     ·rw[hp0] at TB
      cases TB
      exact step.2
     ·exact(ih' i hi pi TB).mono step.1
 exact fun i hi pi TB=>key _ l h i (List.mem_range.2 hi) pi TB
structure VN (P:Program) (E:yW) (n:Nat) (ops:List Oper) (i:Nat) (o:Oper) (p:lM) (pi:PI):Prop where
 S9:nN P o.op=some p
 dst:pi.dst=o.dst
 op:pi.op=p
 guard:guardOf ops i o=some pi.g
 bound:∀d,o.dst=some d→d<n
structure Mk (E:yW) (ops:List Oper) (ps:List lM) (M:List Nat) (i:Nat) (o:Oper) (p:lM) (pi:PI):Prop where
 back:∀e∈o.after.toList,Region.binds .any e=true→e.on<i
 guard:∀j w,o.guard=some (j,w)→(M.getD i 0).testBit j=true
 KP:∀t∈o.dst.toList++tP ops o,∀k ok,ops[k]? = some ok→ok.dst=some t→k=i∨ahead M i k=true
 mask:M.getD i 0=tT o M
 quiet:pi.quiet=(match eZ E p with | .quiet=>true | _=>false)
 adV:∀k,k<i→∀pk,ps[k]? = some pk→Ck E ops M k i pk p pi.cf
theorem Pe {P:Program} {E:yW} {n:Nat} {ops:List Oper} {ps:List lM} {M:List Nat} {draw:Bool} {i:Nat} {pi:PI} (h:PD E ops ps M n draw i=some pi) {o:Oper} {p:lM} (ho:ops[i]? = some o) (hp:ps[i]? = some p)
  (RS:nN P o.op=some p):VN P E n ops i o p pi∧(draw=true→Mk E ops ps M i o p pi)∧(draw=false→pi.quiet=false∧pi.cf=[]):=by
 unfold PD at h
 rw[ho,hp] at h
 simp only at h
 split at h
 case isFalse=>cases h
 rename_i hb
 have hbound:∀d,o.dst=some d→d<n:=by
  intro d hd
  rw[hd] at hb
  simpa[Zx] using hb
 split at h
 ·cases h
 ·rename_i g hg
  cases draw with
  |
   false =>
   simp only[Bool.false_eq_true,if_false] at h
   cases h
   exact⟨⟨RS,rfl,rfl,hg,hbound⟩,(fun h=>by cases h),fun _=>⟨rfl,rfl⟩⟩
  |
   true =>
   simp only[if_true] at h
   split at h
   case isFalse=>cases h
   rename_i hc
   simp only[Bool.and_eq_true,beq_iff_eq] at hc
   obtain⟨⟨⟨c1,c2⟩,c3⟩,c4⟩:=hc
   cases MR:conflicts E ops ps M i p with
   | none=>rw[MR] at h;cases h
   |
    some cf =>
    rw[MR] at h
    cases h
    refine⟨⟨RS,rfl,rfl,hg,hbound⟩,fun _=>⟨fun e he XD => ?_,fun j w hj => ?_,fun t ht k ok hk hkd => ?_,c4,rfl,HD MR⟩,(fun h=>by cases h)⟩
    ·have:=List.all_eq_true.1 c1 e he
     simpa[XD] using this
    ·rw[hj] at c2
     exact c2
    ·have h1:=List.all_eq_true.1 c3 t ht
     have Zj:k<ops.length:=(List.getElem?_eq_some_iff.1 hk).1
     have h2:=List.all_eq_true.1 h1 k (List.mem_range.2 Zj)
     rw[hk] at h2
     simp only[Bool.or_eq_true,bne_iff_ne,ne_eq,beq_iff_eq] at h2
     rcases h2 with(h2 | h2) | h2
     ·exact absurd hkd h2
     ·exact .inl h2
     ·exact .inr h2
structure Zo (P:Program) (E:yW) (n:Nat) (ops:List Oper) (draw:Bool) (qR:List PI) (ps:List lM) (M:List Nat):Prop where
 DX:ps.length=ops.length
 amX:qR.length=ops.length
 each:∀i o,ops[i]? = some o→∃p pi,ps[i]? = some p∧qR[i]? = some pi∧VN P E n ops i o p pi∧(draw=true→Mk E ops ps M i o p pi)∧(draw=false→pi.quiet=false∧pi.cf=[])
theorem G3 {P:Program} {E:yW} {n:Nat} {ops:Array Oper} {draw:Bool} {qR:List PI} (h:uW P E n ops draw=some qR):∃ps M,Zo P E n ops.toList draw qR ps M:=by
 unfold uW at h
 split at h
 ·rename_i ps hps
  simp only at h
  generalize (if draw=true then L8 ops.toList [] else [])=M at h
  obtain⟨h1,h2⟩:=Cf hps
  obtain⟨h3,h4⟩:=Cf h
  refine⟨ps,M,h1,by simpa using h3,fun i o ho => ?_⟩
  have aX:=(List.getElem?_eq_some_iff.1 ho).1
  obtain⟨p,hp,RS⟩:=ND hps ho
  have hr:(List.range ops.size)[i]? = some i:=by rw[List.getElem?_range];simpa using aX
  obtain⟨pi,TB,hpp⟩:=ND h hr
  exact⟨p,pi,hp,TB,Pe hpp ho hp RS⟩
 ·cases h
theorem JW {o:Oper} {M:List Nat} {i:Nat} (h:(tT o M).testBit i=true):∃e∈o.after.toList,Region.binds .any e=true∧(e.on=i∨(M.getD e.on 0).testBit i=true):=by
 unfold tT at h
 revert h
 generalize o.after.toList=es
 induction es with
 | nil=>intro h;simp at h
 |
  cons e es ih =>
  intro h
  rw[List.foldr_cons] at h
  split at h
  ·rename_i hb
   rw[Nat.testBit_or,Nat.testBit_or,Bool.or_eq_true,Bool.or_eq_true] at h
   rcases h with(h | h) | h
   ·obtain⟨e',h1,h2⟩:=ih h
    exact⟨e',List.mem_cons_of_mem _ h1,h2⟩
   ·refine⟨e,List.mem_cons_self,hb,.inl ?_⟩
    rw[Nat.testBit_two_pow] at h
    simpa using h
   ·exact⟨e,List.mem_cons_self,hb,.inr h⟩
  ·obtain⟨e',h1,h2⟩:=ih h
   exact⟨e',List.mem_cons_of_mem _ h1,h2⟩
theorem QS {ops:List Oper} {M:List Nat} {S:Nat→Prop} (hb:∀i o,ops[i]? = some o→∀e∈o.after.toList,Region.binds .any e=true→e.on<i) (hm:∀i o,ops[i]? = some o→M.getD i 0=tT o M)
  (hS:∀i o,ops[i]? = some o→S i→∀e∈o.after.toList,Region.binds .any e=true→S e.on):∀j o,ops[j]? = some o→(∀e∈o.after.toList,Region.binds .any e=true→S e.on)→∀i,(M.getD j 0).testBit i=true→S i:=by
 intro j
 induction j using Nat.strongRecOn with
 |
  _ j ih =>
  intro o ho hj i hi
  rw[hm j o ho] at hi
  obtain⟨e,he,XD,h1⟩:=JW hi
  rcases h1 with rfl | h1
  ·exact hj e he XD
  ·have aX:=hb j o ho e he XD
   have hjl:=(List.getElem?_eq_some_iff.1 ho).1
   have hel:e.on<ops.length:=by omega
   exact ih e.on aX ops[e.on] (List.getElem?_eq_getElem hel) (hS e.on _ (List.getElem?_eq_getElem hel) (hj e he XD)) i h1
end Go.PM
namespace Go.PM
def tQ (P:Program) (L0:Nat) (call:fI):Prop :=
 ∀f args lo H v H',call f args lo H=some (v,H')→∀m w fS,Rel m L0 H w→L0≤lo→L0≤H.length→RL m args fS→(∀b,H.length≤b→b<H'.length→m b=none) →
  IP P f∧Calls P f fS.toArray w fun e w'=>∃m' rv,e = .returned rv∧RV m' v rv∧Rel m' L0 H' w'∧Trans lo m H w m' H' w'
section
variable {P:Program} {m:cQ} {L0:Nat} {H:aD} {w:World}
theorem rN {call:fI} {lo:Nat} {i:PI} {ρ:Env} {v:Value} {H':aD} (h:wB call lo i ρ H=some (v,H')) :
  (wF i.g ρ=some false∧v=undef∧H'=H) ∨
  (wF i.g ρ=some true∧i.cf.all (yK ρ)=true∧(pop lo i.op ρ H=some (.val v H') ∨
   ∃f args,pop lo i.op ρ H=some (.call f args)∧call f args (if i.quiet then H.length else lo) H=some (v,H'))):=by
 unfold wB at h
 split at h
 ·cases h
 ·rename_i hw;cases h;exact .inl ⟨hw,rfl,rfl⟩
 ·rename_i hw
  split at h
  ·rename_i MR
   refine .inr ⟨hw,MR,?_⟩
   split at h
   ·rename_i hp;cases h;exact .inl hp
   ·rename_i f args hp;exact .inr ⟨f,args,hp,h⟩
   ·cases h
  ·cases h
theorem Uf {t:Array Value} {d:Nat} {b:Bool} (h:t.getD d undef = .bool b):t[d]? = some (.bool b):=by
 rcases Nat.lt_or_ge d t.size with hd | hd
 ·simp[hd] at h ⊢
  exact h
 ·simp[Array.getElem?_eq_none hd,undef] at h
theorem Dr {ops:Array Oper} {i:Nat} {o:Oper} {g:Option (Nat×Bool)} {ρ:Env} {a:Act} {t:Bool} (hg:guardOf ops.toList i o=some g) (hw:wF g ρ=some t)
  (hr:∀d∈tP ops.toList o,RV m (ρ d) (a.tmps.getD d undef)):Region.wanted o (yielded ops a.tmps)=t:=by
 unfold guardOf at hg
 unfold Region.wanted
 cases Zz:o.guard with
 |
  none =>
  rw[Zz] at hg
  cases hg
  cases hw
  rfl
 |
  some jw =>
  obtain⟨j,want⟩:=jw
  rw[Zz] at hg
  simp only at hg
  split at hg
  ·split at hg
   ·rename_i d hd
    cases hg
    have Io:d∈tP ops.toList o:=by
     unfold tP
     rw[Zz]
     simp only[List.mem_append]
     right
     rw[hd]
     simp
    have RD:=hr d Io
    simp only[wF] at hw
    split at hw
    ·rename_i b hb
     cases hw
     rw[hb] at RD
     generalize hx:a.tmps.getD d undef=x at RD
     cases RD
     have hy:yielded ops a.tmps j=some b:=by
      unfold yielded
      have Wm:(ops[j]?).bind (·.dst)=some d:=by simpa using hd
      rw[Wm,Option.bind_some,Uf hx]
     simp only[hy]
     cases b<;>cases want<;>rfl
    ·rename_i vs hb
     cases hw
     rw[hb] at RD
     generalize hx:a.tmps.getD d undef=x at RD
     obtain⟨ws,rfl⟩:∃ws,x = .tuple ws:=by cases RD;exact⟨_,rfl⟩
     have Wm:(ops[j]?).bind (·.dst)=some d:=by simpa using hd
     have hy:yielded ops a.tmps j=none:=by
      unfold yielded
      rw[Wm,Option.bind_some]
      rcases Nat.lt_or_ge d a.tmps.size with aX | aX
      ·have:a.tmps[d]? = some (.tuple ws):=by rw[←hx];simp[aX]
       rw[this]
      ·rw[Array.getElem?_eq_none aX]
     simp only[hy]
     rfl
    ·cases hw
   ·cases hg
  ·cases hg
theorem V3 {E:yW} {p:lM} {lo AJ:Nat} {ρ:Env} (h:eZ E p = .quiet):pop lo p ρ H=pop AJ p ρ H:=by
 cases p<;>first | rfl | (simp[eZ] at h;done)
theorem CE {ops:List Oper} {o:Oper} {t:Nat} (h:Operand.tmp t∈o.op.operands):t∈tP ops o:=by
 unfold tP tmpsOf
 rw[List.mem_append]
 left
 rw[List.mem_filterMap]
 exact⟨.tmp t,by simpa using h,rfl⟩
theorem Jn {op:Op} {p:lM} (h:nN P op=some p):∀x∈op.operands,ME x=true:=by
 intro x hx
 unfold nN at h
 split at h
 ·rename_i kG
  obtain⟨i,hi,rfl⟩:=Array.getElem_of_mem hx
  exact Array.all_eq_true.1 kG i hi
 ·cases h
theorem Ly {E:yW} {n lo k:Nat} {ops:Array Oper} {o:Oper} {p:lM} {pi:PI} {call:fI} {ρ:Env} {v:Value} {H':aD} {a:Act} {K:Act→World→Prop} {Q:Exit→Act→World→Prop} (ho:ops[k]? = some o) (BW:VN P E n ops.toList k o p pi)
  (hq:pi.quiet=true→eZ E p = .quiet) (hv:wB call lo pi ρ H=some (v,H')) (hr:∀t∈tP ops.toList o,RV m (ρ t) (a.tmps.getD t undef)) (hR:Rel m L0 H w) (gV:L0≤lo) (hlen:L0≤H.length)
  (hf:∀b,H.length≤b→b<H'.length→m b=none) (lU:tQ P L0 call)
  (hK:∀m' rv w',RV m' v rv→Rel m' L0 H' w'→Trans (if pi.quiet then H.length else lo) m H w m' H' w'→K (a.put o.dst rv) w'):wpOp P ops Q k K a w:=by
 have hro:∀x∈o.op.operands,RV m (ev ρ x) (a.eval x):=fun x hx=>QR (Jn BW.S9 x hx) fun t ht=>hr t (CE (ht▸hx))
 unfold wpOp
 rw[ho]
 simp only
 rcases rN hv with⟨hw,rfl,rfl⟩ | ⟨hw,_,hp | ⟨f,args,hp,hc⟩⟩
 ·rw[Dr BW.guard hw hr]
  simp only[Bool.false_eq_true,if_false]
  exact hK m undef w (RV.undef m) hR (Trans.refl _ m _ w)
 ·rw[Dr BW.guard hw hr]
  simp only[if_true]
  left
  rw[BW.op] at hp
  have hs:cA P (execOp a.eval o) L0 (if pi.quiet then H.length else lo) m H w v H':=by
   split
   ·rename_i hqq
    rw[V3 (AJ:=H.length) (hq hqq)] at hp
    exact Sq BW.S9 hp hro hR hlen hf
   ·exact Sq BW.S9 hp hro hR gV hf
  obtain⟨rv,w',m',nI,h1,h2,h3⟩:=hs
  unfold Oper.wp
  rcases nI with nI | ⟨nI,rfl⟩
  ·rw[nI]
   exact hK m' rv w' h1 h2 h3
  ·rw[nI]
   exact hK m' undef w' h1 h2 h3
 ·rw[Dr BW.guard hw hr]
  simp only[if_true]
  left
  rw[BW.op] at hp
  have aeR:L0≤(if pi.quiet then H.length else lo):=by split<;>assumption
  obtain⟨fS,Pv,afN⟩:=Tl BW.S9 hp hro
  have nI:=afN (lU f args _ H v H' hc m w fS hR aeR hlen Pv hf).1
  unfold Oper.wp
  rw[nI w]
  show Calls P f fS.toArray w _
  refine(lU f args _ H v H' hc m w fS hR aeR hlen Pv hf).2.mono ?_
  rintro e w' ⟨m',rv,rfl,h1,h2,h3⟩
  exact hK m' rv w' h1 h2 h3
end
end Go.PM
namespace Go.PM
theorem Ej {call:fI} {lo:Nat}:∀ {qR:List PI} {ρ aU:Env} {H H':aD},fZ call lo qR ρ H=some (aU,H') →
  ∃st:Nat→Env×aD,st 0=(ρ,H)∧st qR.length=(aU,H')∧∀i pi,qR[i]? = some pi→vH call lo pi (st i).1 (st i).2=some (st (i+1))
 |
  [],ρ,aU,H,H',h=>by
  cases h
  exact⟨fun _=>(ρ,H),rfl,rfl,fun i pi hi=>by simp at hi⟩
 |
  x::qR,ρ,aU,H,H',h=>by
  rw[fZ] at h
  split at h
  ·rename_i tW H1 h1
   obtain⟨st,h2,h3,h4⟩:=Ej h
   refine⟨fun i=>match i with | 0=>(ρ,H) | i+1=>st i,rfl,h3,fun i pi hi => ?_⟩
   cases i with
   |
    zero =>
    simp at hi
    subst hi
    show vH call lo x ρ H=some (st 0)
    rw[h1,h2]
   | succ i=>exact h4 i pi (by simpa using hi)
  ·cases h
theorem gW {H1 H2:aD} {b:Nat} (h:H2[b]? = H1[b]?):Live H2 b↔Live H1 b:=by
 unfold Live
 rw[h]
theorem Rel.restrict {m:cQ} {L0:Nat} {H1 H2:aD} {w:World} (h:Rel m L0 H2 w) (hs:∀b,b<H1.length→H2[b]? = H1[b]?):Rel m L0 H1 w:=by
 refine⟨h.valid,fun b l cs e p hm hb=>h.row b l cs e p hm ?_,fun b1 b2 l1 l2 hb h1 h2 Em Gj=>h.inj b1 b2 l1 l2 hb h1 h2 ((gW (hs b1 Em.lt)).2 Em) ((gW (hs b2 Gj.lt)).2 Gj),fun x hx=>⟨(h.Bc x hx).1,fun b l hb hm hl=>(h.Bc x hx).2 b l hb hm ((gW (hs b hl.lt)).2 hl)⟩⟩
 rw[hs b (List.getElem?_eq_some_iff.1 hb).1]
 exact hb
theorem Rel.grow {m:cQ} {L0:Nat} {H1 H2:aD} {w:World} (h:Rel m L0 H1 w) (hs:∀b,b<H1.length→H2[b]? = H1[b]?) (hd:∀b,H1.length≤b→b<H2.length→m b=none):Rel m L0 H2 w:=by
 have lt:∀b l,m b=some l→b<H2.length→b<H1.length:=fun b l hm hb=>by
  rcases Nat.lt_or_ge b H1.length with h | h
  ·exact h
  ·rw[hd b h hb] at hm;cases hm
 refine⟨h.valid,fun b l cs e p hm hb=>h.row b l cs e p hm ?_,fun b1 b2 l1 l2 hb h1 h2 Em Gj=>h.inj b1 b2 l1 l2 hb h1 h2 ((gW (hs b1 (lt b1 l1 h1 Em.lt))).1 Em) ((gW (hs b2 (lt b2 l2 h2 Gj.lt))).1 Gj),fun x hx=>⟨(h.Bc x hx).1,fun b l hb hm hl=>(h.Bc x hx).2 b l hb hm ((gW (hs b (lt b l hm hl.lt))).1 hl)⟩⟩
 rw[←hs b (lt b l hm (List.getElem?_eq_some_iff.1 hb).1)]
 exact hb
structure Text (P:Program) (E:yW) (n:Nat) (ops:Array Oper) (qR:List PI) (ps:List lM) (M:List Nat) (call:fI) (lo:Nat) (st:Nat→Env×aD):Prop where
 ok:Zo P E n ops.toList true qR ps M
 ext:pC call
 step:∀i pi,qR[i]? = some pi→vH call lo pi (st i).1 (st i).2=some (st (i+1))
section
variable {P:Program} {E:yW} {n:Nat} {ops:Array Oper} {qR:List PI} {ps:List lM} {M:List Nat} {call:fI} {lo:Nat} {st:Nat→Env×aD}
theorem Text.at (T:Text P E n ops qR ps M call lo st) {i:Nat} (hi:i<ops.size):∃o p pi,ops[i]? = some o∧ps[i]? = some p∧qR[i]? = some pi∧VN P E n ops.toList i o p pi∧Mk E ops.toList ps M i o p pi ∧
  ∃v,wB call lo pi (st i).1 (st i).2=some (v,(st (i+1)).2)∧(st (i+1)).1=put (st i).1 o.dst v:=by
 have ho:ops.toList[i]? = some ops[i]:=by simp[hi]
 obtain⟨p,pi,h1,h2,h3,h4,_⟩:=T.ok.each i _ ho
 obtain⟨v,h5,h6⟩:=vE (T.step i pi h2)
 exact⟨ops[i],p,pi,by simp[hi],h1,h2,h3,h4 rfl,v,h5,by rw[h6,h3.dst]⟩
theorem Text.aeY (T:Text P E n ops qR ps M call lo st) {i:Nat} (hi:i<ops.size):(st i).2.length≤(st (i+1)).2.length:=by
 obtain⟨o,p,pi,_,_,_,_,_,v,hv,_⟩:=T.at hi
 exact(Je T.ext hv).len
theorem Text.len (T:Text P E n ops qR ps M call lo st) {i:Nat}:∀ {j:Nat},i≤j→j≤ops.size→(st i).2.length≤(st j).2.length:=by
 intro j XO
 induction j with
 | zero =>
    intro _;have:i=0:=by omega
    subst this;exact Nat.le_refl _
 |
  succ j ih =>
  intro hj
  rcases Nat.lt_or_ge i (j+1) with h | h
  ·exact Nat.le_trans (ih (by omega) (by omega)) (T.aeY (by omega))
  ·have:i=j+1:=by omega
   subst this;exact Nat.le_refl _
theorem Text.adO (T:Text P E n ops qR ps M call lo st) {i:Nat} {p:lM} (hi:i<ops.size) (hp:ps[i]? = some p) (hw:eZ E p ≠ .write):∀b,b<(st i).2.length→(st (i+1)).2[b]? = (st i).2[b]? := by
 intro b hb
 obtain⟨o,p',pi,_,A0,_,BW,Ta,v,hv,_⟩:=T.at hi
 rw[hp] at A0
 cases A0
 rcases rN hv with⟨_,_,h⟩ | ⟨_,_,h | ⟨f,args,h1,h2⟩⟩
 ·rw[h]
 ·rw[BW.op] at h
  by_cases hq:eZ E p = .quiet
  ·rw[V3 (AJ:=(st i).2.length) hq] at h
   exact(RF h).low b hb hb
  ·
   have:(st (i+1)).2=(st i).2:=by
    cases p<;>first
     | (exact absurd rfl hw)
     | (exact absurd rfl hq)
     | (rw[uF rfl] at h;exact(BJ h).2)
     | skip
    case load agg size q =>
     simp only[pop] at h
     cases hl:lR agg size (ev (st i).1 q) (st i).2 with
     | none=>rw[hl] at h;cases h
     | some u=>rw[hl] at h;injection h with h;injection h with _ h;exact h.symm
    case b2s x =>
     simp only[pop] at h
     split at h
     ·injection h with h;injection h with _ h;exact h.symm
     ·split at h
      ·rename_i cs _
       cases hb:rL cs with
       | none=>rw[hb] at h;cases h
       | some bs=>rw[hb] at h;injection h with h;injection h with _ h;exact h.symm
      ·cases h
     ·cases h
    case sub size x l hh mx =>
     simp only[pop] at h
     cases mx with
     | some mx=>exact absurd rfl hq
     |
      none =>
      cases hs:AE size (ev (st i).1 x) (l.map (ev (st i).1)) (hh.map (ev (st i).1)) ((none:Option Operand).map (ev (st i).1)) (st i).2 with
      | none=>rw[hs] at h;cases h
      |
       some q =>
       obtain⟨u,H1⟩:=q
       rw[hs] at h
       injection h with h;injection h with _ h
       subst h
       unfold AE at hs
       simp only[Option.map_none,Option.isSome_none,Bool.false_eq_true,false_and,if_false] at hs
       repeat' (split at hs)
       all_goals first
        | (cases hs;done)
        | (injection hs with hs;injection hs with _ hs;exact hs.symm)
    case call f args=>cases h
   rw[this]
 ·rw[BW.op] at h1
  have hq:pi.quiet=true:=by
   rw[Ta.quiet]
   rcases pJ h1 with⟨g,as,rfl⟩ | ⟨g,as,rfl⟩
   ·simp only[eZ] at hw ⊢
    split at hw
    ·exact absurd rfl hw
    ·rename_i h;rw[if_neg h]
   ·exact absurd rfl hw
  rw[hq] at h2
  exact(T.ext _ _ _ _ _ _ h2).low b hb hb
end
end Go.PM
namespace Go.PM
theorem B7 {H H':aD} {lo b o:Nat} {new:List Value} (h:H.write lo b o new=some H') {b':Nat} (hb:b'≠b):H'[b']? = H[b']? := by
 obtain⟨cs,e,p,h1,h2,h3,h4,rfl⟩:=zQ h
 exact List.getElem?_set_ne (Ne.symm hb)
theorem GG {H H':aD} {lo size bytes add:Nat} {x v:Value} {new:List Value} (h:dI lo size bytes x add new H=some (v,H')) {b':Nat} (hb:hJ x≠some b') (aX:b'<H.length):H'[b']? = H[b']? := by
 unfold dI at h
 split at h
 case isFalse=>cases h
 split at h
 ·split at h
  ·split at h
   ·cases h;rfl
   ·split at h
    ·cases h;exact List.getElem?_append_left aX
    ·cases h
  ·cases h
 ·rename_i b o n c
  have eW:b'≠b:=fun e=>hb (by rw[e];rfl)
  split at h
  ·split at h
   ·split at h
    ·split at h
     ·cases h;rfl
     ·cases hw:aD.write H lo b (o+n*size) new with
      | none=>rw[hw] at h;cases h
      | some H1=>rw[hw] at h;cases h;exact B7 hw eW
    ·split at h
     ·split at h
      ·split at h
       ·cases h
        rw[List.getElem?_append_left (by simpa using aX)]
        exact List.getElem?_set_ne (Ne.symm eW)
       ·cases h
      ·cases h;exact List.getElem?_append_left aX
     ·cases h
   ·cases h
  ·cases h
 ·cases h
theorem XZ {E:yW} {lo:Nat} {p:lM} {ρ:Env} {H H':aD} {v:Value} {x:Operand} (h:pop lo p ρ H=some (.val v H')) (hw:eZ E p = .write) (ht:CU p=some x) {b':Nat} (hb:hJ (ev ρ x)≠some b') (aX:b'<H.length):H'[b']? = H[b']? := by
 cases p<;>first | (cases ht;done) | (cases hw;done) | skip
 case sub size y l hh mx=>cases mx<;>cases hw
 case store size q y =>
  cases ht
  simp only[pop] at h
  split at h
  ·rename_i b o he
   rw[he] at hb
   have eW:b'≠b:=fun e=>hb (by rw[e];rfl)
   split at h
   ·cases hw:H.write lo b o (aL (ev ρ y)) with
    | none=>rw[hw] at h;cases h
    | some H1=>rw[hw] at h;cases h;exact B7 hw eW
   ·cases h
  ·cases h
 case app size bytes y z =>
  cases ht
  simp only[pop] at h
  split at h
  ·rename_i n _
   split at h
   ·rename_i new _
    cases ha:dI lo size bytes (ev ρ x) n new H with
    | none=>rw[ha] at h;cases h
    |
     some q =>
     obtain⟨u,H1⟩:=q
     rw[ha] at h;cases h;exact GG ha hb aX
   ·cases h
  ·cases h
 case appz z bytes y n =>
  cases ht
  simp only[pop] at h
  split at h
  ·rename_i k _
   split at h
   ·cases ha:dI lo z.length bytes (ev ρ x) k.toNat (cG k.toNat z) H with
    | none=>rw[ha] at h;cases h
    |
     some q =>
     obtain⟨u,H1⟩:=q
     rw[ha] at h;cases h;exact GG ha hb aX
   ·cases h
  ·cases h
 case copy size y z =>
  cases ht
  simp only[pop] at h
  split at h
  ·cases h;rfl
  ·rename_i b o d _ s he _
   rw[he] at hb
   have eW:b'≠b:=fun e=>hb (by rw[e];rfl)
   split at h
   ·rename_i new _
    cases hw:H.write lo b o new with
    | none=>rw[hw] at h;cases h
    | some H1=>rw[hw] at h;cases h;exact B7 hw eW
   ·cases h
  ·cases h
 case clear z y =>
  cases ht
  simp only[pop] at h
  split at h
  ·cases h;rfl
  ·rename_i b o n _ he
   rw[he] at hb
   have eW:b'≠b:=fun e=>hb (by rw[e];rfl)
   split at h
   ·cases h;rfl
   ·cases hw:H.write lo b o (cG n z) with
    | none=>rw[hw] at h;cases h
    | some H1=>rw[hw] at h;cases h;exact B7 hw eW
  ·cases h
theorem L5 {H:aD} {b o n:Nat} {cs:List Value} (h:H.read b o n=some cs):b<H.length:=by
 unfold aD.read at h
 split at h
 ·rename_i hb;exact(List.getElem?_eq_some_iff.1 hb).1
 ·cases h
theorem CW {H H2:aD} {b o n:Nat} (h:H2[b]? = H[b]?):H2.read b o n=H.read b o n:=by
 unfold aD.read
 rw[h]
theorem PZ {agg:Bool} {size:Nat} {x v:Value} {H H2:aD} (h:lR agg size x H=some v) (hb:∀b,hJ x=some b→b<H.length→H2[b]? = H[b]?):lR agg size x H2=some v:=by
 unfold lR at h ⊢
 split at h
 ·rename_i b o
  have aX:b<H.length:=by
   split at h
   ·cases hr:H.read b o size with
    | none=>rw[hr] at h;cases h
    | some cs=>exact L5 hr
   ·cases hr:H.read b o 1 with
    | none=>rw[hr] at h;cases h
    | some cs=>exact L5 hr
  have e:=hb b rfl aX
  simp only[CW e]
  exact h
 ·cases h
theorem Nz {E:yW} {lo:Nat} {p:lM} {ρ:Env} {H H' H2:aD} {v:Value} (h:pop lo p ρ H=some (.val v H')) (hc:eZ E p = .look) (hb:∀x,CU p=some x→∀b,hJ (ev ρ x)=some b→b<H.length→H2[b]? = H[b]?) :
  H'=H∧pop lo p ρ H2=some (.val v H2):=by
 cases p<;>first | (cases hc;done) | skip
 case call f args=>simp only[eZ] at hc;split at hc<;>cases hc
 case load agg size q =>
  simp only[pop] at h ⊢
  cases hl:lR agg size (ev ρ q) H with
  | none=>rw[hl] at h;cases h
  |
   some u =>
   rw[hl] at h
   cases h
   refine⟨rfl,?_⟩
   rw[PZ hl (hb q rfl)]
   rfl
 case b2s x =>
  simp only[pop] at h ⊢
  split at h
  ·cases h;exact⟨rfl,rfl⟩
  ·rename_i b o n _ he
   split at h
   ·rename_i cs hr
    cases ZF:rL cs with
    | none=>rw[ZF] at h;cases h
    |
     some bs =>
     rw[ZF] at h
     cases h
     refine⟨rfl,?_⟩
     have e:=hb x rfl b (by rw[he];rfl) (L5 hr)
     rw[CW e,hr]
     simp only[ZF]
     rfl
   ·cases h
  ·cases h
 case sub size x l hh mx =>
  cases mx with
  | some mx=>cases hc
  |
   none =>
   simp only[pop] at h ⊢
   cases hs:AE size (ev ρ x) (l.map (ev ρ)) (hh.map (ev ρ)) ((none:Option Operand).map (ev ρ)) H with
   | none=>rw[hs] at h;cases h
   |
    some q =>
    obtain⟨u,H1⟩:=q
    rw[hs] at h
    cases h
    have wM:=hb x rfl
    generalize ev ρ x=xv at hs wM
    have key:H1=H∧AE size xv (l.map (ev ρ)) (hh.map (ev ρ)) ((none:Option Operand).map (ev ρ)) H2=some (u,H2):=by
     unfold AE at hs ⊢
     simp only[Option.map_none,Option.isSome_none,Bool.false_eq_true,false_and,if_false] at hs ⊢
     split at hs
     ·repeat' (split at hs)
      all_goals first | (cases hs;done) | skip
      cases hs
      simp_all
     ·rename_i b o n c
      split at hs
      ·rename_i cs e p EF
       have e1:=wM b rfl (List.getElem?_eq_some_iff.1 EF).1
       rw[e1,EF]
       simp only
       repeat' (split at hs)
       all_goals first | (cases hs;done) | skip
       cases hs
       simp_all
      ·cases hs
     ·cases hs
    rw[key.2]
    exact⟨key.1,rfl⟩
section
variable {P:Program} {E:yW} {n:Nat} {ops:Array Oper} {qR:List PI} {ps:List lM} {M:List Nat} {call:fI} {lo:Nat} {st:Nat→Env×aD}
theorem Text.Xm (T:Text P E n ops qR ps M call lo st) {i:Nat}:∀ {j:Nat},i≤j→j≤ops.size→Ext lo (st i).2 (st j).2:=by
 intro j XO
 induction j with
 | zero =>
    intro _;have:i=0:=by omega
    subst this;exact Ext.refl _ _
 |
  succ j ih =>
  intro hj
  rcases Nat.lt_or_ge i (j+1) with h | h
  ·obtain⟨o,p,pi,_,_,_,_,_,v,hv,_⟩:=T.at (i:=j) (by omega)
   exact(ih (by omega) (by omega)).trans (Je T.ext hv)
  ·have:i=j+1:=by omega
   subst this;exact Ext.refl _ _
theorem Text.Vy (T:Text P E n ops qR ps M call lo st) {i:Nat}:∀ {j:Nat},i≤j→j≤ops.size→∀b,b<(st i).2.length →
  (∀k,i≤k→k<j→∀p pi,ps[k]? = some p→qR[k]? = some pi→eZ E p = .write→wF pi.g (st k).1=some true→∃x,CU p=some x∧hJ (ev (st k).1 x)≠some b) →
  (st j).2[b]? = (st i).2[b]? := by
 intro j XO
 induction j with
 | zero =>
      intro _ b _ _;have:i=0:=by omega
      subst this;rfl
 |
  succ j ih =>
  intro hj b hb hk
  rcases Nat.lt_or_ge i (j+1) with h | h
  ·have aX:b<(st j).2.length:=Nat.lt_of_lt_of_le hb (T.len (by omega) (by omega))
   have h1:(st (j+1)).2[b]? = (st j).2[b]? := by
    obtain⟨o,p,pi,_,hp,TB,BW,_,v,hv,_⟩:=T.at (i:=j) (by omega)
    by_cases hw:eZ E p = .write
    ·rcases rN hv with⟨_,_,h⟩ | ⟨hwt,_,h | ⟨f,args,h1,h2⟩⟩
     ·rw[h]
     ·rw[BW.op] at h
      obtain⟨x,hx,eW⟩:=hk j (by omega) (by omega) p pi hp TB hw hwt
      exact XZ h hw hx eW aX
     ·rw[BW.op] at h1
      obtain⟨x,hx,eW⟩:=hk j (by omega) (by omega) p pi hp TB hw hwt
      rcases pJ h1 with⟨g,as,rfl⟩ | ⟨g,as,rfl⟩<;>cases hx
    ·exact T.adO (by omega) hp hw b aX
   rw[h1]
   exact ih (by omega) (by omega) b hb fun k hk1 YE=>hk k hk1 (by omega)
  ·have:i=j+1:=by omega
   subst this;rfl
theorem Text.same (T:Text P E n ops qR ps M call lo st) {i j:Nat} (XO:i≤j) (hj:j≤ops.size) (hk:∀k,i≤k→k<j→∀p,ps[k]? = some p→eZ E p ≠ .write):∀b,b<(st i).2.length→(st j).2[b]? = (st i).2[b]? :=
 fun b hb=>T.Vy XO hj b hb fun k h1 h2 p _ hp _ hw _=>absurd hw (hk k h1 h2 p hp)
theorem Text.Lv (T:Text P E n ops qR ps M call lo st) {i t:Nat}:∀ {j:Nat},i≤j→j≤ops.size→(∀k o,i≤k→k<j→ops[k]? = some o→o.dst≠some t)→(st j).1 t=(st i).1 t:=by
 intro j XO
 induction j with
 | zero =>
      intro _ _;have:i=0:=by omega
      subst this;rfl
 |
  succ j ih =>
  intro hj hk
  rcases Nat.lt_or_ge i (j+1) with h | h
  ·obtain⟨o,p,pi,ho,hp,TB,BW,_,v,hv,he⟩:=T.at (i:=j) (by omega)
   rw[he]
   have eW:=hk j o (by omega) (by omega) ho
   have h1:put (st j).1 o.dst v t=(st j).1 t:=by
    cases hd:o.dst with
    | none=>rfl
    |
     some d =>
     rw[hd] at eW
     show (if t=d then v else _)=_
     rw[if_neg (fun e=>eW (by rw[e]))]
   rw[h1]
   exact ih (by omega) (by omega) fun k o hk1 YE=>hk k o hk1 (by omega)
  ·have:i=j+1:=by omega
   subst this;rfl
end
end Go.PM
namespace Go.PM
theorem uJ {M:List Nat} {i j:Nat} (h:i<j):ahead M i j=(M.getD j 0).testBit i:=by
 unfold ahead
 have e1:Nat.max i j=j:=Nat.max_eq_right (by omega)
 have e2:Nat.min i j=i:=Nat.min_eq_left (by omega)
 rw[e1,e2]
theorem UM {M:List Nat} {i j:Nat} (h:j<i):ahead M i j=(M.getD i 0).testBit j:=by
 unfold ahead
 have e1:Nat.max i j=i:=Nat.max_eq_left (by omega)
 have e2:Nat.min i j=j:=Nat.min_eq_right (by omega)
 rw[e1,e2]
theorem Ov {a:Act} {d t:Nat} {v:Value} (hd:d<a.tmps.size):(a.put (some d) v).tmps.getD t undef=if t=d then v else a.tmps.getD t undef:=by
 show (a.tmps.setIfInBounds d v).getD t undef=_
 rcases Nat.lt_or_ge t a.tmps.size with h | h
 ·by_cases e:t=d
  ·subst e;simp[h]
  ·simp[h,e,Ne.symm e]
 ·have:t≠d:=by omega
  simp[h,this]
theorem DA (a:Act) (d:Option Nat) (v:Value):(a.put d v).tmps.size=a.tmps.size:=by
 cases d<;>simp[Act.put]
theorem DO (a:Act) (d:Option Nat) (v:Value):(a.put d v).defers=a.defers:=by
 cases d<;>rfl
section
variable {P:Program} {E:yW} {n:Nat} {ops:Array Oper} {qR:List PI} {ps:List lM} {M:List Nat} {call:fI} {lo L0:Nat} {st:Nat→Env×aD}
structure pH (E:yW) (n:Nat) (ops:Array Oper) (ps:List lM) (lo L0:Nat) (st:Nat→Env×aD) (m0:cQ) (w0:World) (ds:List Deferred) (S:Nat→Prop) (m:cQ) (c:Nat) (a:Act) (w:World):Prop where
 En:a.tmps.size=n
 defs:a.defers=ds
 back:∀i o,ops.toList[i]? = some o→S i→∀e∈o.after.toList,Region.binds .any e=true→S e.on
 tm:∀t j,j≤ops.size→(∀i o,ops.toList[i]? = some o→o.dst=some t→(S i↔i<j))→RV m ((st j).1 t) (a.tmps.getD t undef)
 Jq:c≤ops.size
 before:∀i p,i<c→ps[i]? = some p→eZ E p = .write→S i
 Y8:c<ops.size→¬S c∧∃p,ps[c]? = some p∧eZ E p = .write
 rel:Rel m L0 (st c).2 w
 tr:Trans lo m0 (st 0).2 w0 m (st c).2 w
 Uz:∀b l,m b=some l→m0 b≠none∨∃i,S i∧i<ops.size∧(st i).2.length≤b∧b<(st (i+1)).2.length
theorem Text.Y7 (T:Text P E n ops qR ps M call lo st) {S:Nat→Prop} (hS:∀i o,ops.toList[i]? = some o→S i→∀e∈o.after.toList,Region.binds .any e=true→S e.on) {k:Nat} {o:Oper} (ho:ops.toList[k]? = some o)
  (hk:∀e∈o.after.toList,Region.binds .any e=true→S e.on) {i:Nat} (hi:(M.getD k 0).testBit i=true):S i :=
 QS (fun i o hio=>by
   obtain⟨p,pi,_,_,_,hd,_⟩:=T.ok.each i o hio
   exact(hd rfl).back) (fun i o hio=>by
   obtain⟨p,pi,_,_,_,hd,_⟩:=T.ok.each i o hio
   exact(hd rfl).mask) hS k o ho hk i hi
theorem Text.Rp (T:Text P E n ops qR ps M call lo st) {i:Nat} {p:lM} (hi:i<ops.size) (hp:ps[i]? = some p) (h:eZ E p = .pure∨eZ E p = .look):(st (i+1)).2=(st i).2:=by
 obtain⟨o,p',pi,_,A0,_,BW,Ta,v,hv,_⟩:=T.at hi
 rw[hp] at A0
 cases A0
 rcases rN hv with⟨_,_,h'⟩ | ⟨_,_,h' | ⟨f,args,h1,h2⟩⟩
 ·exact h'
 ·rw[BW.op] at h'
  rcases h with h | h
  ·have:qU p=true:=by
    cases p<;>first | rfl | (cases h;done) | skip
    case sub s x l hh mx=>cases mx<;>cases h
    case call f as=>simp only[eZ] at h;split at h<;>cases h
   rw[uF this] at h'
   exact(BJ h').2
  ·exact(Nz h' h (fun _ _ _ _ _=>rfl)).1
 ·exfalso
  rw[BW.op] at h1
  rcases pJ h1 with⟨g,as,rfl⟩ | ⟨g,as,rfl⟩
  ·simp only[eZ] at h
   split at h<;>rcases h with h | h<;>cases h
  ·rcases h with h | h<;>cases h
theorem Uj {op:Op} {p:lM} {x:Operand} (h:nN P op=some p) (ht:CU p=some x):x∈op.operands:=by
 unfold nN at h
 split at h
 case isFalse=>cases h
 cases op with
 |
  load t q =>
  dsimp only at h
  cases hi:kM P t with
  | none=>rw[hi] at h;cases h
  | some u=>rw[hi] at h;cases h;cases ht;simp[Op.operands]
 |
  store t q v =>
  dsimp only at h
  cases hi:P.info? t with
  | none=>rw[hi] at h;cases h
  | some u=>rw[hi] at h;cases h;cases ht;simp[Op.operands]
 |
  slice t y l hh mx =>
  dsimp only at h
  split at h
  ·split at h
   ·cases h;cases ht
   ·cases h
  ·rename_i e _
   cases hi:kM P e with
   | none=>rw[hi] at h;cases h
   | some u=>rw[hi] at h;cases h;cases ht;simp[Op.operands]
  ·cases h
 |
  convert s d y =>
  dsimp only at h
  repeat' (split at h)
  all_goals first
   | (cases h;done)
   | (cases h;cases ht;done)
   | (cases h;cases ht;simp[Op.operands])
 |
  call c =>
  obtain⟨callee,args,ts⟩:=c
  cases callee with
  |
   builtin b =>
   simp only[mR] at h
   repeat' (split at h)
   all_goals first
    | (cases h;done)
    | (cases h;cases ht;done)
    | skip
   all_goals
    cases h
    cases ht
    have hm:x∈args.toList:=by simp_all
    simpa[Op.operands,Call.operands] using hm
  |
   value f =>
   cases f with
   | tmp g'=>cases h;cases ht
   | func g'=>cases h;cases ht
   | _=>cases h
  | invoke r s=>cases h
 |
  _ =>
  exfalso
  dsimp only at h
  try unfold zT at h
  repeat' (split at h)
  all_goals first
   | contradiction
   | (cases h;done)
   | (cases h;cases ht;done)
   | exact map_none h (by intro y h;cases h;cases ht)
end
end Go.PM
namespace Go.PM
theorem Dc (p:Nat→Prop):∀(d c N:Nat),N-c=d→c≤N→∃c',c≤c'∧c'≤N∧(∀i,c≤i→i<c'→¬p i)∧(c'<N→p c')
 | 0,c,N,hd,hc=>⟨c,Nat.le_refl _,hc,fun i h1 h2=>by omega,fun h=>by omega⟩
 |
  d+1,c,N,hd,hc=>by
  by_cases hp:p c
  ·exact⟨c,Nat.le_refl _,hc,fun i h1 h2=>by omega,fun _=>hp⟩
  ·obtain⟨c',h1,h2,h3,h4⟩:=Dc p d (c+1) N (by omega) (by omega)
   refine⟨c',by omega,h2,fun i hi1 Hn => ?_,h4⟩
   rcases Nat.lt_or_ge c i with h | h
   ·exact h3 i h Hn
   ·have:i=c:=by omega
    subst this;exact hp
theorem VZ {m:cQ} {v r:Value} {b:Nat} (h:RV m v r) (hb:hJ v=some b):∃l,m b=some l:=by
 cases h<;>first | (cases hb;done) | (cases hb;exact⟨_,by assumption⟩)
section
variable {P:Program} {E:yW} {n:Nat} {ops:Array Oper} {qR:List PI} {ps:List lM} {M:List Nat} {call:fI} {lo L0:Nat} {st:Nat→Env×aD}
 {m0:cQ} {w0:World} {ds:List Deferred} {S:Nat→Prop} {m:cQ} {c:Nat} {a:Act} {w:World} {k:Nat} {o:Oper} {p:lM} {pi:PI}
structure At (P:Program) (E:yW) (n:Nat) (ops:Array Oper) (qR:List PI) (ps:List lM) (M:List Nat) (S:Nat→Prop) (k:Nat) (o:Oper) (p:lM) (pi:PI):Prop where
 lt:k<ops.size
 eo:ops[k]? = some o
 ep:ps[k]? = some p
 epi:qR[k]? = some pi
 ok:VN P E n ops.toList k o p pi
 dr:Mk E ops.toList ps M k o p pi
 akC:¬S k
 Y7:∀i,(M.getD k 0).testBit i=true→S i
 desc:∀i,i<ops.size→S i→(M.getD i 0).testBit k=true→False
theorem At.ah (A:At P E n ops qR ps M S k o p pi) {i:Nat} (hi:i<ops.size) (h:i=k∨ahead M k i=true):S i↔i<k:=by
 rcases Nat.lt_trichotomy i k with h1 | h1 | h1
 ·refine⟨fun _=>h1,fun _ => ?_⟩
  rcases h with h | h
  ·omega
  ·rw[UM h1] at h;exact A.Y7 i h
 ·subst h1
  exact⟨fun h=>absurd h A.akC,fun h=>by omega⟩
 ·refine⟨fun hs => ?_,fun h=>by omega⟩
  rcases h with h | h
  ·omega
  ·rw[uJ h1] at h;exact absurd h (fun h=>A.desc i hi hs h)
theorem Dq {i:Nat} {oi:Oper} (h:ops.toList[i]? = some oi):i<ops.size:=by
 have:=(List.getElem?_eq_some_iff.1 h).1
 simpa using this
theorem At.reads (A:At P E n ops qR ps M S k o p pi) (I:pH E n ops ps lo L0 st m0 w0 ds S m c a w):∀t∈tP ops.toList o,RV m ((st k).1 t) (a.tmps.getD t undef):=by
 intro t ht
 refine I.tm t k (Nat.le_of_lt A.lt) fun i oi hi hd => ?_
 exact A.ah (Dq hi) (A.dr.KP t (List.mem_append_right _ ht) i oi hi hd)
theorem At.operand (A:At P E n ops qR ps M S k o p pi) (I:pH E n ops ps lo L0 st m0 w0 ds S m c a w) {x:Operand} (hx:x∈o.op.operands):RV m (ev (st k).1 x) (a.eval x) :=
 QR (Jn A.ok.S9 x hx) fun t ht=>A.reads I t (CE (ht▸hx))
theorem At.pair (T:Text P E n ops qR ps M call lo st) {i j:Nat} {p q:lM} (XO:i<j) (hj:j<ops.size) (hp:ps[i]? = some p) (hq:ps[j]? = some q):∃qi,qR[j]? = some qi∧Ck E ops.toList M i j p q qi.cf:=by
 obtain⟨o,q',qi,_,JX,WC,_,hd,_⟩:=T.at hj
 rw[hq] at JX
 cases JX
 exact⟨qi,WC,hd.adV i XO p hp⟩
theorem pH.late (T:Text P E n ops qR ps M call lo st) (I:pH E n ops ps lo L0 st m0 w0 ds S m c a w) {i:Nat} {q:lM} (hi:c<i) (hn:i<ops.size) (hS:S i) (hq:ps[i]? = some q):eZ E q = .pure∨eZ E q = .look:=by
 obtain⟨ZA,pc,Y6,MT⟩:=I.Y8 (by omega)
 obtain⟨qi,_,iH⟩:=At.pair T hi hn Y6 hq
 unfold Ck at iH
 rw[MT] at iH
 obtain⟨oi,_,_,hoi,_⟩:=T.at hn
 have OF:ops.toList[i]? = some oi:=by simpa using hoi
 have fin:ahead M c i=true→False:=fun h=>by
  rw[uJ hi] at h
  exact ZA (T.Y7 I.back OF (I.back i oi OF hS) h)
 cases lG:eZ E q with
 | pure=>exact .inl rfl
 | look=>exact .inr rfl
 | quiet=>rw[lG] at iH;exact absurd iH fin
 | write=>rw[lG] at iH;exact absurd iH fin
theorem pH.KP (T:Text P E n ops qR ps M call lo st) (I:pH E n ops ps lo L0 st m0 w0 ds S m c a w) (A:At P E n ops qR ps M S k o p pi) {m':cQ} {v rv:Value} (hm:∀b l,m b=some l→m' b=some l) (hv:RV m' v rv)
  (he:(st (k+1)).1=put (st k).1 o.dst v):∀t j,j≤ops.size→(∀i o,ops.toList[i]? = some o→o.dst=some t→((i=k∨S i)↔i<j))→RV m' ((st j).1 t) ((a.put o.dst rv).tmps.getD t undef):=by
 intro t j hj hw
 have BW:ops.toList[k]? = some o:=by simpa using A.eo
 cases hd:o.dst with
 |
  none =>
  show RV m' _ (a.tmps.getD t undef)
  refine(I.tm t j hj fun i oi hi Ww => ?_).mono hm
  have eW:i≠k:=fun e=>by subst e;rw[BW] at hi;cases hi;rw[hd] at Ww;cases Ww
  rw[←hw i oi hi Ww]
  simp[eW]
 |
  some d =>
  rw[Ov (by rw[I.En];exact A.ok.bound d hd)]
  by_cases htd:t=d
  ·subst htd
   rw[if_pos rfl]
   have hkj:k<j:=(hw k o BW hd).1 (.inl rfl)
   have e1:(st j).1 t=(st (k+1)).1 t:=by
    refine T.Lv hkj hj fun i oi hi1 Hn hoi Ww => ?_
    have OF:ops.toList[i]? = some oi:=by simpa using hoi
    have hS:=(hw i oi OF Ww).2 Hn
    have hik:i≠k:=by omega
    have:=(A.ah (Dq OF) (A.dr.KP t (List.mem_append_left _ (by rw[hd];simp)) i oi OF Ww)).1 (hS.resolve_left hik)
    omega
   rw[e1,he,hd]
   show RV m' (if t=t then v else _) rv
   rw[if_pos rfl]
   exact hv
  ·rw[if_neg htd]
   refine(I.tm t j hj fun i oi hi Ww => ?_).mono hm
   have eW:i≠k:=fun e=>by subst e;rw[BW] at hi;cases hi;rw[hd] at Ww;cases Ww;exact htd rfl
   rw[←hw i oi hi Ww]
   simp[eW]
theorem pH.Vu (I:pH E n ops ps lo L0 st m0 w0 ds S m c a w) (A:At P E n ops qR ps M S k o p pi) (hr:∀e∈o.after.toList,Region.binds .any e=true→S e.on) :
  ∀i oi,ops.toList[i]? = some oi→(i=k∨S i)→∀e∈oi.after.toList,Region.binds .any e=true→(e.on=k∨S e.on):=by
 intro i oi hi hS e he hb
 rcases hS with rfl | hS
 ·have:ops.toList[i]? = some o:=by simpa using A.eo
  rw[this] at hi
  cases hi
  exact .inr (hr e he hb)
 ·exact .inr (I.back i oi hi hS e he hb)
theorem El (T:Text P E n ops qR ps M call lo st) {i j:Nat} {x:Operand} (XO:i≤j) (hj:j≤ops.size) (h:B1 ops.toList i j x=true):ev (st j).1 x=ev (st i).1 x:=by
 cases x with
 |
  tmp t =>
  refine T.Lv XO hj fun q oq h1 h2 hoq hd => ?_
  have kG:=List.all_eq_true.1 h oq (by
   have amR:ops.toList[q]? = some oq:=by simpa using hoq
   rw[List.mem_iff_getElem?]
   refine⟨q-i,?_⟩
   rw[List.getElem?_drop,List.getElem?_take,show i+(q-i)=q by omega,if_pos h2,amR])
  simp[hd] at kG
 | const v=>rfl
 | global g=>rfl
 | func f=>rfl
theorem pH.look (T:Text P E n ops qR ps M call lo st) (I:pH E n ops ps lo L0 st m0 w0 ds S m c a w) (A:At P E n ops qR ps M S k o p pi) (zB:∀b,(st 0).2.length≤b→b<(st ops.size).2.length→m0 b=none)
  (lG:eZ E p = .pure∨eZ E p = .look) {v:Value} (hv:wB call lo pi (st k).1 (st k).2=some (v,(st (k+1)).2)):wB call lo pi (st k).1 (st c).2=some (v,(st c).2):=by
 rcases rN hv with⟨hw,rfl,_⟩ | ⟨hw,MR,hp | ⟨f,args,hp,_⟩⟩
 ·unfold wB
  rw[hw]
 ·unfold wB
  rw[hw]
  simp only[MR,if_true]
  have key:pop lo pi.op (st k).1 (st c).2=some (.val v (st c).2):=by
   rw[A.ok.op] at hp ⊢
   rcases lG with lG | lG
   ·have hlp:qU p=true:=by
     cases p<;>first | rfl | (cases lG;done) | skip
     case sub s x l hh mx=>cases mx<;>cases lG
     case call f as=>simp only[eZ] at lG;split at lG<;>cases lG
    rw[uF hlp] at hp ⊢
    rw[(BJ hp).1]
    rfl
   ·refine(Nz hp lG fun x hx b hb aX => ?_).2
    rcases Nat.lt_or_ge c k with hck | hck
    ·obtain⟨ZA,pc,Y6,MT⟩:=I.Y8 (Nat.lt_trans hck A.lt)
     have Ia:b<(st c).2.length:=by
      rcases Nat.lt_or_ge b (st c).2.length with h | h
      ·exact h
      ·exfalso
       obtain⟨l,hl⟩:=VZ (A.operand I (Uj A.ok.S9 hx)) hb
       have h0:=T.len (i:=0) (j:=c) (Nat.zero_le _) I.Jq
       have h1:=T.len (i:=k) (j:=ops.size) (Nat.le_of_lt A.lt) (Nat.le_refl _)
       rcases I.Uz b l hl with h2 | ⟨i,hiS,cX,hi1,Hn⟩
       ·exact h2 (zB b (by omega) (by omega))
       ·rcases Nat.lt_trichotomy i c with h3 | h3 | h3
        ·have:=T.len (i:=i+1) (j:=c) h3 I.Jq
         omega
        ·subst h3;exact ZA hiS
        ·obtain⟨oi,qi,pii,_,WC,_⟩:=T.at cX
         have:=I.late T h3 cX hiS WC
         rw[T.Rp cX WC this] at Hn
         omega
     refine(T.Vy (Nat.le_of_lt hck) (Nat.le_of_lt A.lt) b Ia fun j hj1 Uq q qi hq WC hqw ZH => ?_).symm
     obtain⟨pi',ahI,iH⟩:=At.pair T Uq A.lt hq A.ep
     rw[A.epi] at ahI
     cases ahI
     unfold Ck at iH
     rw[hqw,lG] at iH
     rcases iH with h | ⟨xa,xb,ha,wM,hun,Io⟩
     ·exfalso
      rw[uJ Uq] at h
      have hjS:=A.Y7 j h
      rcases Nat.lt_or_ge c j with h3 | h3
      ·rcases I.late T h3 (Nat.lt_trans Uq A.lt) hjS hq with h4 | h4<;>(rw[hqw] at h4;cases h4)
      ·have:j=c:=by omega
       subst this;exact ZA hjS
     ·rw[hx] at wM
      cases wM
      refine⟨xa,ha,fun e => ?_⟩
      have hk:=List.all_eq_true.1 MR _ Io
      unfold yK at hk
      rw[El T (Nat.le_of_lt Uq) (Nat.le_of_lt A.lt) hun,e,hb] at hk
      simp at hk
    ·refine T.Vy hck I.Jq b aX fun j hj1 Uq q qi hq WC hqw ZH => ?_
     have hjk:k<j:=by
      rcases Nat.lt_or_ge k j with h | h
      ·exact h
      ·have:j=k:=by omega
       subst this
       rw[A.ep] at hq
       cases hq
       rw[hqw] at lG
       cases lG
     have hjn:j<ops.size:=Nat.lt_of_lt_of_le Uq I.Jq
     obtain⟨oj,q',qi',hoj,JX,Wy,auU,_,vj,hvj,_⟩:=T.at hjn
     rw[hq] at JX
     cases JX
     rw[WC] at Wy
     cases Wy
     obtain⟨qi',Wy,iH⟩:=At.pair T hjk hjn A.ep hq
     rw[WC] at Wy
     cases Wy
     unfold Ck at iH
     rw[hqw,lG] at iH
     rcases iH with h | ⟨xa,xb,ha,wM,hun,Io⟩
     ·exfalso
      rw[uJ hjk] at h
      exact A.desc j hjn (I.before j q Uq hq hqw) h
     ·rw[hx] at ha
      cases ha
      refine⟨xb,wM,fun e => ?_⟩
      have anK:qi.cf.all (yK (st j).1)=true:=by
       rcases rN hvj with⟨h,_⟩ | ⟨_,h,_⟩
       ·rw[ZH] at h;cases h
       ·exact h
      have hk:=List.all_eq_true.1 anK _ Io
      unfold yK at hk
      rw[El T (Nat.le_of_lt hjk) (Nat.le_of_lt hjn) hun,e,hb] at hk
      simp at hk
  rw[key]
 ·exfalso
  rw[A.ok.op] at hp
  rcases pJ hp with⟨g,as,rfl⟩ | ⟨g,as,rfl⟩
  ·simp only[eZ] at lG
   split at lG<;>rcases lG with h | h<;>cases h
  ·rcases lG with h | h<;>cases h
end
end Go.PM
namespace Go.PM
section
variable {P:Program} {E:yW} {n:Nat} {ops:Array Oper} {qR:List PI} {ps:List lM} {M:List Nat} {call:fI} {lo L0:Nat} {st:Nat→Env×aD}
 {m0:cQ} {w0:World} {ds:List Deferred}
theorem Ed {H:aD} {b:Nat} (h:H.length≤b):¬Live H b:=fun hl=>by have:=hl.lt;omega
theorem WD {S:Nat→Prop} {m:cQ} {c:Nat} {a:Act} {w:World} {k:Nat} {o:Oper} (T:Text P E n ops qR ps M call lo st) (lU:tQ P L0 call) (gV:L0≤lo) (xM:L0≤(st 0).2.length)
  (zB:∀b,(st 0).2.length≤b→b<(st ops.size).2.length→m0 b=none) (I:pH E n ops ps lo L0 st m0 w0 ds S m c a w) (ho:ops[k]? = some o) (hkS:¬S k)
  (hr:∀e∈o.after.toList,Region.binds .any e=true→S e.on) {K:Act→World→Prop} {Q:Exit→Act→World→Prop}
  (hK:∀m' c' a' w',pH E n ops ps lo L0 st m0 w0 ds (fun i=>i=k∨S i) m' c' a' w'→K a' w'):wpOp P ops Q k K a w:=by
 have aX:k<ops.size:=(Array.getElem?_eq_some_iff.1 ho).1
 obtain⟨o',p,pi,Vd,hp,TB,BW,Ta,v,hv,he⟩:=T.at aX
 rw[ho] at Vd
 cases Vd
 have ho2:ops.toList[k]? = some o:=by simpa using ho
 have A:At P E n ops qR ps M S k o p pi:=⟨aX,ho,hp,TB,BW,Ta,hkS,fun i hi=>T.Y7 I.back ho2 hr hi,fun i hi hS hb=>by
  have hio:ops.toList[i]? = some ops[i]:=by simp[hi]
  exact hkS (T.Y7 I.back hio (I.back i _ hio hS) hb)⟩
 have Qx:=A.reads I
 have Zs:=T.len (i:=0) (j:=c) (Nat.zero_le _) I.Jq
 have ahE:=T.len (i:=c) (j:=ops.size) I.Jq (Nat.le_refl _)
 have afO:=T.len (i:=0) (j:=k) (Nat.zero_le _) (Nat.le_of_lt aX)
 have anF:=T.len (i:=k+1) (j:=ops.size) aX (Nat.le_refl _)
 have amN:=T.aeY aX
 have hfk:∀b,(st k).2.length≤b→b<(st (k+1)).2.length→m b=none:=by
  intro b h1 h2
  cases hm:m b with
  | none=>rfl
  |
   some l =>
   exfalso
   rcases I.Uz b l hm with h3 | ⟨i,hiS,cX,hi1,Hn⟩
   ·exact h3 (zB b (by omega) (by omega))
   ·rcases Nat.lt_trichotomy i k with h3 | h3 | h3
    ·have:=T.len (i:=i+1) (j:=k) h3 (Nat.le_of_lt aX)
     omega
    ·subst h3;exact hkS hiS
    ·have:=T.len (i:=k+1) (j:=i) h3 (Nat.le_of_lt cX)
     omega
 have Pd:(eZ E p = .pure∨eZ E p = .look)→wpOp P ops Q k K a w:=by
  intro lG
  have hq:pi.quiet=false:=by
   rw[Ta.quiet]
   rcases lG with h | h<;>rw[h]
  have hw:eZ E p ≠ .write:=by rcases lG with h | h<;>(rw[h];exact fun h=>by cases h)
  refine Ly ho BW (fun h=>by rw[hq] at h;cases h) (I.look T A zB lG hv) Qx I.rel gV (Nat.le_trans xM Zs) (fun b h1 h2=>by omega) lU fun m' rv w' QU hR hT => ?_
  rw[hq] at hT
  simp only[Bool.false_eq_true,if_false] at hT
  have hmm:m'=m:=by
   funext b
   cases hm:m b with
   | some l=>exact hT.ext b l hm
   |
    none =>
    cases hm':m' b with
    | none=>rfl
    | some l=>have:=(hT.new b l hm' hm).1;omega
  subst hmm
  refine hK m' c _ w' ⟨by rw[DA];exact I.En,by rw[DO];exact I.defs,I.Vu A hr,I.KP T A (fun _ _ h=>h) QU he,I.Jq,fun i q h1 h2 h3 => .inr (I.before i q h1 h2 h3),?_,hR,?_,?_⟩
  ·intro h
   obtain⟨h1,q,h2,h3⟩:=I.Y8 h
   refine⟨fun hS=>hS.elim (fun e => ?_) h1,q,h2,h3⟩
   subst e
   rw[hp] at h2
   cases h2
   exact hw h3
  ·exact Trans.trans (fun b h1 h2=>zB b h1 (by omega)) (T.Xm (Nat.zero_le _) I.Jq) (Ext.refl _ _) I.tr hT
  ·intro b l hb
   exact(I.Uz b l hb).imp id fun⟨i,h1,h2⟩=>⟨i,.inr h1,h2⟩
 cases lG:eZ E p with
 |
  write =>
  have hkc:k=c:=by
   rcases Nat.lt_trichotomy k c with h | h | h
   ·exact absurd (I.before k p h hp lG) hkS
   ·exact h
   ·exfalso
    obtain⟨ZA,pc,Y6,MT⟩:=I.Y8 (by omega)
    obtain⟨qi,_,iH⟩:=At.pair T h aX Y6 hp
    unfold Ck at iH
    rw[MT,lG] at iH
    simp only at iH
    rw[uJ h] at iH
    exact ZA (A.Y7 c iH)
  subst hkc
  refine Ly ho BW (fun hq=>by rw[Ta.quiet,lG] at hq;cases hq) hv Qx I.rel gV (Nat.le_trans xM Zs) hfk lU fun m' rv w' QU hR hT => ?_
  have hq:pi.quiet=false:=by rw[Ta.quiet,lG]
  rw[hq] at hT
  simp only[Bool.false_eq_true,if_false] at hT
  obtain⟨c',hc1,XH,hc3,hc4⟩:=Dc (fun i=>∃q,ps[i]? = some q∧eZ E q = .write) _ (k+1) ops.size rfl aX
  have Sk:∀b,b<(st (k+1)).2.length→(st c').2[b]? = (st (k+1)).2[b]? := T.same hc1 XH fun i h1 h2 q hq hw=>hc3 i h1 h2 ⟨q,hq,hw⟩
  have amE:=T.len hc1 XH
  have aeJ:=T.len (i:=c') (j:=ops.size) XH (Nat.le_refl _)
  have afU:∀b l,m' b=some l→m0 b≠none∨∃i,(i=k∨S i)∧i<ops.size∧(st i).2.length≤b∧b<(st (i+1)).2.length:=by
   intro b l hb
   cases hm:m b with
   | some l'=>exact(I.Uz b l' hm).imp id fun⟨i,h1,h2⟩=>⟨i,.inr h1,h2⟩
   | none=>exact .inr ⟨k,.inl rfl,aX,(hT.new b l hb hm).1⟩
  have abJ:∀b,(st (k+1)).2.length≤b→b<(st c').2.length→m' b=none:=by
   intro b h1 h2
   cases hm:m' b with
   | none=>rfl
   |
    some l =>
    exfalso
    rcases afU b l hm with h3 | ⟨i,hiS,cX,hi1,Hn⟩
    ·exact h3 (zB b (by omega) (by omega))
    ·rcases Nat.lt_trichotomy i k with h3 | h3 | h3
     ·have:=T.len (i:=i+1) (j:=k) h3 (Nat.le_of_lt aX)
      omega
     ·subst h3;omega
     ·obtain⟨oi,qi,pii,_,WC,_⟩:=T.at cX
      have:=I.late T h3 cX (hiS.resolve_left (by omega)) WC
      rw[T.Rp cX WC this] at Hn
      omega
  have hTT:Trans lo m0 (st 0).2 w0 m' (st (k+1)).2 w':=Trans.trans (fun b h1 h2=>zB b h1 (by omega)) (T.Xm (Nat.zero_le _) (Nat.le_of_lt aX)) (T.Xm (Nat.le_succ _) aX) I.tr hT
  refine hK m' c' _ w' ⟨by rw[DA];exact I.En,by rw[DO];exact I.defs,I.Vu A hr,I.KP T A hT.ext QU he,XH,?_,?_,hR.grow Sk abJ,?_,afU⟩
  ·intro i q hi hq hw
   rcases Nat.lt_trichotomy i k with h | h | h
   ·exact .inr (I.before i q h hq hw)
   ·exact .inl h
   ·exact absurd ⟨q,hq,hw⟩ (hc3 i h hi)
  ·intro h
   obtain⟨q,hq,hw⟩:=hc4 h
   refine⟨fun hS => ?_,q,hq,hw⟩
   rcases hS with hS | hS
   ·omega
   ·rcases I.late T (by omega) h hS hq with h4 | h4<;>(rw[hw] at h4;cases h4)
  ·refine⟨hTT.ext,fun b l hb hn => ?_,hTT.size,hTT.jP,hTT.same⟩
   obtain⟨⟨h1,h2⟩,h3⟩:=hTT.new b l hb hn
   refine⟨⟨h1,by omega⟩,?_⟩
   rcases h3 with h3 | h3 | h3
   ·exact .inl h3
   ·exact .inr (.inl fun hl=>h3 ((gW (Sk b h2)).1 hl))
   ·exact .inr (.inr h3)
 |
  quiet =>
  have hkc:k<c:=by
   rcases Nat.lt_or_ge k c with h | h
   ·exact h
   ·exfalso
    rcases Nat.lt_or_ge c k with h' | h'
    ·obtain⟨ZA,pc,Y6,MT⟩:=I.Y8 (by omega)
     obtain⟨qi,_,iH⟩:=At.pair T h' aX Y6 hp
     unfold Ck at iH
     rw[MT,lG] at iH
     simp only at iH
     rw[uJ h'] at iH
     exact ZA (A.Y7 c iH)
    ·have:k=c:=by omega
     subst this
     obtain⟨_,pc,Y6,MT⟩:=I.Y8 aX
     rw[hp] at Y6
     cases Y6
     rw[lG] at MT
     cases MT
  have Sw:∀i,k<i→i<c→∀q,ps[i]? = some q→eZ E q ≠ .write:=by
   intro i h1 h2 q hq hw
   have cX:i<ops.size:=Nat.lt_of_lt_of_le h2 I.Jq
   obtain⟨qi,_,iH⟩:=At.pair T h1 cX hp hq
   unfold Ck at iH
   rw[lG,hw] at iH
   simp only at iH
   rw[uJ h1] at iH
   exact A.desc i cX (I.before i q h2 hq hw) iH
  have JZ:∀b,b<(st (k+1)).2.length→(st c).2[b]? = (st (k+1)).2[b]? := T.same hkc I.Jq fun i h1 h2 q hq=>Sw i h1 h2 q hq
  have XE:∀b,b<(st k).2.length→(st c).2[b]? = (st k).2[b]? := T.same (Nat.le_of_lt hkc) I.Jq fun i h1 h2 q hq=>by
   rcases Nat.lt_or_ge k i with h | h
   ·exact Sw i h h2 q hq
   ·have:i=k:=by omega
    subst this
    rw[hp] at hq
    cases hq
    rw[lG]
    exact fun h=>by cases h
  have apK:=T.len (i:=k+1) (j:=c) hkc I.Jq
  refine Ly ho BW (fun _=>lG) hv Qx (I.rel.restrict XE) gV (Nat.le_trans xM afO) hfk lU fun m' rv w' QU hR hT => ?_
  have hq:pi.quiet=true:=by rw[Ta.quiet,lG]
  rw[hq] at hT
  simp only[if_true] at hT
  have KK:∀rb,rb<w.heap.size→w'.heap[rb]? = w.heap[rb]? := fun rb AN=>hT.jP rb AN fun b l hb _ hl=>absurd hl (Ed hb)
  have rG:∀b l,m' b=some l→m b=none→((st k).2.length≤b∧b<(st (k+1)).2.length)∧(w.heap.size≤l.rb∨¬Live (st (k+1)).2 b):=by
   intro b l h1 h2
   obtain⟨h3,h4⟩:=hT.new b l h1 h2
   refine⟨h3,?_⟩
   rcases h4 with h4 | h4 | ⟨b0,l0,g1,_,g3,_⟩
   ·exact .inl h4
   ·exact .inr h4
   ·exact absurd g3 (Ed g1)
  have aeK:∀b l,m b=some l→l.rb<w.heap.size:=by
   intro b l hb
   obtain⟨arr,e,fz,h1,_⟩:=I.rel.valid b l hb
   exact(Array.getElem?_eq_some_iff.1 h1).1
  have Rs:∀rb j,rb<w.heap.size→w'.cell? ⟨rb,j,none⟩=w.cell? ⟨rb,j,none⟩:=by
   intro rb j AN
   unfold World.cell?
   simp only[KK rb AN]
  have AA:∀b l,m' b=some l→(st (k+1)).2.length≤b→m b=some l:=by
   intro b l hb h
   cases hm:m b with
   | some l'=>have:=hT.ext b l' hm;rw[hb] at this;exact this.symm
   | none=>have:=(rG b l hb hm).1.2;omega
  refine hK m' c _ w' ⟨by rw[DA];exact I.En,by rw[DO];exact I.defs,I.Vu A hr,I.KP T A hT.ext QU he,I.Jq,fun i q h1 h2 h3 => .inr (I.before i q h1 h2 h3),?_,⟨hR.valid,?_,?_,?_⟩,?_,?_⟩
  ·intro h
   obtain⟨h1,q,h2,h3⟩:=I.Y8 h
   exact⟨fun hS=>hS.elim (fun e=>by omega) h1,q,h2,h3⟩
  ·intro b l cs e pp hm hb
   rcases Nat.lt_or_ge b (st (k+1)).2.length with h | h
   ·exact hR.row b l cs e pp hm (by rw[←JZ b h];exact hb)
   ·have hmo:=AA b l hm h
    obtain⟨h1,h2,h3,h4⟩:=I.rel.row b l cs e pp hmo hb
    refine⟨h1,h2,h3,fun i hi => ?_⟩
    obtain⟨rv',g1,g2,g3⟩:=h4 i hi
    exact⟨rv',by rw[Rs _ _ (aeK b l hmo)];exact g1,g2.mono hT.ext,g3⟩
  ·intro b1 b2 l1 l2 Cn h1 h2 Em Gj AN
   have fresh:∀b b' l l',m' b=some l→m b=none→m b'=some l'→Live (st c).2 b→l.rb=l'.rb→False:=by
    intro b b' l l' g1 g2 g3 g4 g5
    obtain⟨⟨_,g6⟩,g7⟩:=rG b l g1 g2
    rcases g7 with g7 | g7
    ·have:=aeK b' l' g3;omega
    ·exact g7 ((gW (JZ b g6)).1 g4)
   cases MG:m b1 with
   |
    some l1' =>
    cases XI:m b2 with
    |
     some l2' =>
     have e1:l1'=l1:=by have:=hT.ext b1 l1' MG;rw[h1] at this;injection this with this;exact this.symm
     have e2:l2'=l2:=by have:=hT.ext b2 l2' XI;rw[h2] at this;injection this with this;exact this.symm
     subst e1 e2
     exact I.rel.inj b1 b2 _ _ Cn MG XI Em Gj AN
    |
     none =>
     have e1:l1'=l1:=by have:=hT.ext b1 l1' MG;rw[h1] at this;injection this with this;exact this.symm
     subst e1
     exact(fresh b2 b1 _ _ h2 XI MG Gj AN.symm).elim
   |
    none =>
    cases XI:m b2 with
    |
     some l2' =>
     have e2:l2'=l2:=by have:=hT.ext b2 l2' XI;rw[h2] at this;injection this with this;exact this.symm
     subst e2
     exact(fresh b1 b2 _ _ h1 MG XI Em AN).elim
    |
     none =>
     have g1:=(rG b1 l1 h1 MG).1.2
     have g2:=(rG b2 l2 h2 XI).1.2
     exact hR.inj b1 b2 l1 l2 Cn h1 h2 ((gW (JZ b1 g1)).1 Em) ((gW (JZ b2 g2)).1 Gj) AN
  ·intro x hx
   refine⟨(hR.Bc x hx).1,fun b l hb hm hl => ?_⟩
   obtain⟨⟨e0,fz0,q1⟩,q2⟩:=I.rel.Bc x hx
   cases MG:m b with
   |
    some l' =>
    have e1:l'=l:=by have:=hT.ext b l' MG;rw[hm] at this;injection this with this;exact this.symm
    subst e1
    exact q2 b l' hb MG hl
   |
    none =>
    obtain⟨⟨_,g6⟩,g7⟩:=rG b l hm MG
    rcases g7 with g7 | g7
    ·have:=(Array.getElem?_eq_some_iff.1 q1).1
     omega
    ·exact(g7 ((gW (JZ b g6)).1 hl)).elim
  ·refine⟨fun b l hb=>hT.ext b l (I.tr.ext b l hb),fun b l hb hn => ?_,Nat.le_trans I.tr.size hT.size,fun rb AN hk => ?_,hT.same.1.trans I.tr.same.1,hT.same.2.1.trans I.tr.same.2.1,hT.same.2.2.trans I.tr.same.2.2⟩
   ·cases hm:m b with
    |
     some l' =>
     have e1:l'=l:=by have:=hT.ext b l' hm;rw[hb] at this;injection this with this;exact this.symm
     subst e1
     exact I.tr.new b l' hm hn
    |
     none =>
     obtain⟨⟨g1,g2⟩,g3⟩:=rG b l hb hm
     refine⟨⟨by omega,by omega⟩,?_⟩
     rcases g3 with g3 | g3
     ·exact .inl (Nat.le_trans I.tr.size g3)
     ·exact .inr (.inl fun hl=>g3 ((gW (JZ b g2)).1 hl))
   ·rw[KK rb (Nat.lt_of_lt_of_le AN I.tr.size),I.tr.jP rb AN hk]
  ·intro b l hb
   cases hm:m b with
   | some l'=>exact(I.Uz b l' hm).imp id fun⟨i,h1,h2⟩=>⟨i,.inr h1,h2⟩
   | none=>exact .inr ⟨k,.inl rfl,aX,(rG b l hb hm).1⟩
 | pure=>exact Pd (.inl lG)
 | look=>exact Pd (.inr lG)
end
end Go.PM
namespace Go.PM
section
variable {P:Program} {E:yW} {n:Nat} {call:fI} {lo L0:Nat}
theorem Trans.fresh {m m':cQ} {H H1 H2:aD} {w w':World} (h:Trans lo m H w m' H1 w') (h1:H.length≤H1.length) (hf:∀b,H.length≤b→b<H2.length→m b=none):∀b,H1.length≤b→b<H2.length→m' b=none:=by
 intro b Cn X3
 cases hm:m' b with
 | none=>rfl
 |
  some l =>
  exfalso
  have hn:=hf b (by omega) X3
  have:=(h.new b l hm hn).1
  omega
structure EL (n L0:Nat) (m:cQ) (ρ:Env) (H:aD) (a:Act) (w:World):Prop where
 En:a.tmps.size=n
 defs:a.defers=[]
 env:∀t,RV m (ρ t) (a.tmps.getD t undef)
 rel:Rel m L0 H w
theorem Lg {p q:Nat→Bool}:∀ {l:List Nat} {i:Nat},(∀x∈l,q x=true→p x=true)→i∈l→p i=true→q i=false→l.countP q<l.countP p
 |
  x::l,i,h,hi,hp,hq=>by
  rw[List.countP_cons,List.countP_cons]
  have hle:l.countP q≤l.countP p:=List.countP_mono_left fun x hx=>h x (List.mem_cons_of_mem _ hx)
  rcases List.mem_cons.1 hi with rfl | hi
  ·rw[if_neg (by simp[hq]),if_pos hp];omega
  ·have:=Lg (fun x hx=>h x (List.mem_cons_of_mem _ hx)) hi hp hq
   have:(if q x=true then 1 else 0)≤(if p x=true then 1 else 0):=by
    by_cases hqx:q x=true
    ·rw[if_pos hqx,if_pos (h x List.mem_cons_self hqx)];omega
    ·rw[if_neg hqx];omega
   omega
theorem IU {listed:Array Bool} {k i:Nat} (hk:k<listed.size):(listed.setIfInBounds k true).getD i false=true↔(i=k∨listed.getD i false=true):=by
 rcases Nat.lt_or_ge i listed.size with h | h
 ·by_cases e:i=k
  ·subst e;simp[h]
  ·simp[h,e,Ne.symm e]
 ·have:i≠k:=by omega
  simp[h,this]
theorem Yd {ops:Array Oper} {qR:List PI} {ps:List lM} {M:List Nat} {st:Nat→Env×aD} {m0:cQ} {w0:World} (T:Text P E n ops qR ps M call lo st) (lU:tQ P L0 call) (gV:L0≤lo) (xM:L0≤(st 0).2.length)
  (zB:∀b,(st 0).2.length≤b→b<(st ops.size).2.length→m0 b=none) {Q:Exit→Act→World→Prop}
  (hQ:∀m' a' w',EL n L0 m' (st ops.size).1 (st ops.size).2 a' w'→Trans lo m0 (st 0).2 w0 m' (st ops.size).2 w'→Q .normal a' w') :
  ∀(fuel:Nat) (listed:Array Bool) (m:cQ) (c:Nat) (a:Act) (w:World),listed.size=ops.size→((List.range ops.size).countP fun i => !listed.getD i false)≤fuel →
  pH E n ops ps lo L0 st m0 w0 [] (fun i=>listed.getD i false=true) m c a w→wpAny P .any ops Q fuel listed a w:=by
 have fin:∀(listed:Array Bool) (m:cQ) (c:Nat) (a:Act) (w:World),listed.size=ops.size→(Region.ready .any ops listed=[])→pH E n ops ps lo L0 st m0 w0 [] (fun i=>listed.getD i false=true) m c a w→Q .normal a w:=by
  intro listed m c a w hs hr I
  have all:∀i,i<ops.size→listed.getD i false=true:=by
   intro i
   induction i using Nat.strongRecOn with
   |
    _ i ih =>
    intro hi
    cases hl:listed.getD i false with
    | true=>rfl
    |
     false =>
     exfalso
     obtain⟨o,p,pi,ho,_,_,_,Ta,_⟩:=T.at hi
     have:i∈Region.ready .any ops listed:=by
      rw[mem_ready]
      refine⟨?_,o,ho,fun e he hb => ?_⟩
      ·have QJ:i<listed.size:=by omega
       simpa[QJ] using hl
      ·have:=Ta.back e (by simpa using he) hb
       exact ih e.on this (by omega)
     rw[hr] at this
     cases this
  have hcN:c=ops.size:=by
   rcases Nat.lt_or_ge c ops.size with h | h
   ·exact absurd (all c h) (I.Y8 h).1
   ·have:=I.Jq;omega
  subst hcN
  exact hQ m a w ⟨I.En,I.defs,fun t=>I.tm t ops.size (Nat.le_refl _) fun i o hi _=>⟨fun _=>Dq hi,fun h=>all i h⟩,I.rel⟩ I.tr
 intro fuel
 induction fuel with
 |
  zero =>
  intro listed m c a w hs hc I
  have hr:Region.ready .any ops listed=[]:=by
   rw[List.eq_nil_iff_forall_not_mem]
   intro i hi
   have Cq:=mem_ready.1 hi
   obtain⟨h1,o,ho,_⟩:=Cq
   have aX:i<ops.size:=(Array.getElem?_eq_some_iff.1 ho).1
   have h0:((List.range ops.size).countP fun i => !listed.getD i false)=0:=by omega
   rw[List.countP_eq_zero] at h0
   have:=h0 i (List.mem_range.2 aX)
   have QJ:i<listed.size:=by omega
   simp[QJ] at this h1
   rw[h1] at this
   cases this
  exact⟨hr,fin listed m c a w hs hr I⟩
 |
  succ fuel ih =>
  intro listed m c a w hs hc I
  refine⟨fun hr=>fin listed m c a w hs hr I,fun k hk => ?_⟩
  obtain⟨h1,o,ho,hb⟩:=mem_ready.1 hk
  have aX:k<ops.size:=(Array.getElem?_eq_some_iff.1 ho).1
  have hkl:k<listed.size:=by omega
  have hkf:listed.getD k false=false:=by simpa[hkl] using h1
  refine WD T lU gV xM zB I ho (by rw[hkf];exact fun h=>by cases h) (fun e he XD=>hb e (by simpa using he) XD) fun m' c' a' w' I'=>ih _ m' c' a' w' (by simpa using hs) ?_ ?_
  ·have:((List.range ops.size).countP fun i => !(listed.setIfInBounds k true).getD i false)<((List.range ops.size).countP fun i => !listed.getD i false):=by
    refine Lg (i:=k) (fun x _ hx => ?_) (List.mem_range.2 aX) (by rw[hkf];rfl) ?_
    ·cases hlx:listed.getD x false with
     | false=>rfl
     |
      true =>
      have:=(IU (i:=x) hkl).2 (.inr hlx)
      rw[this] at hx
      cases hx
    ·rw[(IU hkl).2 (.inl rfl)];rfl
   omega
  ·have e:(fun i=>(listed.setIfInBounds k true).getD i false=true)=fun i=>i=k∨listed.getD i false=true:=by
    funext i
    exact propext (IU hkl)
   rw[e]
   exact I'
theorem Rel.drew {m:cQ} {H:aD} {w w':World} (h:Rel m L0 H w) (hw:w'.heap=w.heap):Rel m L0 H w':=by
 have hc:∀x,w'.cell? x=w.cell? x:=fun x=>by unfold World.cell?;rw[hw]
 refine⟨fun b l hb=>by rw[hw];exact h.valid b l hb,fun b l cs e p hm hb => ?_,h.inj,fun x hx=>⟨by rw[hw];exact(h.Bc x hx).1,(h.Bc x hx).2⟩⟩
 obtain⟨h1,h2,h3,h4⟩:=h.row b l cs e p hm hb
 refine⟨h1,h2,h3,fun i hi => ?_⟩
 rw[hc]
 exact h4 i hi
theorem Qg {id:Nat} {ops:Array Oper} {draw:Bool} {qR:List PI} (Bv:P.follows .mixedOrders=true) (lU:tQ P L0 call) (oO:pC call) (hp:uW P E n ops draw=some qR) {ρ aU:Env} {H H':aD}
  (hv:fZ call lo qR ρ H=some (aU,H')) {m:cQ} {a:Act} {w:World} (h:EL n L0 m ρ H a w) (gV:L0≤lo) (hlen:L0≤H.length) (hf:∀b,H.length≤b→b<H'.length→m b=none) {Q:Exit→Act→World→Prop}
  (hQ:∀m' a' w',EL n L0 m' aU H' a' w'→Trans lo m H w m' H' w'→Q .normal a' w'):(Code.region id ops draw).wp P Q a w:=by
 obtain⟨ps,M,BW⟩:=G3 hp
 obtain⟨st,XE,hsn,EZ⟩:=Ej hv
 have hN:qR.length=ops.size:=by rw[BW.amX];simp
 rw[hN] at hsn
 cases draw with
 |
  true =>
  have T:Text P E n ops qR ps M call lo st:=⟨BW,oO,EZ⟩
  apply wp_region_any Bv
  have e0:(st 0).1=ρ:=by rw[XE]
  have e1:(st 0).2=H:=by rw[XE]
  have e2:(st ops.size).1=aU:=by rw[hsn]
  have e3:(st ops.size).2=H':=by rw[hsn]
  obtain⟨c,hc1,XH,hc3,hc4⟩:=Dc (fun i=>∃q,ps[i]? = some q∧eZ E q = .write) _ 0 ops.size rfl (Nat.zero_le _)
  have Sk:=T.same hc1 XH fun i h1 h2 q hq hw=>hc3 i h1 h2 ⟨q,hq,hw⟩
  have ahE:=T.len hc1 XH
  have aeJ:=T.len (i:=c) (j:=ops.size) XH (Nat.le_refl _)
  have hgr:=h.rel.grow (by rw[←e1];exact Sk) (fun b h1 h2=>hf b h1 (by rw[←e3];omega))
  have Vc:∀i,(Array.replicate ops.size false).getD i false=true→False:=by
   intro i hi
   rcases Nat.lt_or_ge i ops.size with h | h<;>simp[h] at hi
  refine Yd (m0:=m) (w0:=w) T lU gV (by rw[e1];exact hlen) (by rw[e1,e3];exact hf) (by rw[e1,e2,e3];exact hQ) ops.size _ m c a _ (by simp) (Nat.le_trans List.countP_le_length (by simp)) ?_
  refine⟨h.En,h.defs,fun i o _ hi=>(Vc i hi).elim,fun t j hj hw => ?_,XH,fun i q hi hq hw=>absurd ⟨q,hq,hw⟩ (hc3 i (Nat.zero_le _) hi),fun hc=>⟨fun h=>Vc _ h,hc4 hc⟩,hgr.drew rfl,?_,fun b l hb => .inl (by rw[hb];exact fun h=>by cases h)⟩
  ·have e:(st j).1 t=ρ t:=by
    rw[←e0]
    refine T.Lv (Nat.zero_le _) hj fun i oi _ Hn hoi hd => ?_
    have OF:ops.toList[i]? = some oi:=by simpa using hoi
    exact(Vc i ((hw i oi OF hd).2 Hn)).elim
   rw[e]
   exact h.env t
  ·rw[e1]
   refine⟨fun _ _ h=>h,fun b l hb hn=>(by rw[hb] at hn;cases hn),Nat.le_refl _,fun _ _ _=>rfl,rfl,rfl,rfl⟩
 |
  false =>
  apply wp_region
  have key:∀d i,ops.size-i=d→i≤ops.size→∀m1 a1 w1,EL n L0 m1 (st i).1 (st i).2 a1 w1→L0≤(st i).2.length→(∀b,(st i).2.length≤b→b<H'.length→m1 b=none) →
    (∀m' a' w',EL n L0 m' aU H' a' w'→Trans lo m1 (st i).2 w1 m' H' w'→Q .normal a' w')→wpOps P ops Q ((List.range ops.size).drop i) a1 w1:=by
   intro d
   induction d with
   |
    zero =>
    intro i hd hi m1 a1 w1 h1 _ _ hQ1
    have:i=ops.size:=by omega
    subst this
    rw[List.drop_eq_nil_of_le (by simp)]
    rw[hsn] at h1 hQ1
    exact hQ1 m1 a1 w1 h1 (Trans.refl _ _ _ _)
   |
    succ d ih =>
    intro i hd hi m1 a1 w1 h1 Em hf1 hQ1
    have aX:i<ops.size:=by omega
    rw[List.drop_eq_getElem_cons (by simpa using aX),wpOps_cons]
    have ho:ops.toList[i]? = some ops[i]:=by simp[aX]
    obtain⟨p,pi,hp1,hp2,Z7,_,Ta⟩:=BW.each i _ ho
    have Zn:=EZ i pi hp2
    obtain⟨v,Zt,hv2⟩:=vE Zn
    have hq:pi.quiet=false:=(Ta rfl).1
    have hE1:=FG oO Zn
    have hE2:Ext lo (st (i+1)).2 H':=by
     have:∀d j,ops.size-j=d→j≤ops.size→Ext lo (st j).2 H':=by
      intro d
      induction d with
      | zero =>
        intro j hd hj;have:j=ops.size:=by omega
        subst this;rw[hsn];exact Ext.refl _ _
      |
       succ d ih =>
       intro j hd hj
       have hjl:j<qR.length:=by omega
       exact(FG oO (EZ j qR[j] (List.getElem?_eq_getElem hjl))).trans (ih (j+1) (by omega) (by omega))
     exact this _ (i+1) rfl aX
    have Cp:(List.range ops.size)[i]'(by simpa using aX)=i:=by simp
    rw[Cp]
    refine Ly (by simp[aX]) Z7 (fun h=>by rw[hq] at h;cases h) Zt (fun t _=>h1.env t) h1.rel gV Em (fun b Cn X3=>hf1 b Cn (Nat.lt_of_lt_of_le X3 hE2.len)) lU fun m' rv w' QU hR hT => ?_
    rw[hq] at hT
    simp only[Bool.false_eq_true,if_false] at hT
    refine ih (i+1) (by omega) aX m' _ w' ⟨by rw[DA];exact h1.En,by rw[DO];exact h1.defs,fun t => ?_,hR⟩ (Nat.le_trans Em hE1.len) (hT.fresh hE1.len hf1) fun m2 a2 w2 h2 hT2=>hQ1 m2 a2 w2 h2 (Trans.trans hf1 hE1 hE2 hT hT2)
    rw[hv2,Z7.dst]
    cases hd:ops[i].dst with
    | none=>exact(h1.env t).mono hT.ext
    |
     some d =>
     rw[Ov (by rw[h1.En];exact Z7.bound d hd)]
     show RV m' (if t=d then v else (st i).1 t) _
     by_cases e:t=d
     ·rw[if_pos e,if_pos e];exact QU
     ·rw[if_neg e,if_neg e];exact(h1.env t).mono hT.ext
  have:=key ops.size 0 (by omega) (Nat.zero_le _) m a w (by rw[XE];exact h) (by rw[XE];exact hlen) (by rw[XE];exact hf) (by rw[XE];exact hQ)
  simpa using this
end
end Go.PM