/- Texts of a claim, in one: part 2. -/
import Derived.LoopN
import Derived.Test.YtodamlihdkalfaaGreatDoorKRa
set_option linter.unusedSimpArgs false
set_option linter.unusedVariables false
namespace Go.PM
section
variable {P:Program} {m:cS} {L0:Nat} {H:aD} {w:World}
theorem RL.const {zs:List Value} (h:zs.all jM=true):RL m zs zs :=
 ⟨rfl,fun j hj=>by
  have:=RV.const (m:=m) (List.all_eq_true.1 h _ (List.getElem_mem hj))
  simpa[List.getD_eq_getElem?_getD,List.getElem?_eq_getElem hj] using this⟩
theorem sA (n:Nat) (zs:List Value):(cI n zs).length=n*zs.length:=by simp[cI]
theorem tM (n:Nat) {zs:List Value} (h:zs.all jM=true) (h0:1≤zs.length):RL m (cI n zs) (cI n zs):=by
 refine⟨rfl,fun i hi => ?_⟩
 rw[sA] at hi
 have aX:i % zs.length<zs.length:=Nat.mod_lt _ h0
 have e:(cI n zs).getD i undef=zs.getD (i % zs.length) undef:=by simp[cI,List.getD_eq_getElem?_getD,hi]
 rw[e]
 exact(RL.const h).2 _ aX
theorem Ni (n:Nat) {zs:List Value} (h:zs.all fR=true) (h0:1≤zs.length):(cI n zs).all fR=true:=by
 rw[List.all_eq_true]
 intro x hx
 obtain⟨i,_,rfl⟩:=List.mem_map.1 hx
 have aX:i % zs.length<zs.length:=Nat.mod_lt _ h0
 have:=List.all_eq_true.1 h _ (List.getElem_mem aX)
 simpa[List.getD_eq_getElem?_getD,List.getElem?_eq_getElem aX] using this
theorem GX (z:Array Value) (n:Nat) (h0:1≤z.size):(madeCells z (n*z.size)).toList=cI n z.toList:=by
 apply List.ext_getElem
 ·simp[madeCells,cI]
 ·intro i h1 h2
  have aX:i % z.size<z.size:=Nat.mod_lt _ h0
  simp[madeCells,cI,aX]
theorem DO (z:Array Value) (n:Nat) (h0:1≤z.size):(Builtin.zeroCells z n).toList=cI n z.toList:=by
 apply List.ext_getElem
 ·simp[Builtin.zeroCells,cI]
 ·intro i h1 h2
  have aX:i % z.size<z.size:=Nat.mod_lt _ h0
  simp[Builtin.zeroCells,cI,aX]
theorem WW {t:TypeId} {agg:Bool} {size nb lo:Nat} {z:List Value} (ht:kK P t=some (agg,size,z,nb)) (Fg:z.all fR=true) (PQ:z.all jM=true) (hR:Rel m L0 H w) (hf:m H.length=none) :
  cA P (do pure (.value (←Instr.alloc t true (.tuple #[])))) L0 lo m H w (.pointer (some ⟨H.length,0,none⟩)) (H++[.row z z.length false]):=by
 obtain⟨i,d,zz,hi,hd,EZ,rfl,rfl,rfl,rfl⟩:=gY ht
 have nB:(Instr.alloc t true (.tuple #[])).run P w = .ok (.pointer (some ⟨w.heap.size,0,none⟩)) (w.alloc (.cells zz.cells t)):=by
  simp[Instr.alloc,zeroValue,typeInfo,hi,EZ,newVar,newRow]
 have hA:=uK hR hf (w':=w.alloc (.cells zz.cells t)) (arr:=zz.cells) (e:=t) (fz:=(0,0)) rfl ⟨rfl,rfl,rfl⟩ (cs:=aL zz) (eR:=(aL zz).length) (Pz:=false)
  (by rw[dV];exact Nat.le_refl _) (fun i hi=>by
   have:=(RL.const (m:=m) PQ).2 i hi
   rwa [←wV,fB]) Fg (fun j _ h=>by simp at h)
 exact cA.value nB (.ptr _ 0 _ (bM m _ _)) hA.1 (hA.2 lo)
theorem WN {t:TypeId} {v r:Value} {lo:Nat} (hv:RV m v r) (hs:(aL v).all fR=true) (hR:Rel m L0 H w) (hf:m H.length=none) :
  cA P (do pure (.value (←Instr.box t r))) L0 lo m H w (.pointer (some ⟨H.length,0,none⟩)) (H++[.row (aL v) (aL v).length false]):=by
 have nB:(Instr.box t r).run P w = .ok (.pointer (some ⟨w.heap.size,0,none⟩)) (w.alloc (.cells r.cells t)):=by
  simp[Instr.box,newVar,newRow]
 have hA:=uK hR hf (w':=w.alloc (.cells r.cells t)) (arr:=r.cells) (e:=t) (fz:=(0,0)) rfl ⟨rfl,rfl,rfl⟩ (cs:=aL v) (eR:=(aL v).length) (Pz:=false)
  (by rw[dV,hv.aL.1];exact Nat.le_refl _) (fun i hi=>by
   have:=hv.aL.2 i hi
   rwa [←wV,fB]) hs (fun j _ h=>by simp at h)
 exact cA.value nB (.ptr _ 0 _ (bM m _ _)) hA.1 (hA.2 lo)
theorem S6 {t:TypeId} {agg:Bool} {size nb lo:Nat} {z:List Value} {kl kc:IntKind} {l c:Int} (ht:iR P t=some (agg,size,z,nb)) (Fg:z.all fR=true) (PQ:z.all jM=true) (R4:size=z.length) (CD:1≤size)
  (hl:0≤l) (hlc:l≤c) (hb:c*nb≤281474976710656) (hc:c≤9223372036854775807) (hR:Rel m L0 H w) (hf:m H.length=none) :
  cA P (do pure (.value (←Instr.makeSlice t (.int kl l) (.int kc c)))) L0 lo m H w (.slice (some ⟨H.length,0,none⟩) l.toNat c.toNat) (H++[.row (cI c.toNat z) z.length false]):=by
 obtain⟨e,hu,GR⟩:=iJ ht
 obtain⟨i,d,zz,hi,hd,EZ,rfl,rfl,rfl,rfl⟩:=gY GR
 have nB:=run_make (P:=P) w t e i zz hu hi EZ kl kc l c hl hlc (by rw[Int.mul_comm];exact hb) hc
 have Bc:i.size=zz.cells.size:=by rw[R4,dV]
 rw[Bc] at nB CD
 have aaK:(madeCells zz.cells (c.toNat*zz.cells.size)).toList=cI c.toNat (aL zz):=by rw[GX _ _ CD,fB]
 have afB:(madeCells zz.cells (c.toNat*zz.cells.size)).size=c.toNat*(aL zz).length:=by rw[size_madeCells,dV]
 have T3:1≤(aL zz).length:=by rw[←dV];exact CD
 have hA:=uK hR hf (w':=w.alloc (.cells (madeCells zz.cells (c.toNat*zz.cells.size)) e)) (arr:=madeCells zz.cells (c.toNat*zz.cells.size)) (e:=e) (fz:=(0,0)) rfl ⟨rfl,rfl,rfl⟩
  (cs:=cI c.toNat (aL zz)) (eR:=(aL zz).length) (Pz:=false) (by rw[afB,sA];exact Nat.le_refl _) (fun j hj=>by
   have:=(tM (m:=m) c.toNat PQ T3).2 j hj
   rwa [←wV,aaK]) (Ni _ Fg T3) (fun j _ h=>by simp at h)
 refine cA.value nB ?_ hA.1 (hA.2 lo)
 exact .slice _ 0 _ _ _ _ _ (bM m _ _) (by omega) (Nat.le_refl _) (fun _=>rfl) (.inr ⟨rfl,by simp only[afB];omega⟩)
theorem Xh {t:TypeId} {agg:Bool} {size nb lo n:Nat} {z cs:List Value} {parts:List (Nat×Operand)} {ρ:Env} {a:Act} (ht:iR P t=some (agg,size,z,nb)) (Fg:z.all fR=true) (PQ:z.all jM=true) (R4:size=z.length) (CD:1≤size) (hn:n*size≤16777216)
  (ZL:tH ((List.range n).map fun i=>(i*z.length,z.length)) (cI n z) (parts.map fun(i,x)=>(i,ev ρ x))=some cs) (AY:cs.all fR=true) (hr:∀p∈parts,RV m (ev ρ p.2) (a.eval p.2))
  (hR:Rel m L0 H w) (hf:m H.length=none) :
  cA P (do pure (.value (←Instr.buildSlice t n (parts.toArray.map fun(i,x)=>(i,a.eval x))))) L0 lo m H w (.slice (some ⟨H.length,0,none⟩) n n) (H++[.row cs z.length false]):=by
 obtain⟨e,hu,GR⟩:=iJ ht
 obtain⟨i,d,zz,hi,hd,EZ,rfl,rfl,rfl,rfl⟩:=gY GR
 have Bc:i.size=zz.cells.size:=by rw[R4,dV]
 have T3:1≤(aL zz).length:=by rw[←dV,←Bc];exact CD
 have JI:∀j q,((List.range n).map fun i=>(i*(aL zz).length,(aL zz).length))[j]? = some q→(fun i'=>some (i'*i.size,i.size):Nat→Option (Nat×Nat)) j=some q:=by
  intro j q hj
  simp only[List.getElem?_map,Option.map_eq_some_iff] at hj
  obtain⟨k,hk,rfl⟩:=hj
  have ZI:=(List.getElem?_eq_some_iff.1 hk)
  obtain⟨hk1,YT⟩:=ZI
  simp at YT
  subst YT
  rw[←R4]
 have hz:RL m (cI n (aL zz)) ((Array.range (n*i.size)).map (zz.cells[· % zz.cells.size]!)).toList:=by
  have:=tM (m:=m) n PQ T3
  rw[Bc]
  have e1:=GX zz.cells n (by rw[←Bc];exact CD)
  rw[fB] at e1
  show RL m _ (madeCells zz.cells (n*zz.cells.size)).toList
  rw[e1]
  exact this
 obtain⟨IN,h1,h2⟩:=NH (m:=m) _ _ JI (parts.map fun(i,x)=>(i,ev ρ x)) (parts.map fun(i,x)=>(i,a.eval x)) _ _ cs
  (by simp[Function.comp_def]) (by simpa[Function.comp_def] using RL.map (l:=parts) (f:=fun p=>ev ρ p.2) (g:=fun p=>a.eval p.2) hr) hz ZL
 have hlen:cs.length=n*(aL zz).length:=by rw[Mf _ _ _ _ ZL,sA]
 have emap:(Array.map (fun x:Nat×Operand=>(x.1,a.eval x.2)) parts.toArray).toList=parts.map fun(i,x)=>(i,a.eval x):=by simp
 have Q7:¬(2^24<n*i.size):=by omega
 have nB:(Instr.buildSlice t n (parts.toArray.map fun(i,x)=>(i,a.eval x))).run P w = .ok (.slice (some ⟨w.heap.size,0,none⟩) n n) (w.alloc (.cells IN e)):=by
  have UK:Instr.fill (fun i'=>some (i'*i.size,i.size)) ((Array.range (n*i.size)).map (zz.cells[· % zz.cells.size]!)) (Array.map (fun x:Nat×Operand=>(x.1,a.eval x.2)) parts.toArray).toList=some IN:=by rw[emap];exact h1
  by_cases UT:n*i.size=0
  ·rw[UT] at UK
   simp only[show ∀f:Nat→Value,(Array.range 0).map f = #[] from fun f=>by simp] at UK
   unfold Instr.buildSlice
   simp only[Sem.run_bind,run_underlying hu,Result.andThen_ok,run_sizeOf e i hi,UT,if_true,Sem.run_pure,show ¬(0>2^24) by omega,if_false]
   rw[show ∀f:Nat→Value,(Array.range 0).map f = #[] from fun f=>by simp]
   simp only[UK]
   simp[newRow]
  ·unfold Instr.buildSlice
   simp only[Sem.run_bind,run_underlying hu,Result.andThen_ok,run_sizeOf e i hi,UT,if_false,Sem.run_pure,gt_iff_lt,Q7,zeroValue,typeInfo,run_program,hi,EZ]
   simp only[UK]
   simp[newRow]
 have hrs:IN.size=n*(aL zz).length:=by rw[←hlen];simpa using h2.1.symm
 have hA:=uK hR hf (w':=w.alloc (.cells IN e)) (arr:=IN) (e:=e) (fz:=(0,0)) rfl ⟨rfl,rfl,rfl⟩ (cs:=cs) (eR:=(aL zz).length) (Pz:=false)
  (by rw[hlen,hrs];exact Nat.le_refl _) (fun j hj=>by rw[←wV];exact h2.2 j hj) AY (fun j _ h=>by simp at h)
 refine cA.value nB ?_ hA.1 (hA.2 lo)
 exact .slice _ 0 _ _ _ _ _ (bM m _ _) (Nat.le_refl _) (Nat.le_refl _) (fun _=>rfl) (.inr ⟨rfl,by simp only[hrs];omega⟩)
theorem Qb (g:Value→ByteArray→Sem (ForInStep ByteArray)) (hg:∀n s,g (.int .u8 n) s=pure (ForInStep.yield (s.push (UInt8.ofNat n.toNat)))):∀(cs rs:List Value) (bs:List UInt8) (acc:ByteArray),RL m cs rs→rQ cs=some bs→∀w,
  (forIn rs acc g).run P w = .ok ⟨(acc.data.toList++bs).toArray⟩ w:=by
 intro cs
 induction cs with
 |
  nil =>
  intro rs bs acc hr hb w
  have e0:rs=[]:=List.eq_nil_of_length_eq_zero hr.1.symm
  subst e0
  cases hb
  simp
 |
  cons c cs ih =>
  intro rs bs acc hr hb w
  cases rs with
  | nil=>exact absurd hr.1 (by simp)
  |
   cons r rs =>
   obtain⟨hc,Lo⟩:=hr.iU
   unfold rQ at hb
   split at hb
   ·rename_i heq;cases heq
   ·rename_i n rest heq
    cases heq
    cases hc
    cases h2:rQ cs with
    | none=>rw[h2] at hb;cases hb
    |
     some bs' =>
     rw[h2] at hb
     cases hb
     simp only[List.forIn_cons,hg,Sem.run_bind,Sem.run_pure,Result.andThen_ok]
     rw[ih rs bs' _ Lo h2 w]
     simp[ByteArray.push]
   ·cases hb
theorem Xz {s d e:TypeId} {rp:Value} {lo n b off c:Nat} {cs:List Value} {bs:List UInt8} (hs:P.underlying s=some (.slice e)) (hd:P.underlying d=some .string) (he:P.underlying e=some (.int .u8))
  (R3:H.read b off n=some cs) (hb:rQ cs=some bs) (hR:Rel m L0 H w) (hp:RV m (.slice (some ⟨b,off,none⟩) n c) rp) :
  cA P (do pure (.value (←convert s d rp))) L0 lo m H w (.string ⟨bs.toArray⟩) H:=by
 cases hp with
 |
  slice _ _ _ _ l ra rc hm hn hc hx ha =>
  obtain⟨rs,h1,h2,_,h3⟩:=vR hR hm R3
  have ahX:(loadCells ra n).run P w = .ok rs.toArray w:=by
   rcases ha with ha | ⟨rfl,ha⟩
   ·have h0:n=0:=by omega
    subst h0
    have e0:rs=[]:=List.eq_nil_of_length_eq_zero h2
    subst e0
    rfl
   ·rw[←h2]
    exact run_loadCells_list w _ rs h3
  refine cA.value (rv := .string ⟨bs.toArray⟩) (w':=w) (m':=m) ?_ (.str _) hR (Trans.refl lo m H w)
  simp only[convert,Sem.run_bind,run_underlying hs,run_underlying hd,Result.andThen_ok,run_underlying he,Conv.bytesToString,ahX,←Array.forIn_toList]
  rw[Qb (P:=P) (m:=m) _ (fun n s=>rfl) cs rs bs ByteArray.empty h1 hb w]
  simp
theorem K5 {t e:TypeId} {i:TypeInfo} (hu:P.underlying t=some (.slice e)) (hi:P.info? e=some i) {a:Option Addr} {n c:Nat} {lo AX mx:Option Value} {l h k:Nat}
  (hb:(Instr.sliceBounds true n c lo AX mx).run P w = .ok (l,h,k) w) :
  (Instr.sliceAt t (.slice a n c) lo AX mx).run P w = .ok (.slice (if k=l then a else a.map (·.add (l*i.size))) (h-l) (k-l)) w:=by
 have h1:(Instr.sliceAt t (.slice a n c) lo AX mx).run P w=(Instr.slice t (.slice a n c) lo AX mx).run P w:=by
  unfold Instr.sliceAt
  rw[Sem.run_bind,run_underlying hu,Result.andThen_ok]
 rw[h1]
 unfold Instr.slice
 rw[Sem.run_bind,run_underlying hu,Result.andThen_ok]
 simp[hb,run_sizeOf e i hi]
theorem Wp {t e:TypeId} {i:TypeInfo} {lo:Nat} {x rx v:Value} {l h mx l' h' mx':Option Value} {H':aD} (hu:P.underlying t=some (.slice e)) (hi:P.info? e=some i)
  (hs:AQ i.size x l h mx H=some (v,H')) (hx:RV m x rx) (hl:RO m l l') (hh:RO m h h') (hm:RO m mx mx') (hR:Rel m L0 H w) (hf:∀b,H.length≤b→b<H'.length→m b=none) :
  cA P (do pure (.value (←Instr.sliceAt t rx l' h' mx'))) L0 lo m H w v H':=by
 unfold AQ at hs
 split at hs
 ·rename_i n c
  split at hs
  ·rename_i h0
   obtain⟨rfl,rfl⟩:=h0
   cases hx
   split at hs
   ·cases hs
   ·rename_i M hM
    split at hs
    ·cases hs
    ·rename_i hb hhb
     split at hs
     ·cases hs
     ·rename_i lb C9
      cases hs
      have key:∃k1 k2 k3,(Instr.sliceBounds true 0 0 l' h' mx').run P w = .ok (k1,k2,k3) w∧k1=0∧k2=0∧k3=0:=by
       rcases mZ (P:=P) hM hm with⟨rfl,rfl,e1⟩ | ⟨_,r1,rfl,rfl,q1,e1⟩<;>rcases mZ (P:=P) hhb hh with⟨_,rfl,e2⟩ | ⟨_,r2,_,rfl,q2,e2⟩<;>rcases mZ (P:=P) C9 hl with⟨_,rfl,e3⟩ | ⟨_,r3,_,rfl,q3,e3⟩
       ·cases e1;cases e2;cases e3
        exact⟨0,0,0,rfl,rfl,rfl,rfl⟩
       ·cases e1;cases e2
        exact⟨lb,0,0,by simp[Instr.sliceBounds,e3 0 (Nat.le_refl _)],by omega,rfl,rfl⟩
       ·cases e1;cases e3
        exact⟨0,hb,0,by simp[Instr.sliceBounds,e2 0 (Nat.le_refl _)],rfl,by omega,rfl⟩
       ·cases e1
        exact⟨lb,hb,0,by simp[Instr.sliceBounds,e2 0 (Nat.le_refl _),e3 hb (Nat.le_refl _)],by omega,by omega,rfl⟩
       ·cases e2
       ·cases e2
       ·cases e3
        exact⟨0,hb,M,by simp[Instr.sliceBounds,e1 0 (Nat.le_refl _),e2 M (Nat.le_refl _)],rfl,by omega,by omega⟩
       ·exact⟨lb,hb,M,by simp[Instr.sliceBounds,e1 0 (Nat.le_refl _),e2 M (Nat.le_refl _),e3 hb (Nat.le_refl _)],by omega,by omega,by omega⟩
      obtain⟨k1,k2,k3,hk,rfl,rfl,rfl⟩:=key
      exact cA.value (K5 hu hi hk) (by simpa using RV.JO) hR (Trans.refl lo m H w)
  ·cases hs
 ·rename_i b o n c
  cases hx with
  |
   slice _ _ _ _ lc ra rc P3 U0 hcr hxp ha =>
   split at hs
   ·rename_i cells es p Rx
    obtain⟨g1,g2,g3,g4⟩:=hR.row b lc cells es p P3 Rx
    split at hs
    ·rename_i J6
     subst J6
     split at hs
     ·cases hs
     ·rename_i M hM
      split at hs
      ·cases hs
      ·rename_i hb hhb
       split at hs
       ·cases hs
       ·rename_i lb C9
        have key:∃k3,(Instr.sliceBounds true n rc l' h' mx').run P w = .ok (lb,hb,k3) w∧lb≤hb∧hb≤M∧M≤c∧((mx=none∧k3=rc∧M=c)∨(mx.isSome=true∧k3=M)):=by
         rcases mZ (P:=P) hM hm with⟨rfl,rfl,e1⟩ | ⟨_,r1,rfl,rfl,q1,e1⟩<;>rcases mZ (P:=P) hhb hh with⟨_,rfl,e2⟩ | ⟨_,r2,_,rfl,q2,e2⟩<;>rcases mZ (P:=P) C9 hl with⟨_,rfl,e3⟩ | ⟨_,r3,_,rfl,q3,e3⟩
         ·cases e1;cases e2;cases e3
          exact⟨rc,rfl,Nat.zero_le _,U0,Nat.le_refl _,.inl ⟨rfl,rfl,rfl⟩⟩
         ·cases e1;cases e2
          exact⟨rc,by simp[Instr.sliceBounds,e3 n (Nat.le_refl _)],q3,U0,Nat.le_refl _,.inl ⟨rfl,rfl,rfl⟩⟩
         ·cases e1;cases e3
          exact⟨rc,by simp[Instr.sliceBounds,e2 rc hcr],Nat.zero_le _,q2,Nat.le_refl _,.inl ⟨rfl,rfl,rfl⟩⟩
         ·cases e1
          exact⟨rc,by simp[Instr.sliceBounds,e2 rc hcr,e3 hb (Nat.le_refl _)],q3,q2,Nat.le_refl _,.inl ⟨rfl,rfl,rfl⟩⟩
         ·cases e2
         ·cases e2
         ·cases e3
          exact⟨M,by simp[Instr.sliceBounds,e1 rc hcr,e2 M (Nat.le_refl _)],Nat.zero_le _,q2,q1,.inr ⟨rfl,rfl⟩⟩
         ·exact⟨M,by simp[Instr.sliceBounds,e1 rc hcr,e2 M (Nat.le_refl _),e3 hb (Nat.le_refl _)],q3,q2,q1,.inr ⟨rfl,rfl⟩⟩
        obtain⟨k3,hk,hlh,hhM,hMc,Jz⟩:=key
        have nB:=K5 (a:=some ra) hu hi hk
        have place:k3-lb=0∨((if k3=lb then some ra else (some ra).map (·.add (lb*i.size)))=some (⟨lc.rb,lc.base+(o+lb*i.size),none⟩:Addr)∧lc.base+(o+lb*i.size)+(k3-lb)*lc.eR≤lc.MT):=by
         by_cases hz:k3-lb=0
         ·exact .inl hz
         ·right
          have hk3:k3≤rc:=by rcases Jz with⟨_,rfl,_⟩ | ⟨_,rfl⟩<;>omega
          rcases ha with ha | ⟨rfl,ha⟩
          ·omega
          ·rw[if_neg (by omega)]
           refine⟨by simp[Addr.add_lit,Nat.add_assoc],?_⟩
           rw[g1] at ha ⊢
           have e1:(k3-lb)*i.size=k3*i.size-lb*i.size:=Nat.sub_mul _ _ _
           have e2:lb*i.size≤k3*i.size:=Nat.mul_le_mul_right _ (by omega)
           have e3:k3*i.size≤rc*i.size:=Nat.mul_le_mul_right _ hk3
           omega
        obtain⟨ra',afQ⟩:∃ra',(if k3=lb then some ra else (some ra).map (·.add (lb*i.size)))=some ra':=by split<;>exact⟨_,rfl⟩
        rw[afQ] at nB
        have acA:k3-lb=0∨(ra'=⟨lc.rb,lc.base+(o+lb*i.size),none⟩∧lc.base+(o+lb*i.size)+(k3-lb)*lc.eR≤lc.MT):=by
         rcases place with hp | ⟨hp1,hp2⟩
         ·exact .inl hp
         ·rw[afQ] at hp1
          exact .inr ⟨by injection hp1,hp2⟩
        split at hs
        ·rename_i aoW
         cases hs
         obtain⟨aiJ,hMl⟩:=aoW
         rcases Jz with⟨rfl,_⟩ | ⟨_,rfl⟩
         ·cases aiJ
         ·have hA:=Te hR (hf H.length (Nat.le_refl _) (by simp)) P3 i.size
          refine cA.value (rv := .slice (some ra') 0 0) (by rw[nB];congr 2<;>omega) ?_ hA.1 (hA.2 lo)
          exact .slice _ 0 0 0 _ _ 0 (bM m _ _) (Nat.le_refl _) (Nat.le_refl _) (fun _=>rfl) (.inl rfl)
        ·cases hs
         refine cA.value nB ?_ hR (Trans.refl lo m H w)
         refine .slice b _ _ _ lc _ _ P3 (by omega) ?_ ?_ acA
         ·rcases Jz with⟨_,rfl,rfl⟩ | ⟨_,rfl⟩<;>omega
         ·intro ho
          have:=hxp ho
          rcases Jz with⟨_,rfl,rfl⟩ | ⟨_,rfl⟩<;>omega
    ·cases hs
   ·cases hs
 ·cases hs
end
end Go.PM
namespace Go.PM
section
variable {P:Program} {m:cS} {L0:Nat} {H:aD} {w:World}
theorem Qa {t:TypeId} {i:TypeInfo} {lo b o:Nat} {v r rp:Value} {H':aD} (hi:P.info? t=some i) (hp:RV m (.pointer (some ⟨b,o,none⟩)) rp) (hv:RV m v r) (hs:(aL v).length=i.size)
  (hw:H.write lo b o (aL v)=some H') (hR:Rel m L0 H w) (gF:L0≤lo) :
  cA P (do Instr.storeAt t rp r;pure .skip) L0 lo m H w undef H':=by
 cases hp with
 |
  ptr _ _ l hm =>
  obtain⟨w',s1,s2,s3⟩:=Cq P hR gF hm hw hv.aL
  refine⟨undef,w',m,.inr ⟨?_,rfl⟩,RV.undef m,s2,s3⟩
  have Bc:r.cells.size=i.size:=by rw[dV,←hv.aL.1,hs]
  have h1:(Instr.storeAt t (.pointer (some ⟨l.rb,l.base+o,none⟩)) r).run P w = .ok () w':=by
   show (storeVar t ⟨l.rb,l.base+o,none⟩ r).run P w=_
   unfold storeVar
   simp only[Sem.run_bind,run_sizeOf t i hi,Result.andThen_ok,Bc,ne_eq,not_true_eq_false,if_false,fB]
   exact s1
  rw[Sem.run_bind,h1]
  rfl
theorem FZ {pv rv:Value} {k:Nat} (h:qD pv=some k) (hr:RV m pv rv):Builtin.lenOf rv=pure k:=by
 unfold qD at h
 split at h
 ·cases h;cases hr<;>rfl
 ·cases h;cases hr;rfl
 ·cases h
theorem AB (a b:Array Value) (xs:List Value) (h:a.toList=xs) (i:Nat) (hi:i<xs.length):(a++b).getD i undef=xs.getD i undef:=by
 subst h
 have:i<a.size:=by simpa using hi
 simp[Array.getD_eq_getD_getElem?,Array.getElem?_append_left this,List.getD_eq_getElem?_getD]
theorem U8 {t u ty:TypeId} {agg:Bool} {size bytes lo k:Nat} {z:List Value} {d:TypeDesc} {x y rx ry v:Value} {new:List Value} {H':aD} (ht:iR P t=some (agg,size,z,bytes)) (hu:P.underlying u=some d) (hd:JD d=true)
  (hk:qD y=some k) (xY:iG H size k y=some new) (sX:dK lo size bytes x k new H=some (v,H')) (hx:RV m x rx) (hy:RV m y ry) (R4:size=z.length)
  (hR:Rel m L0 H w) (gF:L0≤lo) (hf:∀b,H.length≤b→b<H'.length→m b=none) :
  cA P (do pure (.value (←Builtin.append_ #[t,u] ty #[rx,ry]))) L0 lo m H w v H':=by
 obtain⟨e,GR,L9⟩:=iJ ht
 obtain⟨i,de,zz,hi,_,EZ,rfl,rfl,rfl,rfl⟩:=gY L9
 obtain⟨nT,h1,h2,h3⟩:=Gh xY hk (Nat.le_refl _) hR hy
 have hl:=FZ hk hy
 have Cw:1≤i.bytes:=by
  unfold dK at sX
  split at sX
  ·rename_i h;exact h.1
  ·cases sX
 have hnl:new.length=k*i.size:=by
  unfold dK at sX
  split at sX
  ·rename_i h;exact h.2.2.2
  ·cases sX
 obtain⟨rv,w',m',g1,g2,g3,g4⟩:=Gx (P:=P) (s:=Builtin.append_ #[t,u] ty #[rx,ry]) (e:=e) sX hR gF hx h1 hf
  (fun a n c w' Hz AF FM=>by
   subst Hz
   exact Mz GR hu hd hi hl (h3 w rfl) AF FM)
  (fun Hz hk0=>by
   subst Hz
   subst hk0
   exact Of GR hu hd hi hl (h3 w rfl))
  (fun base n c AU Hz XV iF hg hb=>by
   subst Hz
   refine⟨grownCap w (n+k) c e,_,grownCap_ge w _ _ _,M4 GR hu hd hi EZ hl XV (h3 w.drew rfl) hg Cw hb,?_,?_⟩
   ·have Cv:=grownCap_ge w (n+k) c e
    have Ha:nT.length=k*i.size:=by rw[←h1.1,hnl]
    simp only[Array.size_append,List.size_toArray,size_zeroCells,iF,Ha]
    rw[←dV] at R4
    rw[←R4,←Nat.add_mul,←Nat.add_mul]
    congr 1
    omega
   ·intro j hj
    exact AB _ _ _ (by simp) j hj)
 exact cA.value g1 g2 g3 g4
section
variable {t u ty e:TypeId} {ku:IntKind} {i:TypeInfo} {zz:Value} {k:Nat}
theorem Ev {k:Nat} (h:k≤140737488355328):IntKind.i64.wrap (k:Int)=(k:Int):=by rw[IntKind.wrap_i64];omega
theorem JV (ht:P.underlying t=some (.slice e)) (hu:P.underlying u=some (.int ku)) (hi:P.info? e=some i) (EZ:i.zero=some zz) (hk:k≤140737488355328) (JY:k*i.bytes≤140737488355328)
  {a:Addr} {n c:Nat} {w':World} (AF:n+k≤c) (hz:k*i.size=0→Builtin.zeroCells zz.cells k = #[]) (FM:(storeCells (a.add (n*i.size)) (Builtin.zeroCells zz.cells k).toList).run P w = .ok () w') :
  (Builtin.append_ #[t,u] ty #[.slice (some a) n c,.int .i64 k]).run P w = .ok (.slice (some a) (n+k) c) w':=by
 have h0:¬((k:Int)<0):=by omega
 have hb:¬(281474976710656<(k:Int)*(i.bytes:Int)):=by rw[←Int.natCast_mul];omega
 by_cases CD:k*i.size=0
 ·rw[hz CD] at FM
  simp[Builtin.append_,run_underlying ht,run_underlying hu,run_sizeOf e i hi,asInt,asIntOf,Ev hk,typeInfo,hi,h0,hb,AF,CD,FM]
 ·simp[Builtin.append_,run_underlying ht,run_underlying hu,run_sizeOf e i hi,asInt,asIntOf,Ev hk,typeInfo,hi,h0,hb,AF,CD,zeroValue,EZ,FM]
theorem Mk (ht:P.underlying t=some (.slice e)) (hu:P.underlying u=some (.int ku)) (hi:P.info? e=some i) :
  (Builtin.append_ #[t,u] ty #[.slice none 0 0,.int .i64 (0:Nat)]).run P w = .ok (.slice none 0 0) w:=by
 have hw:IntKind.i64.wrap 0=0:=rfl
 simp[Builtin.append_,run_underlying ht,run_underlying hu,run_sizeOf e i hi,asInt,asIntOf,hw,typeInfo,hi]
theorem J4 (ht:P.underlying t=some (.slice e)) (hu:P.underlying u=some (.int ku)) (hi:P.info? e=some i) (EZ:i.zero=some zz) (hk:k≤140737488355328) (JY:k*i.bytes≤140737488355328)
  {base:Option Addr} {n c:Nat} {AU:List Value} (XV:(Builtin.firstCells i.size n (.slice base n c)).run P w.drew = .ok AU.toArray w.drew) (hz:k*i.size=0→Builtin.zeroCells zz.cells k = #[])
  (hg:c<n+k) (Cw:1≤i.bytes) (IY:(n+k)*i.bytes≤140737488355328) :
  (Builtin.append_ #[t,u] ty #[.slice base n c,.int .i64 k]).run P w = .ok (.slice (some ⟨w.heap.size,0,none⟩) (n+k) (grownCap w (n+k) c e))
   (w.drew.alloc (.cells (AU.toArray++Builtin.zeroCells zz.cells k++Builtin.zeroCells zz.cells (grownCap w (n+k) c e-(n+k))) e)):=by
 have uL:=growslice_fits (bytes:=i.bytes) hg IY
 have h0:¬((k:Int)<0):=by omega
 have hb:¬(281474976710656<(k:Int)*(i.bytes:Int)):=by rw[←Int.natCast_mul];omega
 have h1:¬(n+k≤c):=by omega
 have h2:¬(281474976710656<Builtin.nextslicecap (n+k) c*i.bytes):=by omega
 have h4:n+k≤140737488355328:=Nat.le_trans (Nat.le_mul_of_pos_right _ Cw) IY
 have h3:¬(9223372036854775807<(n:Int)+(k:Int)):=by omega
 by_cases CD:k*i.size=0
 ·have e0:=hz CD
  simp[Builtin.append_,run_underlying ht,run_underlying hu,run_sizeOf e i hi,asInt,asIntOf,Ev hk,typeInfo,hi,h0,hb,h1,h2,h3,e0,zeroValue,EZ,Question.forced,XV,newRow,grownCap]
 ·simp[Builtin.append_,run_underlying ht,run_underlying hu,run_sizeOf e i hi,asInt,asIntOf,Ev hk,typeInfo,hi,h0,hb,h1,h2,h3,CD,zeroValue,EZ,Question.forced,XV,newRow,grownCap]
end
theorem T0 {t u ty:TypeId} {agg:Bool} {size bytes lo:Nat} {z:List Value} {ku:IntKind} {n:Int} {x rx v:Value} {H':aD} (ht:iR P t=some (agg,size,z,bytes)) (hu:P.underlying u=some (.int ku))
  (hn:0≤n∧n*bytes≤140737488355328) (sX:dK lo z.length bytes x n.toNat (cI n.toNat z) H=some (v,H')) (hx:RV m x rx) (R4:size=z.length) (Fg:z.all fR=true) (PQ:z.all jM=true) (CD:1≤z.length)
  (hR:Rel m L0 H w) (gF:L0≤lo) (hf:∀b,H.length≤b→b<H'.length→m b=none) :
  cA P (do pure (.value (←Builtin.append_ #[t,u] ty #[rx,.int .i64 n]))) L0 lo m H w v H':=by
 obtain⟨e,GR,L9⟩:=iJ ht
 obtain⟨i,de,zz,hi,_,EZ,rfl,rfl,rfl,rfl⟩:=gY L9
 obtain⟨k,rfl⟩:=Int.eq_ofNat_of_zero_le hn.1
 simp only[Int.toNat_natCast] at sX
 have Cw:1≤i.bytes:=by
  unfold dK at sX
  split at sX
  ·rename_i h;exact h.1
  ·cases sX
 have JY:k*i.bytes≤140737488355328:=by have:=hn.2;omega
 have hk:k≤140737488355328:=Nat.le_trans (Nat.le_mul_of_pos_right _ Cw) JY
 have Bc:i.size=zz.cells.size:=by rw[R4,dV]
 have T3:1≤zz.cells.size:=by rw[dV];exact CD
 have qZ:(Builtin.zeroCells zz.cells k).toList=cI k (aL zz):=by rw[DO _ _ T3,fB]
 have aiV:k*i.size=0→Builtin.zeroCells zz.cells k = #[]:=by
  intro h0
  apply Array.ext'
  rw[qZ]
  exact List.eq_nil_of_length_eq_zero (by rw[sA,←R4];exact h0)
 obtain⟨rv,w',m',g1,g2,g3,g4⟩:=Gx (P:=P) (s:=Builtin.append_ #[t,u] ty #[rx,.int .i64 k]) (e:=e) (nT:=cI k (aL zz)) sX hR gF hx (tM k PQ CD) hf
  (fun a n c w' Hz AF FM=>by
   subst Hz
   exact JV GR hu hi EZ hk JY AF aiV (by rw[qZ,R4];exact FM))
  (fun Hz hk0=>by
   subst Hz
   subst hk0
   exact Mk GR hu hi)
  (fun base n c AU Hz XV iF hg hb=>by
   subst Hz
   refine⟨grownCap w (n+k) c e,_,grownCap_ge w _ _ _,J4 GR hu hi EZ hk JY (by rw[R4];exact XV) aiV hg Cw hb,?_,?_⟩
   ·have Cv:=grownCap_ge w (n+k) c e
    simp only[Array.size_append,List.size_toArray,size_zeroCells,iF,dV]
    rw[←Nat.add_mul,←Nat.add_mul]
    congr 1
    omega
   ·intro j hj
    exact AB _ _ _ (by simp[qZ]) j hj)
 exact cA.value g1 g2 g3 g4
theorem TP {t ty:TypeId} {ts:List TypeId} {agg:Bool} {size bytes lo b o d c k:Nat} {z new:List Value} {y rx ry:Value} {H':aD} (ht:iR P t=some (agg,size,z,bytes))
  (hk:qD y=some k) (xY:iG H size (Nat.min k d) y=some new) (hw:H.write lo b o new=some H') (hx:RV m (.slice (some ⟨b,o,none⟩) d c) rx) (hy:RV m y ry)
  (hR:Rel m L0 H w) (gF:L0≤lo) :
  cA P (do pure (.value (←Builtin.copy_ (t::ts).toArray ty #[rx,ry]))) L0 lo m H w (.int .i64 (Nat.min k d)) H':=by
 obtain⟨e,GR,L9⟩:=iJ ht
 obtain⟨i,de,zz,hi,_,EZ,rfl,rfl,rfl,rfl⟩:=gY L9
 obtain⟨nT,h1,h2,h3⟩:=Gh (P:=P) xY hk (Nat.min_le_left _ _) hR hy
 have hl:=FZ hk hy
 cases hx with
 |
  slice _ _ _ _ l ra rc hm hn hc hxp ha =>
  rcases ha with ha | ⟨rfl,ha⟩
  ·have BD:d=0:=by omega
   subst BD
   have YX:Nat.min k 0=0:=Nat.min_zero k
   rw[YX] at xY h3 ⊢
   have qZ:new=[]:=by
    have:nT.length=new.length:=h1.1.symm
    unfold iG at xY
    split at xY
    ·obtain⟨_,_,_,_,_,_,hlen⟩:=KW xY
     exact List.eq_nil_of_length_eq_zero (by simpa using hlen)
    ·split at xY
     ·cases xY;rfl
     ·cases xY
    ·split at xY
     ·cases xY;simp
     ·cases xY
    ·cases xY
   subst qZ
   have hrn:nT=[]:=List.eq_nil_of_length_eq_zero h1.1.symm
   subst hrn
   have hHH:H'=H:=by
    obtain⟨cs,e',p',q1,q2,q3,q4,rfl⟩:=Ao hw
    apply List.ext_getElem?
    intro j
    by_cases hj:b=j
    ·subst hj
     rw[List.getElem?_set_self (List.getElem?_eq_some_iff.1 q1).1,q1]
     simp[gX]
    ·rw[List.getElem?_set_ne hj]
   rw[hHH]
   refine cA.value (rv := .int .i64 0) (w':=w) ?_ (.int _ _) hR (Trans.refl lo m _ w)
   have hf0:=h3 w rfl
   simp[Builtin.copy_,run_underlying GR,hl,run_sizeOf e i hi,goInt,hf0,storeCells]
  ·obtain⟨w',s1,s2,s3⟩:=Cq P hR gF hm hw h1
   refine cA.value (rv := .int .i64 (Nat.min k d)) ?_ (.int _ _) s2 s3
   have hf0:=h3 w rfl
   unfold Builtin.copy_
   simp only[List.getElem?_toArray,List.getElem?_cons_zero,List.getElem?_cons_succ,Sem.run_bind,run_underlying GR,Result.andThen_ok,hl,Sem.run_pure,run_sizeOf e i hi]
   rw[hf0]
   simp only[Result.andThen_ok,s1,goInt]
theorem Q5 {t ty e:TypeId} {ts:List TypeId} {i:TypeInfo} {zz:Value} {lo b o n c:Nat} {rx:Value} {H':aD} (GR:P.underlying t=some (.slice e)) (hi:P.info? e=some i) (EZ:i.zero=some zz)
  (UT:n≠0) (hw:H.write lo b o (cI n (aL zz))=some H') (hx:RV m (.slice (some ⟨b,o,none⟩) n c) rx) (PQ:(aL zz).all jM=true) (CD:1≤(aL zz).length) (hR:Rel m L0 H w) (gF:L0≤lo) :
  cA P (do pure (.value (←Builtin.clear_ (t::ts).toArray ty #[rx]))) L0 lo m H w undef H':=by
 cases hx with
 |
  slice _ _ _ _ l ra rc hm hn hc hxp ha =>
  rcases ha with ha | ⟨rfl,ha⟩
  ·omega
  ·obtain⟨w',s1,s2,s3⟩:=Cq P hR gF hm hw (tM n PQ CD)
   have qZ:(Builtin.zeroCells zz.cells n).toList=cI n (aL zz):=by rw[DO _ _ (by rw[dV];exact CD),fB]
   refine cA.value (rv:=undef) ?_ (RV.undef m) s2 s3
   rw[←qZ] at s1
   obtain⟨n',rfl⟩:∃n',n=n'+1:=⟨n-1,by omega⟩
   simp[Builtin.clear_,run_underlying GR,zeroValue,typeInfo,hi,EZ,s1,undef]
theorem G8 {t ty e:TypeId} {ts:List TypeId} {lo c:Nat} {a:Option Addr} {rx:Value} (GR:P.underlying t=some (.slice e)) (hx:RV m (.slice a 0 c) rx) (hR:Rel m L0 H w) :
  cA P (do pure (.value (←Builtin.clear_ (t::ts).toArray ty #[rx]))) L0 lo m H w undef H:=by
 refine cA.value (rv:=undef) (w':=w) ?_ (RV.undef m) hR (Trans.refl lo m _ w)
 cases hx<;>simp[Builtin.clear_,run_underlying GR,undef]
end
end Go.PM
namespace Go.PM
section
variable {P:Program} {m:cS} {L0:Nat} {H:aD} {w:World}
theorem A6 {po:lT} {ρ:Env} {v:Value} {H':aD} (h:(gS po ρ).map (Out.val · H)=some (.val v H')):gS po ρ=some v∧H'=H:=by
 cases hp:gS po ρ with
 | none=>rw[hp] at h;cases h
 | some u=>rw[hp] at h;cases h;exact⟨rfl,rfl⟩
def rX:lT→Bool
 | .load .. | .sub .. | .b2s _ | .new _ | .box _ | .make .. | .lit .. | .call .. | .store .. | .app .. | .appz .. | .copy .. | .clear .. | .callv .. => false
 | _=>true
theorem wD {lo:Nat} {po:lT} {ρ:Env} (h:rX po=true):pop lo po ρ H=(gS po ρ).map (.val · H):=by
 cases po<;>first | rfl | cases h
theorem Pt {pv rv:Value} {k:Nat} (size:Nat) (h:qD pv=some k) (hr:RV m pv rv):(Builtin.firstCells size 0 rv).run P w = .ok #[] w:=by
 unfold qD at h
 split at h
 ·cases hr
  ·rfl
  ·simp only[Builtin.firstCells,Nat.zero_mul]
   rfl
 ·cases hr
  simp[Builtin.firstCells]
 ·cases h
theorem SL {o:Oper} {po:lT} {ρ:Env} {a:Act} {lo:Nat} {v:Value} {H':aD} (hp:nZ P o.op=some po) (hv:pop lo po ρ H=some (.val v H')) (hr:∀x∈o.op.operands,RV m (ev ρ x) (a.eval x))
  (hR:Rel m L0 H w) (gF:L0≤lo) (hf:∀b,H.length≤b→b<H'.length→m b=none):cA P (execOp a.eval o) L0 lo m H w v H':=by
 by_cases iC:rX po=true
 ·rw[wD iC] at hv
  obtain⟨h1,rfl⟩:=A6 hv
  obtain⟨rv,h2,h3⟩:=Wm hp h1 hr
  exact⟨rv,w,m,.inl (h3 w),h2,hR,Trans.refl lo m _ w⟩
 obtain⟨dst,op,type,pos,after,guard⟩:=o
 unfold nZ at hp
 simp only at hp hr ⊢
 split at hp
 case isFalse=>cases hp
 cases op with
 | move x=>cases hp;exact absurd rfl iC
 | assign x=>cases hp;exact absurd rfl iC
 | pick c x y=>cases hp;exact absurd rfl iC
 |
  binOp op t x y yt =>
  unfold zU at hp
  simp only at hp
  split at hp
  ·cases hp;exact absurd rfl iC
  ·cases hp;exact absurd rfl iC
  ·split at hp<;>first | (cases hp;done) | (cases hp;exact absurd rfl iC)
  ·split at hp<;>first | (cases hp;done) | (split at hp<;>first | (cases hp;done) | (cases hp;exact absurd rfl iC))
  ·split at hp<;>first | (cases hp;done) | (cases hp;exact absurd rfl iC)
  ·cases hp
 | unOp op t x=>cases hp;exact absurd rfl iC
 | extract x i=>cases hp;exact absurd rfl iC
 |
  convert s d x =>
  have hx:=hr x (by simp[Op.operands])
  simp only at hp
  split at hp
  ·cases hp;exact absurd rfl iC
  ·cases hp;exact absurd rfl iC
  ·rename_i e hs hd
   split at hp
   ·rename_i he
    cases hp
    simp only[pop] at hv
    split at hv
    ·rename_i n c Tp
     cases hv
     rw[Tp] at hx
     show cA P (do pure (.value (←convert s d (a.eval x)))) L0 lo m H w _ H
     generalize a.eval x=rx at hx ⊢
     cases hx
     refine cA.value (rv := .string ByteArray.empty) ?_ (.str _) hR (Trans.refl lo m _ w)
     simp[convert,run_underlying hs,run_underlying hd,run_underlying he,Conv.bytesToString]
    ·rename_i b o n c Tp
     split at hv
     ·rename_i cs Lo
      cases hb:rQ cs with
      | none=>rw[hb] at hv;cases hv
      |
       some bs =>
       rw[hb] at hv
       cases hv
       rw[Tp] at hx
       exact Xz hs hd he Lo hb hR hx
     ·cases hv
    ·cases hv
   ·cases hp
  ·cases hp
 |
  field t x i =>
  simp only at hp
  split at hp
  ·split at hp
   ·rename_i f hf'
    cases ht:kK P f.type with
    | none=>rw[ht] at hp;cases hp
    | some q=>rw[ht] at hp;cases hp;exact absurd rfl iC
   ·cases hp
  ·cases hp
 |
  build t parts =>
  simp only at hp
  split at hp
  ·split at hp
   ·split at hp
    ·cases hp;exact absurd rfl iC
    ·cases hp
   ·cases hp
  ·cases hp
 | nilCheck x=>cases hp;exact absurd rfl iC
 |
  fieldAddr t x i =>
  simp only at hp
  split at hp
  ·split at hp
   ·split at hp
    ·split at hp
     ·cases hp
     ·cases hp;exact absurd rfl iC
    ·cases hp
   ·cases hp
  ·cases hp
 |
  indexAddr t x i =>
  simp only at hp
  cases ht:iR P t with
  | none=>rw[ht] at hp;cases hp
  | some q=>rw[ht] at hp;cases hp;exact absurd rfl iC
 |
  index t x i =>
  simp only at hp
  split at hp
  ·cases hp;exact absurd rfl iC
  ·cases hp
 |
  slice t x zX hi mx =>
  have hx:=hr x (by simp[Op.operands])
  simp only at hp
  split at hp
  ·split at hp
   ·cases hp;exact absurd rfl iC
   ·cases hp
  ·rename_i e hu
   cases ht:kK P e with
   | none=>rw[ht] at hp;cases hp
   |
    some q =>
    obtain⟨agg,size,z,nb⟩:=q
    rw[ht] at hp
    cases hp
    obtain⟨i,d,zz,AX,_,_,rfl,rfl,rfl,rfl⟩:=gY ht
    simp only[pop] at hv
    cases hs:AQ i.size (ev ρ x) (zX.map (ev ρ)) (hi.map (ev ρ)) (mx.map (ev ρ)) H with
    | none=>rw[hs] at hv;cases hv
    |
     some q =>
     obtain⟨u,H1⟩:=q
     rw[hs] at hv
     cases hv
     exact Wp hu AX hs hx (RO.map fun y hy=>hr y (by simp[Op.operands,hy])) (RO.map fun y hy=>hr y (by simp[Op.operands,hy])) (RO.map fun y hy=>hr y (by simp[Op.operands,hy])) hR hf
  ·cases hp
 |
  makeFunc fn first fA =>
  cases fn with
  |
   func f =>
   simp only at hp
   split at hp
   ·cases hp;exact absurd rfl iC
   ·cases hp
  | _=>cases hp
 | makeInterface t x=>cases hp;exact absurd rfl iC
 | panic x=>cases hp;exact absurd rfl iC
 |
  load t p =>
  have hx:=hr p (by simp[Op.operands])
  simp only at hp
  cases ht:kK P t with
  | none=>rw[ht] at hp;cases hp
  |
   some q =>
   obtain⟨agg,size,z,nb⟩:=q
   rw[ht] at hp
   cases hp
   simp only[pop] at hv
   cases hl:mC agg size (ev ρ p) H with
   | none=>rw[hl] at hv;cases hv
   |
    some u =>
    rw[hl] at hv
    cases hv
    obtain⟨rv,h1,h2⟩:=KD ht hl hR hx
    exact cA.value h2 h1 hR (Trans.refl lo m _ w)
 |
  store t p x =>
  have hpp:=hr p (by simp[Op.operands])
  have hx:=hr x (by simp[Op.operands])
  simp only at hp
  cases ht:P.info? t with
  | none=>rw[ht] at hp;cases hp
  |
   some i =>
   rw[ht] at hp
   cases hp
   simp only[pop] at hv
   split at hv
   ·rename_i b o hpo
    split at hv
    ·rename_i hs
     cases hw:H.write lo b o (aL (ev ρ x)) with
     | none=>rw[hw] at hv;cases hv
     |
      some H1 =>
      rw[hw] at hv
      cases hv
      rw[hpo] at hpp
      exact Qa ht hpp hx hs hw hR gF
    ·cases hv
   ·cases hv
 |
  alloc t =>
  simp only at hp
  split at hp
  ·rename_i agg size z nb ht
   split at hp
   ·rename_i hz
    cases hp
    simp only[Bool.and_eq_true] at hz
    cases hv
    exact WW ht hz.1 hz.2 hR (hf _ (Nat.le_refl _) (by simp))
   ·cases hp
  ·cases hp
 |
  box t x =>
  have hx:=hr x (by simp[Op.operands])
  cases hp
  simp only[pop] at hv
  split at hv
  ·rename_i hs
   cases hv
   exact WN hx hs hR (hf _ (Nat.le_refl _) (by simp))
  ·cases hv
 |
  makeSlice t l c =>
  have hl:=hr l (by simp[Op.operands])
  have hc:=hr c (by simp[Op.operands])
  simp only at hp
  split at hp
  ·rename_i agg size z nb ht
   split at hp
   ·rename_i hz
    cases hp
    simp only[Bool.and_eq_true,beq_iff_eq,decide_eq_true_eq] at hz
    obtain⟨⟨⟨z1,z2⟩,z3⟩,z4⟩:=hz
    simp only[pop] at hv
    split at hv
    ·rename_i l' c' A5 hc'
     split at hv
     ·rename_i hb
      cases hv
      rw[A5] at hl
      rw[hc'] at hc
      show cA P (do pure (.value (←Instr.makeSlice t (a.eval l) (a.eval c)))) L0 lo m H w _ _
      generalize a.eval l=rl at hl ⊢
      generalize a.eval c=rc at hc ⊢
      cases hl
      cases hc
      exact S6 ht z1 z2 z3 z4 hb.1 hb.2.1 hb.2.2.1 hb.2.2.2 hR (hf _ (Nat.le_refl _) (by simp))
     ·cases hv
    ·cases hv
   ·cases hp
  ·cases hp
 |
  buildSlice t n parts =>
  simp only at hp
  split at hp
  ·rename_i agg size z nb ht
   split at hp
   ·rename_i hz
    cases hp
    simp only[Bool.and_eq_true,beq_iff_eq,decide_eq_true_eq] at hz
    obtain⟨⟨⟨⟨z1,z2⟩,z3⟩,z4⟩,z5⟩:=hz
    simp only[pop] at hv
    split at hv
    ·rename_i cs Lo
     split at hv
     ·rename_i AY
      cases hv
      have:=Xh (P:=P) (w:=w) (lo:=lo) (a:=a) ht z1 z2 z3 z4 z5 Lo AY (fun p hpm=>hr p.2 (by simp only[Op.operands];simp;exact⟨p.1,by simpa using hpm⟩)) hR (hf _ (Nat.le_refl _) (by simp))
      rw[Array.toArray_toList] at this
      exact this
     ·cases hv
    ·cases hv
   ·cases hp
  ·cases hp
 |
  call c =>
  obtain⟨callee,args,ts⟩:=c
  cases callee with
  |
   builtin b =>
   have PN:∀x∈args,RV m (ev ρ x) (a.eval x):=fun x hx=>hr x (by simpa[Op.operands,Call.operands] using hx)
   simp only at hp
   unfold mR at hp
   split at hp
   ·split at hp<;>first | (cases hp;done) | (cases hp;exact absurd rfl iC)
   ·split at hp<;>first | (cases hp;done) | (cases hp;exact absurd rfl iC)
   ·cases hp;exact absurd rfl iC
   ·cases hp;exact absurd rfl iC
   ·rename_i x y t u Bl uU Yy _
    have ea:args = #[x,y]:=Array.toList_inj.1 (by simpa using uU)
    subst ea
    have hx:=PN x (by simp)
    have hy:=PN y (by simp)
    have akU:∃tr,ts=(t::u::tr).toArray:=⟨Bl,Array.toList_inj.1 (by simpa using Yy)⟩
    obtain⟨tr,rfl⟩:=akU
    show cA P (do pure (.value (←Builtin.append_ (t::u::tr).toArray type ((#[x,y]:Array Operand).map a.eval)))) L0 lo m H w v H'
    rw[HM]
    have alZ:∀r1 r2,Builtin.append_ (t::u::tr).toArray type #[r1,r2]=Builtin.append_ #[t,u] type #[r1,r2]:=fun r1 r2=>by simp[Builtin.append_]
    rw[alZ]
    split at hp
    ·rename_i agg size zero bytes ku ht hu
     split at hp
     ·rename_i hz
      cases hp
      simp only[Bool.and_eq_true,beq_iff_eq,decide_eq_true_eq] at hz
      obtain⟨⟨⟨z1,z2⟩,z3⟩,z4⟩:=hz
      simp only[pop] at hv
      split at hv
      ·rename_i n hn
       split at hv
       ·rename_i hb
        cases sX:dK lo zero.length bytes (ev ρ x) n.toNat (cI n.toNat zero) H with
        | none=>rw[sX] at hv;cases hv
        |
         some q =>
         obtain⟨u',H1⟩:=q
         rw[sX] at hv
         cases hv
         rw[hn] at hy
         generalize a.eval y=ry at hy ⊢
         cases hy
         exact T0 ht hu hb sX hx z4 z1 z2 z3 hR gF hf
       ·cases hv
      ·cases hv
     ·cases hp
    ·rename_i agg size zero bytes d _ ht hu
     split at hp
     ·rename_i hd
      split at hp
      ·rename_i R4
       cases hp
       simp only[pop] at hv
       split at hv
       ·rename_i k hk
        split at hv
        ·rename_i new qZ
         cases sX:dK lo size bytes (ev ρ x) k new H with
         | none=>rw[sX] at hv;cases hv
         |
          some q =>
          obtain⟨u',H1⟩:=q
          rw[sX] at hv
          cases hv
          exact U8 ht hu hd hk qZ sX hx hy (by simpa using R4) hR gF hf
        ·cases hv
       ·cases hv
      ·cases hp
     ·cases hp
    ·cases hp
   ·rename_i x y t Bl uU Yy _
    have ea:args = #[x,y]:=Array.toList_inj.1 (by simpa using uU)
    have et:ts=(t::Bl).toArray:=Array.toList_inj.1 (by simpa using Yy)
    subst ea;subst et
    have hx:=PN x (by simp)
    have hy:=PN y (by simp)
    show cA P (do pure (.value (←Builtin.copy_ (t::Bl).toArray type ((#[x,y]:Array Operand).map a.eval)))) L0 lo m H w v H'
    rw[HM]
    split at hp
    ·rename_i agg size zero bytes ht
     cases hp
     simp only[pop] at hv
     split at hv
     ·rename_i n c k Tp hk
      cases hv
      rw[Tp] at hx
      generalize a.eval x=rx at hx ⊢
      cases hx
      obtain⟨e,GR,L9⟩:=iJ ht
      obtain⟨i,de,zz,hi,_,EZ,_,_,_,_⟩:=gY L9
      refine cA.value (rv := .int .i64 0) (w':=w) ?_ (.int _ _) hR (Trans.refl lo m _ w)
      have hl:=FZ hk hy
      have hf0:=Pt (P:=P) (w:=w) i.size hk hy
      simp[Builtin.copy_,run_underlying GR,hl,run_sizeOf e i hi,goInt,hf0]
     ·rename_i b o d c k Tp hk
      split at hv
      ·rename_i new qZ
       cases hw:H.write lo b o new with
       | none=>rw[hw] at hv;cases hv
       |
        some H1 =>
        rw[hw] at hv
        cases hv
        rw[Tp] at hx
        exact TP ht hk qZ hw hx hy hR gF
      ·cases hv
     ·cases hv
    ·cases hp
   ·rename_i x t Bl uU Yy _
    have ea:args = #[x]:=Array.toList_inj.1 (by simpa using uU)
    have et:ts=(t::Bl).toArray:=Array.toList_inj.1 (by simpa using Yy)
    subst ea;subst et
    have hx:=PN x (by simp)
    show cA P (do pure (.value (←Builtin.clear_ (t::Bl).toArray type ((#[x]:Array Operand).map a.eval)))) L0 lo m H w v H'
    rw[Mg]
    split at hp
    ·rename_i agg size zero bytes ht
     split at hp
     ·rename_i hz
      cases hp
      simp only[Bool.and_eq_true,beq_iff_eq,decide_eq_true_eq] at hz
      obtain⟨⟨⟨z1,z2⟩,z3⟩,z4⟩:=hz
      obtain⟨e,GR,L9⟩:=iJ ht
      obtain⟨i,de,zz,hi,_,EZ,rfl,rfl,rfl,rfl⟩:=gY L9
      simp only[pop] at hv
      split at hv
      ·rename_i n c Tp
       cases hv
       rw[Tp] at hx
       generalize a.eval x=rx at hx ⊢
       cases hx
       exact G8 GR .JO hR
      ·rename_i b o n c Tp
       rw[Tp] at hx
       split at hv
       ·rename_i UT
        cases hv
        subst UT
        exact G8 GR hx hR
       ·rename_i UT
        cases hw:H.write lo b o (cI n (aL zz)) with
        | none=>rw[hw] at hv;cases hv
        |
         some H1 =>
         rw[hw] at hv
         cases hv
         exact Q5 GR hi EZ UT hw hx z2 z4 hR gF
      ·cases hv
     ·cases hp
    ·cases hp
   ·cases hp
  |
   value f =>
   cases f with
   | func g=>cases hp;cases hv
   |
    tmp t =>
    cases hp
    simp only[pop] at hv
    split at hv<;>cases hv
   | const c=>cases hp
   | global g=>cases hp
  | invoke r s=>cases hp
 | _=>cases hp
def IH (P:Program) (f:Nat):Prop:=∃fn,P.funcs[f]? = some fn∧(fn.name == "runtime.NumGoroutine")=false∧fn.body.isNone=false
theorem Ek {f:Nat} {args:Array Value} (h:IH P f):(callFunc f args).run P w = .ok (.enter f args) w:=by
 obtain⟨fn,h1,h2,h3⟩:=h
 unfold callFunc
 rw[Sem.run_bind,run_program,Result.andThen_ok,h1]
 simp[h2,h3]
theorem map_none {α β:Type} {o:Option α} {f:α→β} {x:β} (h:o.map f=some x) (hf:∀y,f y≠x):False:=by
 cases o with
 | none=>cases h
 | some y=>injection h with h;exact hf y h
theorem Ts {op:Op} {g:Nat} {as:List Operand} (h:nZ P op=some (.call g as)):∃args ts,op = .call ⟨.value (.func g),args,ts⟩∧as=args.toList:=by
 unfold nZ at h
 split at h
 case isFalse=>cases h
 cases op with
 |
  call c =>
  obtain⟨callee,args,ts⟩:=c
  cases callee with
  |
   builtin b =>
   exfalso
   simp only[mR] at h
   repeat' (split at h)
   all_goals cases h
  |
   value f =>
   cases f with
   | func g'=>cases h;exact⟨args,ts,rfl,rfl⟩
   | _=>cases h
  | invoke r s=>cases h
 |
  _ =>
  exfalso
  dsimp only at h
  try unfold zU at h
  repeat' (split at h)
  all_goals first
   | contradiction
   | (cases h;done)
   | exact map_none h (by intro y h;cases h)
theorem Q9 {op:Op} {fv:Operand} {as:List Operand} (h:nZ P op=some (.callv fv as)):∃args ts,op = .call ⟨.value fv,args,ts⟩∧as=args.toList:=by
 unfold nZ at h
 split at h
 case isFalse=>cases h
 cases op with
 |
  call c =>
  obtain⟨callee,args,ts⟩:=c
  cases callee with
  |
   builtin b =>
   exfalso
   simp only[mR] at h
   repeat' (split at h)
   all_goals cases h
  |
   value f =>
   cases f with
   | tmp g'=>cases h;exact⟨args,ts,rfl,rfl⟩
   | _=>cases h
  | invoke r s=>cases h
 |
  _ =>
  exfalso
  dsimp only at h
  try unfold zU at h
  repeat' (split at h)
  all_goals first
   | contradiction
   | (cases h;done)
   | exact map_none h (by intro y h;cases h)
theorem qN {po:lT} {ρ:Env} {lo f:Nat} {args:List Value} (hv:pop lo po ρ H=some (.call f args)):(∃g as,po = .call g as)∨(∃g as,po = .callv g as):=by
 by_cases iC:rX po=true
 ·rw[wD iC] at hv
  cases hpp:gS po ρ with
  | none=>rw[hpp] at hv;cases hv
  | some u=>rw[hpp] at hv;cases hv
 cases po<;>first | exact absurd rfl iC | exact .inl ⟨_,_,rfl⟩ | exact .inr ⟨_,_,rfl⟩ | skip
 all_goals
  exfalso
  simp only[pop] at hv
  repeat' (split at hv)
  all_goals first
   | (cases hv;done)
   | (revert hv;generalize aD.write _ _ _ _ _=q;cases q<;>intro hv<;>cases hv)
   | (revert hv;generalize mC _ _ _ _=q;cases q<;>intro hv<;>cases hv)
   | (revert hv;generalize AQ _ _ _ _ _ _=q;cases q<;>intro hv<;>cases hv)
   | (revert hv;generalize dK _ _ _ _ _ _ _=q;cases q<;>intro hv<;>cases hv)
   | (revert hv;generalize rQ _=q;cases q<;>intro hv<;>cases hv)
theorem Ta {o:Oper} {po:lT} {ρ:Env} {a:Act} {lo f:Nat} {args:List Value} (hp:nZ P o.op=some po) (hv:pop lo po ρ H=some (.call f args)) (hr:∀x∈o.op.operands,RV m (ev ρ x) (a.eval x)) :
  ∃fT,RL m args fT∧(IH P f→∀w,(execOp a.eval o).run P w = .ok (.enter f fT.toArray) w):=by
 have key:=qN hv
 obtain⟨dst,op,type,pos,after,guard⟩:=o
 simp only at hp hr ⊢
 rcases key with⟨g,as,rfl⟩ | ⟨g,as,rfl⟩
 ·obtain⟨AO,ts,rfl,rfl⟩:=Ts hp
  cases hv
  refine⟨AO.toList.map a.eval,RL.map fun x hx=>hr x (by simp[Op.operands,Call.operands];right;simpa using hx),fun hc w => ?_⟩
  have e1:(AO.toList.map a.eval).toArray=AO.map a.eval:=Array.toList_inj.1 (by rw[Array.toList_map])
  rw[e1]
  have e2:execOp a.eval ⟨dst,.call ⟨.value (.func f),AO,ts⟩,type,pos,after,guard⟩=callFunc f ((#[]++AO.map a.eval) ++ #[]):=rfl
  rw[e2,Ek hc]
  simp
 ·obtain⟨AO,ts,rfl,rfl⟩:=Q9 hp
  have hg:=hr g (by simp[Op.operands,Call.operands])
  simp only[pop] at hv
  split at hv
  ·rename_i f' first fA hfv
   cases hv
   rw[hfv] at hg
   generalize hrg:a.eval g=rg at hg
   cases hg with
   |
    func fn f1 g1 c1 d1 h1 h2 h3 h4 =>
    refine⟨g1.toList++AO.toList.map a.eval++d1.toList,((RL.arr h1 h2).append (RL.map fun x hx=>hr x (by simp[Op.operands,Call.operands];right;simpa using hx))).append (RL.arr h3 h4),fun hc w => ?_⟩
    have e1:(g1.toList++AO.toList.map a.eval++d1.toList).toArray=(g1++AO.map a.eval)++d1:=by
     apply Array.ext'
     simp
    rw[e1]
    have e2:(execOp a.eval ⟨dst,.call ⟨.value g,AO,ts⟩,type,pos,after,guard⟩)=(do let d ←Deferred.ofValue (a.eval g) (AO.map a.eval);invoke d.target d.args):=rfl
    rw[e2,hrg]
    show (callFunc f ((g1++AO.map a.eval)++d1)).run P w=_
    exact Ek hc
  ·cases hv
end
end Go.PM
namespace Go.PM
section
variable {H:aD}
theorem Uv {lo:Nat} {H':aD} (h:Ext H.length H H'):Ext lo H H' :=
 ⟨h.len,fun b _ hl=>h.low b hl hl,h.liv⟩
theorem Gp {lo size bytes add:Nat} {x v:Value} {new:List Value} {H':aD} (h:dK lo size bytes x add new H=some (v,H')):Ext lo H H':=by
 unfold dK at h
 split at h
 case isFalse=>cases h
 split at h
 ·split at h
  ·split at h
   ·cases h;exact Ext.refl _ _
   ·split at h
    ·cases h;exact nK _ _ _
    ·cases h
  ·cases h
 ·split at h
  ·split at h
   ·split at h
    ·split at h
     ·cases h;exact Ext.refl _ _
     ·cases hw:aD.write H lo _ _ new with
      | none=>rw[hw] at h;cases h
      | some H1=>rw[hw] at h;cases h;exact B3 hw
    ·split at h
     ·split at h
      ·split at h
       ·rename_i C9
        cases h
        exact TJ C9
       ·cases h
      ·cases h;exact nK _ _ _
     ·cases h
   ·cases h
  ·cases h
 ·cases h
theorem Vw {lo size:Nat} {x v:Value} {l h' mx:Option Value} {H':aD} (h:AQ size x l h' mx H=some (v,H')):Ext lo H H':=by
 unfold AQ at h
 repeat' (split at h)
 all_goals first
  | (cases h;done)
  | (cases h;exact Ext.refl _ _)
  | (cases h;exact nK _ _ _)
theorem RI {lo:Nat} {po:lT} {ρ:Env} {v:Value} {H':aD} (h:pop lo po ρ H=some (.val v H')):Ext lo H H':=by
 by_cases iC:rX po=true
 ·rw[wD iC] at h
  obtain⟨_,rfl⟩:=A6 h
  exact Ext.refl _ _
 cases po<;>first | exact absurd rfl iC | skip
 case load agg size p =>
  simp only[pop] at h
  cases hl:mC agg size (ev ρ p) H with
  | none=>rw[hl] at h;cases h
  | some u=>rw[hl] at h;cases h;exact Ext.refl _ _
 case sub size x l hh mx =>
  simp only[pop] at h
  cases hs:AQ size (ev ρ x) (l.map (ev ρ)) (hh.map (ev ρ)) (mx.map (ev ρ)) H with
  | none=>rw[hs] at h;cases h
  |
   some q =>
   obtain⟨u,H1⟩:=q
   rw[hs] at h;cases h;exact Vw hs
 case b2s x =>
  simp only[pop] at h
  split at h
  ·cases h;exact Ext.refl _ _
  ·split at h
   ·rename_i cs _
    cases hb:rQ cs with
    | none=>rw[hb] at h;cases h
    | some bs=>rw[hb] at h;cases h;exact Ext.refl _ _
   ·cases h
  ·cases h
 case new z=>cases h;exact nK _ _ _
 case box x =>
  simp only[pop] at h
  split at h
  ·cases h;exact nK _ _ _
  ·cases h
 case make z b l c =>
  simp only[pop] at h
  split at h
  ·split at h
   ·cases h;exact nK _ _ _
   ·cases h
  ·cases h
 case lit z n parts =>
  simp only[pop] at h
  split at h
  ·split at h
   ·cases h;exact nK _ _ _
   ·cases h
  ·cases h
 case call f args=>cases h
 case callv f args =>
  simp only[pop] at h
  split at h<;>cases h
 case store size p x =>
  simp only[pop] at h
  split at h
  ·rename_i b o _
   split at h
   ·cases hw:H.write lo b o (aL (ev ρ x)) with
    | none=>rw[hw] at h;cases h
    | some H1=>rw[hw] at h;cases h;exact B3 hw
   ·cases h
  ·cases h
 case app size bytes x y =>
  simp only[pop] at h
  split at h
  ·rename_i n _
   split at h
   ·rename_i new _
    cases ha:dK lo size bytes (ev ρ x) n new H with
    | none=>rw[ha] at h;cases h
    |
     some q =>
     obtain⟨u,H1⟩:=q
     rw[ha] at h;cases h;exact Gp ha
   ·cases h
  ·cases h
 case appz z bytes x n =>
  simp only[pop] at h
  split at h
  ·rename_i k _
   split at h
   ·cases ha:dK lo z.length bytes (ev ρ x) k.toNat (cI k.toNat z) H with
    | none=>rw[ha] at h;cases h
    |
     some q =>
     obtain⟨u,H1⟩:=q
     rw[ha] at h;cases h;exact Gp ha
   ·cases h
  ·cases h
 case copy size x y =>
  simp only[pop] at h
  split at h
  ·cases h;exact Ext.refl _ _
  ·rename_i b o d _ s _ _
   split at h
   ·rename_i new _
    cases hw:H.write lo b o new with
    | none=>rw[hw] at h;cases h
    | some H1=>rw[hw] at h;cases h;exact B3 hw
   ·cases h
  ·cases h
 case clear z x =>
  simp only[pop] at h
  split at h
  ·cases h;exact Ext.refl _ _
  ·rename_i b o n _ _
   split at h
   ·cases h;exact Ext.refl _ _
   ·cases hw:H.write lo b o (cI n z) with
    | none=>rw[hw] at h;cases h
    | some H1=>rw[hw] at h;cases h;exact B3 hw
  ·cases h
def pF (call:fL):Prop:=∀f args lo H v H',call f args lo H=some (v,H')→Ext lo H H'
theorem Ip {call:fL} (hc:pF call) {lo:Nat} {i:PI} {ρ:Env} {v:Value} {H':aD} (h:wQ call lo i ρ H=some (v,H')):Ext lo H H':=by
 unfold wQ at h
 split at h
 ·cases h
 ·cases h;exact Ext.refl _ _
 ·split at h
  ·split at h
   ·rename_i hp
    cases h
    exact RI hp
   ·rename_i f args _
    have:=hc _ _ _ _ _ _ h
    split at this
    ·exact Uv this
    ·exact this
   ·cases h
  ·cases h
theorem vD {call:fL} {lo:Nat} {i:PI} {ρ aW:Env} {H':aD} (h:uR call lo i ρ H=some (aW,H')):∃v,wQ call lo i ρ H=some (v,H')∧aW=put ρ i.dst v:=by
 unfold uR at h
 split at h
 ·rename_i v H1 hv
  cases h
  exact⟨v,hv,rfl⟩
 ·cases h
theorem F1 {call:fL} (hc:pF call) {lo:Nat} {i:PI} {ρ aW:Env} {H':aD} (h:uR call lo i ρ H=some (aW,H')):Ext lo H H':=by
 obtain⟨v,h1,_⟩:=vD h
 exact Ip hc h1
theorem IT {call:fL} (hc:pF call) {lo:Nat}:∀(is:List PI) {ρ aW:Env} {H H':aD},fX call lo is ρ H=some (aW,H')→Ext lo H H'
 | [],ρ,aW,H,H',h=>by cases h;exact Ext.refl _ _
 |
  i::is,ρ,aW,H,H',h=>by
  rw[fX] at h
  split at h
  ·rename_i h1
   exact(F1 hc h1).trans (IT hc is h)
  ·cases h
theorem Fc {lo:Nat} {body:Env→aD→Option (Ex×Env×aD)} (hb:∀ρ H x aW H',body ρ H=some (x,aW,H')→Ext lo H H'):∀(n:Nat) {ρ aW:Env} {H H':aD} {x:Ex},vM body n ρ H=some (x,aW,H')→Ext lo H H'
 | 0,_,_,_,_,_,h=>by cases h
 |
  n+1,ρ,aW,H,H',x,h=>by
  rw[vM] at h
  split at h
  ·rename_i h1
   exact(hb _ _ _ _ _ h1).trans (Fc hb n h)
  ·exact hb _ _ _ _ _ h
theorem iN {call:fL} (hc:pF call) {lo n:Nat}:∀(c:aE) {ρ aW:Env} {H H':aD} {x:Ex},cT call lo n c ρ H=some (x,aW,H')→Ext lo H H'
 | .skip,_,_,_,_,_,h=>by cases h;exact Ext.refl _ _
 |
  .dX ops,ρ,aW,H,H',x,h=>by
  rw[cT] at h
  cases hp:fX call lo ops ρ H with
  | none=>rw[hp] at h;cases h
  |
   some q =>
   obtain⟨uG,H1⟩:=q
   rw[hp] at h;cases h
   exact IT hc ops hp
 |
  .seq a b,ρ,aW,H,H',x,h=>by
  rw[cT] at h
  split at h
  ·rename_i h1
   exact(iN hc a h1).trans (iN hc b h)
  ·exact iN hc a h
 |
  .cond c a b,ρ,aW,H,H',x,h=>by
  rw[cT] at h
  split at h
  ·split at h
   ·exact iN hc a h
   ·exact iN hc b h
  ·cases h
 |
  .block id a,ρ,aW,H,H',x,h=>by
  rw[cT] at h
  split at h
  ·rename_i h1
   split at h<;>(cases h;exact iN hc a h1)
  ·exact iN hc a h
 |
  .loop a,ρ,aW,H,H',x,h=>by
  rw[cT] at h
  exact Fc (fun ρ H x aW H' h=>iN hc a h) n h
 | .exit id,_,_,_,_,_,h=>by cases h;exact Ext.refl _ _
 | .ret,_,_,_,_,_,h=>by cases h;exact Ext.refl _ _
theorem Cg (E:yQ) (T:XY):∀n,pF (kO E T n)
 | 0=>fun _ _ _ _ _ _ h=>by cases h
 |
  n+1=>fun f args lo H v H' h=>by
  rw[kO] at h
  split at h
  ·rename_i p _
   cases hp:p args H with
   | none=>rw[hp] at h;cases h
   | some u=>rw[hp] at h;cases h;exact Ext.refl _ _
  ·split at h
   ·cases h
   ·rename_i pf _
    split at h
    ·split at h
     ·rename_i uG H1 h1
      cases hr:oM pf.res uG H1 with
      | none=>rw[hr] at h;cases h
      | some u=>rw[hr] at h;cases h;exact iN (Cg E T n) _ h1
     ·rename_i uG H1 h1
      cases hr:oM pf.res uG H1 with
      | none=>rw[hr] at h;cases h
      | some u=>rw[hr] at h;cases h;exact iN (Cg E T n) _ h1
     ·cases h
    ·cases h
end
end Go.PM
namespace Go.PM
theorem B1 {α β:Type} {f:α→Option β}:∀ {l:List α} {ys:List β},l.mapM f=some ys→ys.length=l.length∧∀i (h:i<l.length),f l[i]=ys[i]?
 |
  [],ys,h=>by
  simp at h
  subst h
  exact⟨rfl,fun i h=>absurd h (by simp)⟩
 |
  x::l,ys,h=>by
  simp only[List.mapM_cons,Option.pure_def,Option.bind_eq_bind] at h
  cases h1:f x with
  | none=>rw[h1] at h;cases h
  |
   some y =>
   rw[h1] at h
   cases h2:l.mapM f with
   | none=>rw[h2] at h;cases h
   |
    some zs =>
    rw[h2] at h
    cases h
    obtain⟨k1,k2⟩:=B1 h2
    refine⟨by simp[k1],fun i hi => ?_⟩
    cases i with
    | zero=>simpa using h1
    | succ i=>simpa using k2 i (by simpa using hi)
theorem NA {α β:Type} {f:α→Option β} {l:List α} {ys:List β} (h:l.mapM f=some ys) {i:Nat} {x:α} (hx:l[i]? = some x):∃y,ys[i]? = some y∧f x=some y:=by
 obtain⟨h1,h2⟩:=B1 h
 obtain⟨aX,rfl⟩:=List.getElem?_eq_some_iff.1 hx
 have Jb:i<ys.length:=by omega
 refine⟨ys[i],List.getElem?_eq_getElem Jb,?_⟩
 rw[h2 i aX,List.getElem?_eq_getElem Jb]
def CB (E:yQ) (ops:List Oper) (M:List Nat) (i j:Nat) (pi pj:lT) (l:List (Operand×Operand)):Prop :=
 match eY E pi,eY E pj with
 | .look,.write | .write,.look=>ahead M i j=true∨∃a b,CI pi=some a∧CI pj=some b∧B8 ops i j a=true∧(a,b)∈l
 | .write,.write | .quiet,.write | .write,.quiet=>ahead M i j=true
 | _,_=>True
theorem CB.mono {E:yQ} {ops:List Oper} {M:List Nat} {i j:Nat} {pi pj:lT} {l l':List (Operand×Operand)} (h:CB E ops M i j pi pj l) (hl:∀x∈l,x∈l'):CB E ops M i j pi pj l':=by
 unfold CB at h ⊢
 split at h
 all_goals first
  | exact h
  | exact h.imp id fun⟨a,b,h1,h2,h3,h4⟩=>⟨a,b,h1,h2,h3,hl _ h4⟩
theorem Js {E:yQ} {ops:List Oper} {ps:List lT} {M:List Nat} {j:Nat} {pj:lT} {l:List (Operand×Operand)} (h:conflicts E ops ps M j pj=some l) :
  ∀i,i<j→∀pi,ps[i]? = some pi→CB E ops M i j pi pj l:=by
 have key:∀(is:List Nat) (l:List (Operand×Operand)),(is.foldr (fun i acc=>match acc,ps[i]? with
  |
   some l,some pi =>
   match eY E pi,eY E pj with
   |
    .look,.write | .write,.look =>
    if ahead M i j then some l
    else match CI pi,CI pj with
     | some a,some b=>if B8 ops i j a then some ((a,b)::l) else none
     | _,_=>none
   | .write,.write | .quiet,.write | .write,.quiet=>if ahead M i j then some l else none
   | _,_=>some l
  | _,_=>none) (some []))=some l→∀i∈is,∀pi,ps[i]? = some pi→CB E ops M i j pi pj l:=by
  intro is
  induction is with
  | nil=>intro l _ i hi;cases hi
  |
   cons i0 is ih =>
   intro l h i hi pi To
   rw[List.foldr_cons] at h
   revert h
   generalize aoE:is.foldr _ (some [])=acc
   intro h
   cases acc with
   | none=>cases h
   |
    some l0 =>
    have ih':=ih l0 aoE
    cases hp0:ps[i0]? with
    | none=>rw[hp0] at h;cases h
    |
     some p0 =>
     rw[hp0] at h
     simp only at h
     have step:(∀x∈l0,x∈l)∧CB E ops M i0 j p0 pj l:=by
      unfold CB
      split at h
      ·rename_i c1 c2
       try rw[c1,c2]
       split at h
       ·rename_i ha;cases h;exact⟨fun x hx=>hx,.inl ha⟩
       ·split at h
        ·rename_i a b ta tb
         split at h
         ·rename_i hu;cases h;exact⟨fun x hx=>List.mem_cons_of_mem _ hx,.inr ⟨a,b,ta,tb,hu,List.mem_cons_self⟩⟩
         ·cases h
        ·cases h
      ·rename_i c1 c2
       try rw[c1,c2]
       split at h
       ·rename_i ha;cases h;exact⟨fun x hx=>hx,.inl ha⟩
       ·split at h
        ·rename_i a b ta tb
         split at h
         ·rename_i hu;cases h;exact⟨fun x hx=>List.mem_cons_of_mem _ hx,.inr ⟨a,b,ta,tb,hu,List.mem_cons_self⟩⟩
         ·cases h
        ·cases h
      ·rename_i c1 c2
       try rw[c1,c2]
       split at h
       ·rename_i ha;cases h;exact⟨fun x hx=>hx,ha⟩
       ·cases h
      ·rename_i c1 c2
       try rw[c1,c2]
       split at h
       ·rename_i ha;cases h;exact⟨fun x hx=>hx,ha⟩
       ·cases h
      ·rename_i c1 c2
       try rw[c1,c2]
       split at h
       ·rename_i ha;cases h;exact⟨fun x hx=>hx,ha⟩
       ·cases h
      ·cases h
       refine⟨fun x hx=>hx,?_⟩
       first | trivial | (split<;>first | trivial | (simp_all;done)) | (simp_all;done)
     rcases List.mem_cons.1 hi with rfl | hi
     ·rw[hp0] at To
      cases To
      exact step.2
     ·exact(ih' i hi pi To).mono step.1
 exact fun i hi pi To=>key _ l h i (List.mem_range.2 hi) pi To
structure Wl (P:Program) (E:yQ) (n:Nat) (ops:List Oper) (i:Nat) (o:Oper) (p:lT) (pi:PI):Prop where
 Uu:nZ P o.op=some p
 dst:pi.dst=o.dst
 op:pi.op=p
 guard:guardOf ops i o=some pi.g
 bound:∀d,o.dst=some d→d<n
structure MD (E:yQ) (ops:List Oper) (ps:List lT) (M:List Nat) (i:Nat) (o:Oper) (p:lT) (pi:PI):Prop where
 back:∀e∈o.after.toList,Region.binds .any e=true→e.on<i
 guard:∀j w,o.guard=some (j,w)→(M.getD i 0).testBit j=true
 Ly:∀t∈o.dst.toList++tN ops o,∀k ok,ops[k]? = some ok→ok.dst=some t→k=i∨ahead M i k=true
 mask:M.getD i 0=uJ o M
 quiet:pi.quiet=(match eY E p with | .quiet=>true | _=>false)
 agE:∀k,k<i→∀pk,ps[k]? = some pk→CB E ops M k i pk p pi.cf
theorem Nf {P:Program} {E:yQ} {n:Nat} {ops:List Oper} {ps:List lT} {M:List Nat} {draw:Bool} {i:Nat} {pi:PI} (h:Qh E ops ps M n draw i=some pi) {o:Oper} {p:lT} (ho:ops[i]? = some o) (hp:ps[i]? = some p)
  (R0:nZ P o.op=some p):Wl P E n ops i o p pi∧(draw=true→MD E ops ps M i o p pi)∧(draw=false→pi.quiet=false∧pi.cf=[]):=by
 unfold Qh at h
 rw[ho,hp] at h
 simp only at h
 split at h
 case isFalse=>cases h
 rename_i hb
 have hbound:∀d,o.dst=some d→d<n:=by
  intro d hd
  rw[hd] at hb
  simpa[ZM] using hb
 split at h
 ·cases h
 ·rename_i g hg
  cases draw with
  |
   false =>
   simp only[Bool.false_eq_true,if_false] at h
   cases h
   exact⟨⟨R0,rfl,rfl,hg,hbound⟩,(fun h=>by cases h),fun _=>⟨rfl,rfl⟩⟩
  |
   true =>
   simp only[if_true] at h
   split at h
   case isFalse=>cases h
   rename_i hc
   simp only[Bool.and_eq_true,beq_iff_eq] at hc
   obtain⟨⟨⟨c1,c2⟩,c3⟩,c4⟩:=hc
   cases M6:conflicts E ops ps M i p with
   | none=>rw[M6] at h;cases h
   |
    some cf =>
    rw[M6] at h
    cases h
    refine⟨⟨R0,rfl,rfl,hg,hbound⟩,fun _=>⟨fun e he X8 => ?_,fun j w hj => ?_,fun t ht k ok hk hkd => ?_,c4,rfl,Js M6⟩,(fun h=>by cases h)⟩
    ·have:=List.all_eq_true.1 c1 e he
     simpa[X8] using this
    ·rw[hj] at c2
     exact c2
    ·have h1:=List.all_eq_true.1 c3 t ht
     have ZI:k<ops.length:=(List.getElem?_eq_some_iff.1 hk).1
     have h2:=List.all_eq_true.1 h1 k (List.mem_range.2 ZI)
     rw[hk] at h2
     simp only[Bool.or_eq_true,bne_iff_ne,ne_eq,beq_iff_eq] at h2
     rcases h2 with(h2 | h2) | h2
     ·exact absurd hkd h2
     ·exact .inl h2
     ·exact .inr h2
structure ZR (P:Program) (E:yQ) (n:Nat) (ops:List Oper) (draw:Bool) (qW:List PI) (ps:List lT) (M:List Nat):Prop where
 EV:ps.length=ops.length
 alH:qW.length=ops.length
 each:∀i o,ops[i]? = some o→∃p pi,ps[i]? = some p∧qW[i]? = some pi∧Wl P E n ops i o p pi∧(draw=true→MD E ops ps M i o p pi)∧(draw=false→pi.quiet=false∧pi.cf=[])
theorem Hu {P:Program} {E:yQ} {n:Nat} {ops:Array Oper} {draw:Bool} {qW:List PI} (h:wE P E n ops draw=some qW):∃ps M,ZR P E n ops.toList draw qW ps M:=by
 unfold wE at h
 split at h
 ·rename_i ps hps
  simp only at h
  generalize (if draw=true then MO ops.toList [] else [])=M at h
  obtain⟨h1,h2⟩:=B1 hps
  obtain⟨h3,h4⟩:=B1 h
  refine⟨ps,M,h1,by simpa using h3,fun i o ho => ?_⟩
  have aX:=(List.getElem?_eq_some_iff.1 ho).1
  obtain⟨p,hp,R0⟩:=NA hps ho
  have hr:(List.range ops.size)[i]? = some i:=by rw[List.getElem?_range];simpa using aX
  obtain⟨pi,To,hpp⟩:=NA h hr
  exact⟨p,pi,hp,To,Nf hpp ho hp R0⟩
 ·cases h
theorem J5 {o:Oper} {M:List Nat} {i:Nat} (h:(uJ o M).testBit i=true):∃e∈o.after.toList,Region.binds .any e=true∧(e.on=i∨(M.getD e.on 0).testBit i=true):=by
 unfold uJ at h
 revert h
 generalize o.after.toList=es
 induction es with
 | nil=>intro h;simp at h
 |
  cons e es ih =>
  intro h
  rw[List.foldr_cons] at h
  split at h
  ·rename_i hb
   rw[Nat.testBit_or,Nat.testBit_or,Bool.or_eq_true,Bool.or_eq_true] at h
   rcases h with(h | h) | h
   ·obtain⟨e',h1,h2⟩:=ih h
    exact⟨e',List.mem_cons_of_mem _ h1,h2⟩
   ·refine⟨e,List.mem_cons_self,hb,.inl ?_⟩
    rw[Nat.testBit_two_pow] at h
    simpa using h
   ·exact⟨e,List.mem_cons_self,hb,.inr h⟩
  ·obtain⟨e',h1,h2⟩:=ih h
   exact⟨e',List.mem_cons_of_mem _ h1,h2⟩
theorem Qs {ops:List Oper} {M:List Nat} {S:Nat→Prop} (hb:∀i o,ops[i]? = some o→∀e∈o.after.toList,Region.binds .any e=true→e.on<i) (hm:∀i o,ops[i]? = some o→M.getD i 0=uJ o M)
  (hS:∀i o,ops[i]? = some o→S i→∀e∈o.after.toList,Region.binds .any e=true→S e.on):∀j o,ops[j]? = some o→(∀e∈o.after.toList,Region.binds .any e=true→S e.on)→∀i,(M.getD j 0).testBit i=true→S i:=by
 intro j
 induction j using Nat.strongRecOn with
 |
  _ j ih =>
  intro o ho hj i hi
  rw[hm j o ho] at hi
  obtain⟨e,he,X8,h1⟩:=J5 hi
  rcases h1 with rfl | h1
  ·exact hj e he X8
  ·have aX:=hb j o ho e he X8
   have hjl:=(List.getElem?_eq_some_iff.1 ho).1
   have hel:e.on<ops.length:=by omega
   exact ih e.on aX ops[e.on] (List.getElem?_eq_getElem hel) (hS e.on _ (List.getElem?_eq_getElem hel) (hj e he X8)) i h1
end Go.PM
namespace Go.PM
def uB (P:Program) (L0:Nat) (call:fL):Prop :=
 ∀f args lo H v H',call f args lo H=some (v,H')→∀m w fT,Rel m L0 H w→L0≤lo→L0≤H.length→RL m args fT→(∀b,H.length≤b→b<H'.length→m b=none) →
  IH P f∧Calls P f fT.toArray w fun e w'=>∃m' rv,e = .returned rv∧RV m' v rv∧Rel m' L0 H' w'∧Trans lo m H w m' H' w'
section
variable {P:Program} {m:cS} {L0:Nat} {H:aD} {w:World}
theorem rH {call:fL} {lo:Nat} {i:PI} {ρ:Env} {v:Value} {H':aD} (h:wQ call lo i ρ H=some (v,H')) :
  (xC i.g ρ=some false∧v=undef∧H'=H) ∨
  (xC i.g ρ=some true∧i.cf.all (yS ρ)=true∧(pop lo i.op ρ H=some (.val v H') ∨
   ∃f args,pop lo i.op ρ H=some (.call f args)∧call f args (if i.quiet then H.length else lo) H=some (v,H'))):=by
 unfold wQ at h
 split at h
 ·cases h
 ·rename_i hw;cases h;exact .inl ⟨hw,rfl,rfl⟩
 ·rename_i hw
  split at h
  ·rename_i M6
   refine .inr ⟨hw,M6,?_⟩
   split at h
   ·rename_i hp;cases h;exact .inl hp
   ·rename_i f args hp;exact .inr ⟨f,args,hp,h⟩
   ·cases h
  ·cases h
theorem Tf {t:Array Value} {d:Nat} {b:Bool} (h:t.getD d undef = .bool b):t[d]? = some (.bool b):=by
 rcases Nat.lt_or_ge d t.size with hd | hd
 ·simp[hd] at h ⊢
  exact h
 ·simp[Array.getElem?_eq_none hd,undef] at h
theorem De {ops:Array Oper} {i:Nat} {o:Oper} {g:Option (Nat×Bool)} {ρ:Env} {a:Act} {t:Bool} (hg:guardOf ops.toList i o=some g) (hw:xC g ρ=some t)
  (hr:∀d∈tN ops.toList o,RV m (ρ d) (a.tmps.getD d undef)):Region.wanted o (yielded ops a.tmps)=t:=by
 unfold guardOf at hg
 unfold Region.wanted
 cases Z0:o.guard with
 |
  none =>
  rw[Z0] at hg
  cases hg
  cases hw
  rfl
 |
  some jw =>
  obtain⟨j,want⟩:=jw
  rw[Z0] at hg
  simp only at hg
  split at hg
  ·split at hg
   ·rename_i d hd
    cases hg
    have Im:d∈tN ops.toList o:=by
     unfold tN
     rw[Z0]
     simp only[List.mem_append]
     right
     rw[hd]
     simp
    have R3:=hr d Im
    simp only[xC] at hw
    split at hw
    ·rename_i b hb
     cases hw
     rw[hb] at R3
     generalize hx:a.tmps.getD d undef=x at R3
     cases R3
     have hy:yielded ops a.tmps j=some b:=by
      unfold yielded
      have Wq:(ops[j]?).bind (·.dst)=some d:=by simpa using hd
      rw[Wq,Option.bind_some,Tf hx]
     simp only[hy]
     cases b<;>cases want<;>rfl
    ·rename_i vs hb
     cases hw
     rw[hb] at R3
     generalize hx:a.tmps.getD d undef=x at R3
     obtain⟨ws,rfl⟩:∃ws,x = .tuple ws:=by cases R3;exact⟨_,rfl⟩
     have Wq:(ops[j]?).bind (·.dst)=some d:=by simpa using hd
     have hy:yielded ops a.tmps j=none:=by
      unfold yielded
      rw[Wq,Option.bind_some]
      rcases Nat.lt_or_ge d a.tmps.size with aX | aX
      ·have:a.tmps[d]? = some (.tuple ws):=by rw[←hx];simp[aX]
       rw[this]
      ·rw[Array.getElem?_eq_none aX]
     simp only[hy]
     rfl
    ·cases hw
   ·cases hg
  ·cases hg
theorem WA {E:yQ} {p:lT} {lo zX:Nat} {ρ:Env} (h:eY E p = .quiet):pop lo p ρ H=pop zX p ρ H:=by
 cases p<;>first | rfl | (simp[eY] at h;done)
theorem C7 {ops:List Oper} {o:Oper} {t:Nat} (h:Operand.tmp t∈o.op.operands):t∈tN ops o:=by
 unfold tN tmpsOf
 rw[List.mem_append]
 left
 rw[List.mem_filterMap]
 exact⟨.tmp t,by simpa using h,rfl⟩
theorem Iy {op:Op} {p:lT} (h:nZ P op=some p):∀x∈op.operands,MB x=true:=by
 intro x hx
 unfold nZ at h
 split at h
 ·rename_i kA
  obtain⟨i,hi,rfl⟩:=Array.getElem_of_mem hx
  exact Array.all_eq_true.1 kA i hi
 ·cases h
theorem MI {E:yQ} {n lo k:Nat} {ops:Array Oper} {o:Oper} {p:lT} {pi:PI} {call:fL} {ρ:Env} {v:Value} {H':aD} {a:Act} {K:Act→World→Prop} {Q:Exit→Act→World→Prop} (ho:ops[k]? = some o) (Ci:Wl P E n ops.toList k o p pi)
  (hq:pi.quiet=true→eY E p = .quiet) (hv:wQ call lo pi ρ H=some (v,H')) (hr:∀t∈tN ops.toList o,RV m (ρ t) (a.tmps.getD t undef)) (hR:Rel m L0 H w) (gF:L0≤lo) (hlen:L0≤H.length)
  (hf:∀b,H.length≤b→b<H'.length→m b=none) (lX:uB P L0 call)
  (hK:∀m' rv w',RV m' v rv→Rel m' L0 H' w'→Trans (if pi.quiet then H.length else lo) m H w m' H' w'→K (a.put o.dst rv) w'):wpOp P ops Q k K a w:=by
 have hro:∀x∈o.op.operands,RV m (ev ρ x) (a.eval x):=fun x hx=>Qg (Iy Ci.Uu x hx) fun t ht=>hr t (C7 (ht▸hx))
 unfold wpOp
 rw[ho]
 simp only
 rcases rH hv with⟨hw,rfl,rfl⟩ | ⟨hw,_,hp | ⟨f,args,hp,hc⟩⟩
 ·rw[De Ci.guard hw hr]
  simp only[Bool.false_eq_true,if_false]
  exact hK m undef w (RV.undef m) hR (Trans.refl _ m _ w)
 ·rw[De Ci.guard hw hr]
  simp only[if_true]
  left
  rw[Ci.op] at hp
  have hs:cA P (execOp a.eval o) L0 (if pi.quiet then H.length else lo) m H w v H':=by
   split
   ·rename_i hqq
    rw[WA (zX:=H.length) (hq hqq)] at hp
    exact SL Ci.Uu hp hro hR hlen hf
   ·exact SL Ci.Uu hp hro hR gF hf
  obtain⟨rv,w',m',nB,h1,h2,h3⟩:=hs
  unfold Oper.wp
  rcases nB with nB | ⟨nB,rfl⟩
  ·rw[nB]
   exact hK m' rv w' h1 h2 h3
  ·rw[nB]
   exact hK m' undef w' h1 h2 h3
 ·rw[De Ci.guard hw hr]
  simp only[if_true]
  left
  rw[Ci.op] at hp
  have aiU:L0≤(if pi.quiet then H.length else lo):=by split<;>assumption
  obtain⟨fT,PN,afR⟩:=Ta Ci.Uu hp hro
  have nB:=afR (lX f args _ H v H' hc m w fT hR aiU hlen PN hf).1
  unfold Oper.wp
  rw[nB w]
  show Calls P f fT.toArray w _
  refine(lX f args _ H v H' hc m w fT hR aiU hlen PN hf).2.mono ?_
  rintro e w' ⟨m',rv,rfl,h1,h2,h3⟩
  exact hK m' rv w' h1 h2 h3
end
end Go.PM
namespace Go.PM
theorem EE {call:fL} {lo:Nat}:∀ {qW:List PI} {ρ aW:Env} {H H':aD},fX call lo qW ρ H=some (aW,H') →
  ∃st:Nat→Env×aD,st 0=(ρ,H)∧st qW.length=(aW,H')∧∀i pi,qW[i]? = some pi→uR call lo pi (st i).1 (st i).2=some (st (i+1))
 |
  [],ρ,aW,H,H',h=>by
  cases h
  exact⟨fun _=>(ρ,H),rfl,rfl,fun i pi hi=>by simp at hi⟩
 |
  x::qW,ρ,aW,H,H',h=>by
  rw[fX] at h
  split at h
  ·rename_i uG H1 h1
   obtain⟨st,h2,h3,h4⟩:=EE h
   refine⟨fun i=>match i with | 0=>(ρ,H) | i+1=>st i,rfl,h3,fun i pi hi => ?_⟩
   cases i with
   |
    zero =>
    simp at hi
    subst hi
    show uR call lo x ρ H=some (st 0)
    rw[h1,h2]
   | succ i=>exact h4 i pi (by simpa using hi)
  ·cases h
theorem gZ {H1 H2:aD} {b:Nat} (h:H2[b]? = H1[b]?):Live H2 b↔Live H1 b:=by
 unfold Live
 rw[h]
theorem Rel.restrict {m:cS} {L0:Nat} {H1 H2:aD} {w:World} (h:Rel m L0 H2 w) (hs:∀b,b<H1.length→H2[b]? = H1[b]?):Rel m L0 H1 w:=by
 refine⟨h.valid,fun b l cs e p hm hb=>h.row b l cs e p hm ?_,fun b1 b2 l1 l2 hb h1 h2 DJ Gy=>h.inj b1 b2 l1 l2 hb h1 h2 ((gZ (hs b1 DJ.lt)).2 DJ) ((gZ (hs b2 Gy.lt)).2 Gy),fun x hx=>⟨(h.BK x hx).1,fun b l hb hm hl=>(h.BK x hx).2 b l hb hm ((gZ (hs b hl.lt)).2 hl)⟩⟩
 rw[hs b (List.getElem?_eq_some_iff.1 hb).1]
 exact hb
theorem Rel.grow {m:cS} {L0:Nat} {H1 H2:aD} {w:World} (h:Rel m L0 H1 w) (hs:∀b,b<H1.length→H2[b]? = H1[b]?) (hd:∀b,H1.length≤b→b<H2.length→m b=none):Rel m L0 H2 w:=by
 have lt:∀b l,m b=some l→b<H2.length→b<H1.length:=fun b l hm hb=>by
  rcases Nat.lt_or_ge b H1.length with h | h
  ·exact h
  ·rw[hd b h hb] at hm;cases hm
 refine⟨h.valid,fun b l cs e p hm hb=>h.row b l cs e p hm ?_,fun b1 b2 l1 l2 hb h1 h2 DJ Gy=>h.inj b1 b2 l1 l2 hb h1 h2 ((gZ (hs b1 (lt b1 l1 h1 DJ.lt))).1 DJ) ((gZ (hs b2 (lt b2 l2 h2 Gy.lt))).1 Gy),fun x hx=>⟨(h.BK x hx).1,fun b l hb hm hl=>(h.BK x hx).2 b l hb hm ((gZ (hs b (lt b l hm hl.lt))).1 hl)⟩⟩
 rw[←hs b (lt b l hm (List.getElem?_eq_some_iff.1 hb).1)]
 exact hb
structure Text (P:Program) (E:yQ) (n:Nat) (ops:Array Oper) (qW:List PI) (ps:List lT) (M:List Nat) (call:fL) (lo:Nat) (st:Nat→Env×aD):Prop where
 ok:ZR P E n ops.toList true qW ps M
 ext:pF call
 step:∀i pi,qW[i]? = some pi→uR call lo pi (st i).1 (st i).2=some (st (i+1))
section
variable {P:Program} {E:yQ} {n:Nat} {ops:Array Oper} {qW:List PI} {ps:List lT} {M:List Nat} {call:fL} {lo:Nat} {st:Nat→Env×aD}
theorem Text.at (T:Text P E n ops qW ps M call lo st) {i:Nat} (hi:i<ops.size):∃o p pi,ops[i]? = some o∧ps[i]? = some p∧qW[i]? = some pi∧Wl P E n ops.toList i o p pi∧MD E ops.toList ps M i o p pi ∧
  ∃v,wQ call lo pi (st i).1 (st i).2=some (v,(st (i+1)).2)∧(st (i+1)).1=put (st i).1 o.dst v:=by
 have ho:ops.toList[i]? = some ops[i]:=by simp[hi]
 obtain⟨p,pi,h1,h2,h3,h4,_⟩:=T.ok.each i _ ho
 obtain⟨v,h5,h6⟩:=vD (T.step i pi h2)
 exact⟨ops[i],p,pi,by simp[hi],h1,h2,h3,h4 rfl,v,h5,by rw[h6,h3.dst]⟩
theorem Text.agL (T:Text P E n ops qW ps M call lo st) {i:Nat} (hi:i<ops.size):(st i).2.length≤(st (i+1)).2.length:=by
 obtain⟨o,p,pi,_,_,_,_,_,v,hv,_⟩:=T.at hi
 exact(Ip T.ext hv).len
theorem Text.len (T:Text P E n ops qW ps M call lo st) {i:Nat}:∀ {j:Nat},i≤j→j≤ops.size→(st i).2.length≤(st j).2.length:=by
 intro j PV
 induction j with
 | zero =>
    intro _;have:i=0:=by omega
    subst this;exact Nat.le_refl _
 |
  succ j ih =>
  intro hj
  rcases Nat.lt_or_ge i (j+1) with h | h
  ·exact Nat.le_trans (ih (by omega) (by omega)) (T.agL (by omega))
  ·have:i=j+1:=by omega
   subst this;exact Nat.le_refl _
theorem Text.afA (T:Text P E n ops qW ps M call lo st) {i:Nat} {p:lT} (hi:i<ops.size) (hp:ps[i]? = some p) (hw:eY E p ≠ .write):∀b,b<(st i).2.length→(st (i+1)).2[b]? = (st i).2[b]? := by
 intro b hb
 obtain⟨o,p',pi,_,A7,_,Ci,TS,v,hv,_⟩:=T.at hi
 rw[hp] at A7
 cases A7
 rcases rH hv with⟨_,_,h⟩ | ⟨_,_,h | ⟨f,args,h1,h2⟩⟩
 ·rw[h]
 ·rw[Ci.op] at h
  by_cases hq:eY E p = .quiet
  ·rw[WA (zX:=(st i).2.length) hq] at h
   exact(RI h).low b hb hb
  ·
   have:(st (i+1)).2=(st i).2:=by
    cases p<;>first
     | (exact absurd rfl hw)
     | (exact absurd rfl hq)
     | (rw[wD rfl] at h;exact(A6 h).2)
     | skip
    case load agg size q =>
     simp only[pop] at h
     cases hl:mC agg size (ev (st i).1 q) (st i).2 with
     | none=>rw[hl] at h;cases h
     | some u=>rw[hl] at h;injection h with h;injection h with _ h;exact h.symm
    case b2s x =>
     simp only[pop] at h
     split at h
     ·injection h with h;injection h with _ h;exact h.symm
     ·split at h
      ·rename_i cs _
       cases hb:rQ cs with
       | none=>rw[hb] at h;cases h
       | some bs=>rw[hb] at h;injection h with h;injection h with _ h;exact h.symm
      ·cases h
     ·cases h
    case sub size x l hh mx =>
     simp only[pop] at h
     cases mx with
     | some mx=>exact absurd rfl hq
     |
      none =>
      cases hs:AQ size (ev (st i).1 x) (l.map (ev (st i).1)) (hh.map (ev (st i).1)) ((none:Option Operand).map (ev (st i).1)) (st i).2 with
      | none=>rw[hs] at h;cases h
      |
       some q =>
       obtain⟨u,H1⟩:=q
       rw[hs] at h
       injection h with h;injection h with _ h
       subst h
       unfold AQ at hs
       simp only[Option.map_none,Option.isSome_none,Bool.false_eq_true,false_and,if_false] at hs
       repeat' (split at hs)
       all_goals first
        | (cases hs;done)
        | (injection hs with hs;injection hs with _ hs;exact hs.symm)
    case call f args=>cases h
   rw[this]
 ·rw[Ci.op] at h1
  have hq:pi.quiet=true:=by
   rw[TS.quiet]
   rcases qN h1 with⟨g,as,rfl⟩ | ⟨g,as,rfl⟩
   ·simp only[eY] at hw ⊢
    split at hw
    ·exact absurd rfl hw
    ·rename_i h;rw[if_neg h]
   ·exact absurd rfl hw
  rw[hq] at h2
  exact(T.ext _ _ _ _ _ _ h2).low b hb hb
end
end Go.PM
namespace Go.PM
theorem Ce {H H':aD} {lo b o:Nat} {new:List Value} (h:H.write lo b o new=some H') {b':Nat} (hb:b'≠b):H'[b']? = H[b']? := by
 obtain⟨cs,e,p,h1,h2,h3,h4,rfl⟩:=Ao h
 exact List.getElem?_set_ne (Ne.symm hb)
theorem GY {H H':aD} {lo size bytes add:Nat} {x v:Value} {new:List Value} (h:dK lo size bytes x add new H=some (v,H')) {b':Nat} (hb:iE x≠some b') (aX:b'<H.length):H'[b']? = H[b']? := by
 unfold dK at h
 split at h
 case isFalse=>cases h
 split at h
 ·split at h
  ·split at h
   ·cases h;rfl
   ·split at h
    ·cases h;exact List.getElem?_append_left aX
    ·cases h
  ·cases h
 ·rename_i b o n c
  have eW:b'≠b:=fun e=>hb (by rw[e];rfl)
  split at h
  ·split at h
   ·split at h
    ·split at h
     ·cases h;rfl
     ·cases hw:aD.write H lo b (o+n*size) new with
      | none=>rw[hw] at h;cases h
      | some H1=>rw[hw] at h;cases h;exact Ce hw eW
    ·split at h
     ·split at h
      ·split at h
       ·cases h
        rw[List.getElem?_append_left (by simpa using aX)]
        exact List.getElem?_set_ne (Ne.symm eW)
       ·cases h
      ·cases h;exact List.getElem?_append_left aX
     ·cases h
   ·cases h
  ·cases h
 ·cases h
theorem YW {E:yQ} {lo:Nat} {p:lT} {ρ:Env} {H H':aD} {v:Value} {x:Operand} (h:pop lo p ρ H=some (.val v H')) (hw:eY E p = .write) (ht:CI p=some x) {b':Nat} (hb:iE (ev ρ x)≠some b') (aX:b'<H.length):H'[b']? = H[b']? := by
 cases p<;>first | (cases ht;done) | (cases hw;done) | skip
 case sub size y l hh mx=>cases mx<;>cases hw
 case store size q y =>
  cases ht
  simp only[pop] at h
  split at h
  ·rename_i b o he
   rw[he] at hb
   have eW:b'≠b:=fun e=>hb (by rw[e];rfl)
   split at h
   ·cases hw:H.write lo b o (aL (ev ρ y)) with
    | none=>rw[hw] at h;cases h
    | some H1=>rw[hw] at h;cases h;exact Ce hw eW
   ·cases h
  ·cases h
 case app size bytes y z =>
  cases ht
  simp only[pop] at h
  split at h
  ·rename_i n _
   split at h
   ·rename_i new _
    cases ha:dK lo size bytes (ev ρ x) n new H with
    | none=>rw[ha] at h;cases h
    |
     some q =>
     obtain⟨u,H1⟩:=q
     rw[ha] at h;cases h;exact GY ha hb aX
   ·cases h
  ·cases h
 case appz z bytes y n =>
  cases ht
  simp only[pop] at h
  split at h
  ·rename_i k _
   split at h
   ·cases ha:dK lo z.length bytes (ev ρ x) k.toNat (cI k.toNat z) H with
    | none=>rw[ha] at h;cases h
    |
     some q =>
     obtain⟨u,H1⟩:=q
     rw[ha] at h;cases h;exact GY ha hb aX
   ·cases h
  ·cases h
 case copy size y z =>
  cases ht
  simp only[pop] at h
  split at h
  ·cases h;rfl
  ·rename_i b o d _ s he _
   rw[he] at hb
   have eW:b'≠b:=fun e=>hb (by rw[e];rfl)
   split at h
   ·rename_i new _
    cases hw:H.write lo b o new with
    | none=>rw[hw] at h;cases h
    | some H1=>rw[hw] at h;cases h;exact Ce hw eW
   ·cases h
  ·cases h
 case clear z y =>
  cases ht
  simp only[pop] at h
  split at h
  ·cases h;rfl
  ·rename_i b o n _ he
   rw[he] at hb
   have eW:b'≠b:=fun e=>hb (by rw[e];rfl)
   split at h
   ·cases h;rfl
   ·cases hw:H.write lo b o (cI n z) with
    | none=>rw[hw] at h;cases h
    | some H1=>rw[hw] at h;cases h;exact Ce hw eW
  ·cases h
theorem MK {H:aD} {b o n:Nat} {cs:List Value} (h:H.read b o n=some cs):b<H.length:=by
 unfold aD.read at h
 split at h
 ·rename_i hb;exact(List.getElem?_eq_some_iff.1 hb).1
 ·cases h
theorem Dq {H H2:aD} {b o n:Nat} (h:H2[b]? = H[b]?):H2.read b o n=H.read b o n:=by
 unfold aD.read
 rw[h]
theorem QB {agg:Bool} {size:Nat} {x v:Value} {H H2:aD} (h:mC agg size x H=some v) (hb:∀b,iE x=some b→b<H.length→H2[b]? = H[b]?):mC agg size x H2=some v:=by
 unfold mC at h ⊢
 split at h
 ·rename_i b o
  have aX:b<H.length:=by
   split at h
   ·cases hr:H.read b o size with
    | none=>rw[hr] at h;cases h
    | some cs=>exact MK hr
   ·cases hr:H.read b o 1 with
    | none=>rw[hr] at h;cases h
    | some cs=>exact MK hr
  have e:=hb b rfl aX
  simp only[Dq e]
  exact h
 ·cases h
theorem Ng {E:yQ} {lo:Nat} {p:lT} {ρ:Env} {H H' H2:aD} {v:Value} (h:pop lo p ρ H=some (.val v H')) (hc:eY E p = .look) (hb:∀x,CI p=some x→∀b,iE (ev ρ x)=some b→b<H.length→H2[b]? = H[b]?) :
  H'=H∧pop lo p ρ H2=some (.val v H2):=by
 cases p<;>first | (cases hc;done) | skip
 case call f args=>simp only[eY] at hc;split at hc<;>cases hc
 case load agg size q =>
  simp only[pop] at h ⊢
  cases hl:mC agg size (ev ρ q) H with
  | none=>rw[hl] at h;cases h
  |
   some u =>
   rw[hl] at h
   cases h
   refine⟨rfl,?_⟩
   rw[QB hl (hb q rfl)]
   rfl
 case b2s x =>
  simp only[pop] at h ⊢
  split at h
  ·cases h;exact⟨rfl,rfl⟩
  ·rename_i b o n _ he
   split at h
   ·rename_i cs hr
    cases Z1:rQ cs with
    | none=>rw[Z1] at h;cases h
    |
     some bs =>
     rw[Z1] at h
     cases h
     refine⟨rfl,?_⟩
     have e:=hb x rfl b (by rw[he];rfl) (MK hr)
     rw[Dq e,hr]
     simp only[Z1]
     rfl
   ·cases h
  ·cases h
 case sub size x l hh mx =>
  cases mx with
  | some mx=>cases hc
  |
   none =>
   simp only[pop] at h ⊢
   cases hs:AQ size (ev ρ x) (l.map (ev ρ)) (hh.map (ev ρ)) ((none:Option Operand).map (ev ρ)) H with
   | none=>rw[hs] at h;cases h
   |
    some q =>
    obtain⟨u,H1⟩:=q
    rw[hs] at h
    cases h
    have xJ:=hb x rfl
    generalize ev ρ x=xv at hs xJ
    have key:H1=H∧AQ size xv (l.map (ev ρ)) (hh.map (ev ρ)) ((none:Option Operand).map (ev ρ)) H2=some (u,H2):=by
     unfold AQ at hs ⊢
     simp only[Option.map_none,Option.isSome_none,Bool.false_eq_true,false_and,if_false] at hs ⊢
     split at hs
     ·repeat' (split at hs)
      all_goals first | (cases hs;done) | skip
      cases hs
      simp_all
     ·rename_i b o n c
      split at hs
      ·rename_i cs e p Fi
       have e1:=xJ b rfl (List.getElem?_eq_some_iff.1 Fi).1
       rw[e1,Fi]
       simp only
       repeat' (split at hs)
       all_goals first | (cases hs;done) | skip
       cases hs
       simp_all
      ·cases hs
     ·cases hs
    rw[key.2]
    exact⟨key.1,rfl⟩
section
variable {P:Program} {E:yQ} {n:Nat} {ops:Array Oper} {qW:List PI} {ps:List lT} {M:List Nat} {call:fL} {lo:Nat} {st:Nat→Env×aD}
theorem Text.V4 (T:Text P E n ops qW ps M call lo st) {i:Nat}:∀ {j:Nat},i≤j→j≤ops.size→Ext lo (st i).2 (st j).2:=by
 intro j PV
 induction j with
 | zero =>
    intro _;have:i=0:=by omega
    subst this;exact Ext.refl _ _
 |
  succ j ih =>
  intro hj
  rcases Nat.lt_or_ge i (j+1) with h | h
  ·obtain⟨o,p,pi,_,_,_,_,_,v,hv,_⟩:=T.at (i:=j) (by omega)
   exact(ih (by omega) (by omega)).trans (Ip T.ext hv)
  ·have:i=j+1:=by omega
   subst this;exact Ext.refl _ _
theorem Text.VF (T:Text P E n ops qW ps M call lo st) {i:Nat}:∀ {j:Nat},i≤j→j≤ops.size→∀b,b<(st i).2.length →
  (∀k,i≤k→k<j→∀p pi,ps[k]? = some p→qW[k]? = some pi→eY E p = .write→xC pi.g (st k).1=some true→∃x,CI p=some x∧iE (ev (st k).1 x)≠some b) →
  (st j).2[b]? = (st i).2[b]? := by
 intro j PV
 induction j with
 | zero =>
      intro _ b _ _;have:i=0:=by omega
      subst this;rfl
 |
  succ j ih =>
  intro hj b hb hk
  rcases Nat.lt_or_ge i (j+1) with h | h
  ·have aX:b<(st j).2.length:=Nat.lt_of_lt_of_le hb (T.len (by omega) (by omega))
   have h1:(st (j+1)).2[b]? = (st j).2[b]? := by
    obtain⟨o,p,pi,_,hp,To,Ci,_,v,hv,_⟩:=T.at (i:=j) (by omega)
    by_cases hw:eY E p = .write
    ·rcases rH hv with⟨_,_,h⟩ | ⟨hwt,_,h | ⟨f,args,h1,h2⟩⟩
     ·rw[h]
     ·rw[Ci.op] at h
      obtain⟨x,hx,eW⟩:=hk j (by omega) (by omega) p pi hp To hw hwt
      exact YW h hw hx eW aX
     ·rw[Ci.op] at h1
      obtain⟨x,hx,eW⟩:=hk j (by omega) (by omega) p pi hp To hw hwt
      rcases qN h1 with⟨g,as,rfl⟩ | ⟨g,as,rfl⟩<;>cases hx
    ·exact T.afA (by omega) hp hw b aX
   rw[h1]
   exact ih (by omega) (by omega) b hb fun k hk1 YT=>hk k hk1 (by omega)
  ·have:i=j+1:=by omega
   subst this;rfl
theorem Text.same (T:Text P E n ops qW ps M call lo st) {i j:Nat} (PV:i≤j) (hj:j≤ops.size) (hk:∀k,i≤k→k<j→∀p,ps[k]? = some p→eY E p ≠ .write):∀b,b<(st i).2.length→(st j).2[b]? = (st i).2[b]? :=
 fun b hb=>T.VF PV hj b hb fun k h1 h2 p _ hp _ hw _=>absurd hw (hk k h1 h2 p hp)
theorem Text.Mr (T:Text P E n ops qW ps M call lo st) {i t:Nat}:∀ {j:Nat},i≤j→j≤ops.size→(∀k o,i≤k→k<j→ops[k]? = some o→o.dst≠some t)→(st j).1 t=(st i).1 t:=by
 intro j PV
 induction j with
 | zero =>
      intro _ _;have:i=0:=by omega
      subst this;rfl
 |
  succ j ih =>
  intro hj hk
  rcases Nat.lt_or_ge i (j+1) with h | h
  ·obtain⟨o,p,pi,ho,hp,To,Ci,_,v,hv,he⟩:=T.at (i:=j) (by omega)
   rw[he]
   have eW:=hk j o (by omega) (by omega) ho
   have h1:put (st j).1 o.dst v t=(st j).1 t:=by
    cases hd:o.dst with
    | none=>rfl
    |
     some d =>
     rw[hd] at eW
     show (if t=d then v else _)=_
     rw[if_neg (fun e=>eW (by rw[e]))]
   rw[h1]
   exact ih (by omega) (by omega) fun k o hk1 YT=>hk k o hk1 (by omega)
  ·have:i=j+1:=by omega
   subst this;rfl
end
end Go.PM
namespace Go.PM
theorem uP {M:List Nat} {i j:Nat} (h:i<j):ahead M i j=(M.getD j 0).testBit i:=by
 unfold ahead
 have e1:Nat.max i j=j:=Nat.max_eq_right (by omega)
 have e2:Nat.min i j=i:=Nat.min_eq_left (by omega)
 rw[e1,e2]
theorem W4 {M:List Nat} {i j:Nat} (h:j<i):ahead M i j=(M.getD i 0).testBit j:=by
 unfold ahead
 have e1:Nat.max i j=i:=Nat.max_eq_left (by omega)
 have e2:Nat.min i j=j:=Nat.min_eq_right (by omega)
 rw[e1,e2]
theorem NK {a:Act} {d t:Nat} {v:Value} (hd:d<a.tmps.size):(a.put (some d) v).tmps.getD t undef=if t=d then v else a.tmps.getD t undef:=by
 show (a.tmps.setIfInBounds d v).getD t undef=_
 rcases Nat.lt_or_ge t a.tmps.size with h | h
 ·by_cases e:t=d
  ·subst e;simp[h]
  ·simp[h,e,Ne.symm e]
 ·have:t≠d:=by omega
  simp[h,this]
theorem EU (a:Act) (d:Option Nat) (v:Value):(a.put d v).tmps.size=a.tmps.size:=by
 cases d<;>simp[Act.put]
theorem EH (a:Act) (d:Option Nat) (v:Value):(a.put d v).defers=a.defers:=by
 cases d<;>rfl
section
variable {P:Program} {E:yQ} {n:Nat} {ops:Array Oper} {qW:List PI} {ps:List lT} {M:List Nat} {call:fL} {lo L0:Nat} {st:Nat→Env×aD}
structure pR (E:yQ) (n:Nat) (ops:Array Oper) (ps:List lT) (lo L0:Nat) (st:Nat→Env×aD) (m0:cS) (w0:World) (ds:List Deferred) (S:Nat→Prop) (m:cS) (c:Nat) (a:Act) (w:World):Prop where
 D6:a.tmps.size=n
 defs:a.defers=ds
 back:∀i o,ops.toList[i]? = some o→S i→∀e∈o.after.toList,Region.binds .any e=true→S e.on
 tm:∀t j,j≤ops.size→(∀i o,ops.toList[i]? = some o→o.dst=some t→(S i↔i<j))→RV m ((st j).1 t) (a.tmps.getD t undef)
 JH:c≤ops.size
 before:∀i p,i<c→ps[i]? = some p→eY E p = .write→S i
 atc:c<ops.size→¬S c∧∃p,ps[c]? = some p∧eY E p = .write
 rel:Rel m L0 (st c).2 w
 tr:Trans lo m0 (st 0).2 w0 m (st c).2 w
 UY:∀b l,m b=some l→m0 b≠none∨∃i,S i∧i<ops.size∧(st i).2.length≤b∧b<(st (i+1)).2.length
theorem Text.Z5 (T:Text P E n ops qW ps M call lo st) {S:Nat→Prop} (hS:∀i o,ops.toList[i]? = some o→S i→∀e∈o.after.toList,Region.binds .any e=true→S e.on) {k:Nat} {o:Oper} (ho:ops.toList[k]? = some o)
  (hk:∀e∈o.after.toList,Region.binds .any e=true→S e.on) {i:Nat} (hi:(M.getD k 0).testBit i=true):S i :=
 Qs (fun i o hio=>by
   obtain⟨p,pi,_,_,_,hd,_⟩:=T.ok.each i o hio
   exact(hd rfl).back) (fun i o hio=>by
   obtain⟨p,pi,_,_,_,hd,_⟩:=T.ok.each i o hio
   exact(hd rfl).mask) hS k o ho hk i hi
theorem Text.SN (T:Text P E n ops qW ps M call lo st) {i:Nat} {p:lT} (hi:i<ops.size) (hp:ps[i]? = some p) (h:eY E p = .pure∨eY E p = .look):(st (i+1)).2=(st i).2:=by
 obtain⟨o,p',pi,_,A7,_,Ci,TS,v,hv,_⟩:=T.at hi
 rw[hp] at A7
 cases A7
 rcases rH hv with⟨_,_,h'⟩ | ⟨_,_,h' | ⟨f,args,h1,h2⟩⟩
 ·exact h'
 ·rw[Ci.op] at h'
  rcases h with h | h
  ·have:rX p=true:=by
    cases p<;>first | rfl | (cases h;done) | skip
    case sub s x l hh mx=>cases mx<;>cases h
    case call f as=>simp only[eY] at h;split at h<;>cases h
   rw[wD this] at h'
   exact(A6 h').2
  ·exact(Ng h' h (fun _ _ _ _ _=>rfl)).1
 ·exfalso
  rw[Ci.op] at h1
  rcases qN h1 with⟨g,as,rfl⟩ | ⟨g,as,rfl⟩
  ·simp only[eY] at h
   split at h<;>rcases h with h | h<;>cases h
  ·rcases h with h | h<;>cases h
theorem UE {op:Op} {p:lT} {x:Operand} (h:nZ P op=some p) (ht:CI p=some x):x∈op.operands:=by
 unfold nZ at h
 split at h
 case isFalse=>cases h
 cases op with
 |
  load t q =>
  dsimp only at h
  cases hi:kK P t with
  | none=>rw[hi] at h;cases h
  | some u=>rw[hi] at h;cases h;cases ht;simp[Op.operands]
 |
  store t q v =>
  dsimp only at h
  cases hi:P.info? t with
  | none=>rw[hi] at h;cases h
  | some u=>rw[hi] at h;cases h;cases ht;simp[Op.operands]
 |
  slice t y l hh mx =>
  dsimp only at h
  split at h
  ·split at h
   ·cases h;cases ht
   ·cases h
  ·rename_i e _
   cases hi:kK P e with
   | none=>rw[hi] at h;cases h
   | some u=>rw[hi] at h;cases h;cases ht;simp[Op.operands]
  ·cases h
 |
  convert s d y =>
  dsimp only at h
  repeat' (split at h)
  all_goals first
   | (cases h;done)
   | (cases h;cases ht;done)
   | (cases h;cases ht;simp[Op.operands])
 |
  call c =>
  obtain⟨callee,args,ts⟩:=c
  cases callee with
  |
   builtin b =>
   simp only[mR] at h
   repeat' (split at h)
   all_goals first
    | (cases h;done)
    | (cases h;cases ht;done)
    | skip
   all_goals
    cases h
    cases ht
    have hm:x∈args.toList:=by simp_all
    simpa[Op.operands,Call.operands] using hm
  |
   value f =>
   cases f with
   | tmp g'=>cases h;cases ht
   | func g'=>cases h;cases ht
   | _=>cases h
  | invoke r s=>cases h
 |
  _ =>
  exfalso
  dsimp only at h
  try unfold zU at h
  repeat' (split at h)
  all_goals first
   | contradiction
   | (cases h;done)
   | (cases h;cases ht;done)
   | exact map_none h (by intro y h;cases h;cases ht)
end
end Go.PM
namespace Go.PM
theorem DD (p:Nat→Prop):∀(d c N:Nat),N-c=d→c≤N→∃c',c≤c'∧c'≤N∧(∀i,c≤i→i<c'→¬p i)∧(c'<N→p c')
 | 0,c,N,hd,hc=>⟨c,Nat.le_refl _,hc,fun i h1 h2=>by omega,fun h=>by omega⟩
 |
  d+1,c,N,hd,hc=>by
  by_cases hp:p c
  ·exact⟨c,Nat.le_refl _,hc,fun i h1 h2=>by omega,fun _=>hp⟩
  ·obtain⟨c',h1,h2,h3,h4⟩:=DD p d (c+1) N (by omega) (by omega)
   refine⟨c',by omega,h2,fun i hi1 HK => ?_,h4⟩
   rcases Nat.lt_or_ge c i with h | h
   ·exact h3 i h HK
   ·have:i=c:=by omega
    subst this;exact hp
theorem WR {m:cS} {v r:Value} {b:Nat} (h:RV m v r) (hb:iE v=some b):∃l,m b=some l:=by
 cases h<;>first | (cases hb;done) | (cases hb;exact⟨_,by assumption⟩)
section
variable {P:Program} {E:yQ} {n:Nat} {ops:Array Oper} {qW:List PI} {ps:List lT} {M:List Nat} {call:fL} {lo L0:Nat} {st:Nat→Env×aD}
 {m0:cS} {w0:World} {ds:List Deferred} {S:Nat→Prop} {m:cS} {c:Nat} {a:Act} {w:World} {k:Nat} {o:Oper} {p:lT} {pi:PI}
structure At (P:Program) (E:yQ) (n:Nat) (ops:Array Oper) (qW:List PI) (ps:List lT) (M:List Nat) (S:Nat→Prop) (k:Nat) (o:Oper) (p:lT) (pi:PI):Prop where
 lt:k<ops.size
 eo:ops[k]? = some o
 ep:ps[k]? = some p
 epi:qW[k]? = some pi
 ok:Wl P E n ops.toList k o p pi
 dr:MD E ops.toList ps M k o p pi
 alL:¬S k
 Z5:∀i,(M.getD k 0).testBit i=true→S i
 desc:∀i,i<ops.size→S i→(M.getD i 0).testBit k=true→False
theorem At.ah (A:At P E n ops qW ps M S k o p pi) {i:Nat} (hi:i<ops.size) (h:i=k∨ahead M k i=true):S i↔i<k:=by
 rcases Nat.lt_trichotomy i k with h1 | h1 | h1
 ·refine⟨fun _=>h1,fun _ => ?_⟩
  rcases h with h | h
  ·omega
  ·rw[W4 h1] at h;exact A.Z5 i h
 ·subst h1
  exact⟨fun h=>absurd h A.alL,fun h=>by omega⟩
 ·refine⟨fun hs => ?_,fun h=>by omega⟩
  rcases h with h | h
  ·omega
  ·rw[uP h1] at h;exact absurd h (fun h=>A.desc i hi hs h)
theorem Dt {i:Nat} {oi:Oper} (h:ops.toList[i]? = some oi):i<ops.size:=by
 have:=(List.getElem?_eq_some_iff.1 h).1
 simpa using this
theorem At.reads (A:At P E n ops qW ps M S k o p pi) (I:pR E n ops ps lo L0 st m0 w0 ds S m c a w):∀t∈tN ops.toList o,RV m ((st k).1 t) (a.tmps.getD t undef):=by
 intro t ht
 refine I.tm t k (Nat.le_of_lt A.lt) fun i oi hi hd => ?_
 exact A.ah (Dt hi) (A.dr.Ly t (List.mem_append_right _ ht) i oi hi hd)
theorem At.operand (A:At P E n ops qW ps M S k o p pi) (I:pR E n ops ps lo L0 st m0 w0 ds S m c a w) {x:Operand} (hx:x∈o.op.operands):RV m (ev (st k).1 x) (a.eval x) :=
 Qg (Iy A.ok.Uu x hx) fun t ht=>A.reads I t (C7 (ht▸hx))
theorem At.pair (T:Text P E n ops qW ps M call lo st) {i j:Nat} {p q:lT} (PV:i<j) (hj:j<ops.size) (hp:ps[i]? = some p) (hq:ps[j]? = some q):∃qi,qW[j]? = some qi∧CB E ops.toList M i j p q qi.cf:=by
 obtain⟨o,q',qi,_,JT,Wv,_,hd,_⟩:=T.at hj
 rw[hq] at JT
 cases JT
 exact⟨qi,Wv,hd.agE i PV p hp⟩
theorem pR.late (T:Text P E n ops qW ps M call lo st) (I:pR E n ops ps lo L0 st m0 w0 ds S m c a w) {i:Nat} {q:lT} (hi:c<i) (hn:i<ops.size) (hS:S i) (hq:ps[i]? = some q):eY E q = .pure∨eY E q = .look:=by
 obtain⟨ZV,pc,Yr,M8⟩:=I.atc (by omega)
 obtain⟨qi,_,iK⟩:=At.pair T hi hn Yr hq
 unfold CB at iK
 rw[M8] at iK
 obtain⟨oi,_,_,hoi,_⟩:=T.at hn
 have Ot:ops.toList[i]? = some oi:=by simpa using hoi
 have fin:ahead M c i=true→False:=fun h=>by
  rw[uP hi] at h
  exact ZV (T.Z5 I.back Ot (I.back i oi Ot hS) h)
 cases lO:eY E q with
 | pure=>exact .inl rfl
 | look=>exact .inr rfl
 | quiet=>rw[lO] at iK;exact absurd iK fin
 | write=>rw[lO] at iK;exact absurd iK fin
theorem pR.Ly (T:Text P E n ops qW ps M call lo st) (I:pR E n ops ps lo L0 st m0 w0 ds S m c a w) (A:At P E n ops qW ps M S k o p pi) {m':cS} {v rv:Value} (hm:∀b l,m b=some l→m' b=some l) (hv:RV m' v rv)
  (he:(st (k+1)).1=put (st k).1 o.dst v):∀t j,j≤ops.size→(∀i o,ops.toList[i]? = some o→o.dst=some t→((i=k∨S i)↔i<j))→RV m' ((st j).1 t) ((a.put o.dst rv).tmps.getD t undef):=by
 intro t j hj hw
 have Ci:ops.toList[k]? = some o:=by simpa using A.eo
 cases hd:o.dst with
 |
  none =>
  show RV m' _ (a.tmps.getD t undef)
  refine(I.tm t j hj fun i oi hi Wt => ?_).mono hm
  have eW:i≠k:=fun e=>by subst e;rw[Ci] at hi;cases hi;rw[hd] at Wt;cases Wt
  rw[←hw i oi hi Wt]
  simp[eW]
 |
  some d =>
  rw[NK (by rw[I.D6];exact A.ok.bound d hd)]
  by_cases htd:t=d
  ·subst htd
   rw[if_pos rfl]
   have hkj:k<j:=(hw k o Ci hd).1 (.inl rfl)
   have e1:(st j).1 t=(st (k+1)).1 t:=by
    refine T.Mr hkj hj fun i oi hi1 HK hoi Wt => ?_
    have Ot:ops.toList[i]? = some oi:=by simpa using hoi
    have hS:=(hw i oi Ot Wt).2 HK
    have hik:i≠k:=by omega
    have:=(A.ah (Dt Ot) (A.dr.Ly t (List.mem_append_left _ (by rw[hd];simp)) i oi Ot Wt)).1 (hS.resolve_left hik)
    omega
   rw[e1,he,hd]
   show RV m' (if t=t then v else _) rv
   rw[if_pos rfl]
   exact hv
  ·rw[if_neg htd]
   refine(I.tm t j hj fun i oi hi Wt => ?_).mono hm
   have eW:i≠k:=fun e=>by subst e;rw[Ci] at hi;cases hi;rw[hd] at Wt;cases Wt;exact htd rfl
   rw[←hw i oi hi Wt]
   simp[eW]
theorem pR.W0 (I:pR E n ops ps lo L0 st m0 w0 ds S m c a w) (A:At P E n ops qW ps M S k o p pi) (hr:∀e∈o.after.toList,Region.binds .any e=true→S e.on) :
  ∀i oi,ops.toList[i]? = some oi→(i=k∨S i)→∀e∈oi.after.toList,Region.binds .any e=true→(e.on=k∨S e.on):=by
 intro i oi hi hS e he hb
 rcases hS with rfl | hS
 ·have:ops.toList[i]? = some o:=by simpa using A.eo
  rw[this] at hi
  cases hi
  exact .inr (hr e he hb)
 ·exact .inr (I.back i oi hi hS e he hb)
theorem EN (T:Text P E n ops qW ps M call lo st) {i j:Nat} {x:Operand} (PV:i≤j) (hj:j≤ops.size) (h:B8 ops.toList i j x=true):ev (st j).1 x=ev (st i).1 x:=by
 cases x with
 |
  tmp t =>
  refine T.Mr PV hj fun q oq h1 h2 hoq hd => ?_
  have kA:=List.all_eq_true.1 h oq (by
   have alP:ops.toList[q]? = some oq:=by simpa using hoq
   rw[List.mem_iff_getElem?]
   refine⟨q-i,?_⟩
   rw[List.getElem?_drop,List.getElem?_take,show i+(q-i)=q by omega,if_pos h2,alP])
  simp[hd] at kA
 | const v=>rfl
 | global g=>rfl
 | func f=>rfl
theorem pR.look (T:Text P E n ops qW ps M call lo st) (I:pR E n ops ps lo L0 st m0 w0 ds S m c a w) (A:At P E n ops qW ps M S k o p pi) (zV:∀b,(st 0).2.length≤b→b<(st ops.size).2.length→m0 b=none)
  (lO:eY E p = .pure∨eY E p = .look) {v:Value} (hv:wQ call lo pi (st k).1 (st k).2=some (v,(st (k+1)).2)):wQ call lo pi (st k).1 (st c).2=some (v,(st c).2):=by
 rcases rH hv with⟨hw,rfl,_⟩ | ⟨hw,M6,hp | ⟨f,args,hp,_⟩⟩
 ·unfold wQ
  rw[hw]
 ·unfold wQ
  rw[hw]
  simp only[M6,if_true]
  have key:pop lo pi.op (st k).1 (st c).2=some (.val v (st c).2):=by
   rw[A.ok.op] at hp ⊢
   rcases lO with lO | lO
   ·have hlp:rX p=true:=by
     cases p<;>first | rfl | (cases lO;done) | skip
     case sub s x l hh mx=>cases mx<;>cases lO
     case call f as=>simp only[eY] at lO;split at lO<;>cases lO
    rw[wD hlp] at hp ⊢
    rw[(A6 hp).1]
    rfl
   ·refine(Ng hp lO fun x hx b hb aX => ?_).2
    rcases Nat.lt_or_ge c k with hck | hck
    ·obtain⟨ZV,pc,Yr,M8⟩:=I.atc (Nat.lt_trans hck A.lt)
     have Jb:b<(st c).2.length:=by
      rcases Nat.lt_or_ge b (st c).2.length with h | h
      ·exact h
      ·exfalso
       obtain⟨l,hl⟩:=WR (A.operand I (UE A.ok.Uu hx)) hb
       have h0:=T.len (i:=0) (j:=c) (Nat.zero_le _) I.JH
       have h1:=T.len (i:=k) (j:=ops.size) (Nat.le_of_lt A.lt) (Nat.le_refl _)
       rcases I.UY b l hl with h2 | ⟨i,hiS,dA,hi1,HK⟩
       ·exact h2 (zV b (by omega) (by omega))
       ·rcases Nat.lt_trichotomy i c with h3 | h3 | h3
        ·have:=T.len (i:=i+1) (j:=c) h3 I.JH
         omega
        ·subst h3;exact ZV hiS
        ·obtain⟨oi,qi,pii,_,Wv,_⟩:=T.at dA
         have:=I.late T h3 dA hiS Wv
         rw[T.SN dA Wv this] at HK
         omega
     refine(T.VF (Nat.le_of_lt hck) (Nat.le_of_lt A.lt) b Jb fun j hj1 UW q qi hq Wv hqw ZO => ?_).symm
     obtain⟨pi',ahJ,iK⟩:=At.pair T UW A.lt hq A.ep
     rw[A.epi] at ahJ
     cases ahJ
     unfold CB at iK
     rw[hqw,lO] at iK
     rcases iK with h | ⟨xa,xb,ha,xJ,hun,Im⟩
     ·exfalso
      rw[uP UW] at h
      have hjS:=A.Z5 j h
      rcases Nat.lt_or_ge c j with h3 | h3
      ·rcases I.late T h3 (Nat.lt_trans UW A.lt) hjS hq with h4 | h4<;>(rw[hqw] at h4;cases h4)
      ·have:j=c:=by omega
       subst this;exact ZV hjS
     ·rw[hx] at xJ
      cases xJ
      refine⟨xa,ha,fun e => ?_⟩
      have hk:=List.all_eq_true.1 M6 _ Im
      unfold yS at hk
      rw[EN T (Nat.le_of_lt UW) (Nat.le_of_lt A.lt) hun,e,hb] at hk
      simp at hk
    ·refine T.VF hck I.JH b aX fun j hj1 UW q qi hq Wv hqw ZO => ?_
     have hjk:k<j:=by
      rcases Nat.lt_or_ge k j with h | h
      ·exact h
      ·have:j=k:=by omega
       subst this
       rw[A.ep] at hq
       cases hq
       rw[hqw] at lO
       cases lO
     have hjn:j<ops.size:=Nat.lt_of_lt_of_le UW I.JH
     obtain⟨oj,q',qi',hoj,JT,V9,avH,_,vj,hvj,_⟩:=T.at hjn
     rw[hq] at JT
     cases JT
     rw[Wv] at V9
     cases V9
     obtain⟨qi',V9,iK⟩:=At.pair T hjk hjn A.ep hq
     rw[Wv] at V9
     cases V9
     unfold CB at iK
     rw[hqw,lO] at iK
     rcases iK with h | ⟨xa,xb,ha,xJ,hun,Im⟩
     ·exfalso
      rw[uP hjk] at h
      exact A.desc j hjn (I.before j q UW hq hqw) h
     ·rw[hx] at ha
      cases ha
      refine⟨xb,xJ,fun e => ?_⟩
      have aoD:qi.cf.all (yS (st j).1)=true:=by
       rcases rH hvj with⟨h,_⟩ | ⟨_,h,_⟩
       ·rw[ZO] at h;cases h
       ·exact h
      have hk:=List.all_eq_true.1 aoD _ Im
      unfold yS at hk
      rw[EN T (Nat.le_of_lt hjk) (Nat.le_of_lt hjn) hun,e,hb] at hk
      simp at hk
  rw[key]
 ·exfalso
  rw[A.ok.op] at hp
  rcases qN hp with⟨g,as,rfl⟩ | ⟨g,as,rfl⟩
  ·simp only[eY] at lO
   split at lO<;>rcases lO with h | h<;>cases h
  ·rcases lO with h | h<;>cases h
end
end Go.PM
namespace Go.PM
section
variable {P:Program} {E:yQ} {n:Nat} {ops:Array Oper} {qW:List PI} {ps:List lT} {M:List Nat} {call:fL} {lo L0:Nat} {st:Nat→Env×aD}
 {m0:cS} {w0:World} {ds:List Deferred}
theorem Eg {H:aD} {b:Nat} (h:H.length≤b):¬Live H b:=fun hl=>by have:=hl.lt;omega
theorem VG {S:Nat→Prop} {m:cS} {c:Nat} {a:Act} {w:World} {k:Nat} {o:Oper} (T:Text P E n ops qW ps M call lo st) (lX:uB P L0 call) (gF:L0≤lo) (xX:L0≤(st 0).2.length)
  (zV:∀b,(st 0).2.length≤b→b<(st ops.size).2.length→m0 b=none) (I:pR E n ops ps lo L0 st m0 w0 ds S m c a w) (ho:ops[k]? = some o) (hkS:¬S k)
  (hr:∀e∈o.after.toList,Region.binds .any e=true→S e.on) {K:Act→World→Prop} {Q:Exit→Act→World→Prop}
  (hK:∀m' c' a' w',pR E n ops ps lo L0 st m0 w0 ds (fun i=>i=k∨S i) m' c' a' w'→K a' w'):wpOp P ops Q k K a w:=by
 have aX:k<ops.size:=(Array.getElem?_eq_some_iff.1 ho).1
 obtain⟨o',p,pi,W5,hp,To,Ci,TS,v,hv,he⟩:=T.at aX
 rw[ho] at W5
 cases W5
 have ho2:ops.toList[k]? = some o:=by simpa using ho
 have A:At P E n ops qW ps M S k o p pi:=⟨aX,ho,hp,To,Ci,TS,hkS,fun i hi=>T.Z5 I.back ho2 hr hi,fun i hi hS hb=>by
  have hio:ops.toList[i]? = some ops[i]:=by simp[hi]
  exact hkS (T.Z5 I.back hio (I.back i _ hio hS) hb)⟩
 have Rn:=A.reads I
 have aaA:=T.len (i:=0) (j:=c) (Nat.zero_le _) I.JH
 have aiL:=T.len (i:=c) (j:=ops.size) I.JH (Nat.le_refl _)
 have agP:=T.len (i:=0) (j:=k) (Nat.zero_le _) (Nat.le_of_lt aX)
 have apB:=T.len (i:=k+1) (j:=ops.size) aX (Nat.le_refl _)
 have anE:=T.agL aX
 have hfk:∀b,(st k).2.length≤b→b<(st (k+1)).2.length→m b=none:=by
  intro b h1 h2
  cases hm:m b with
  | none=>rfl
  |
   some l =>
   exfalso
   rcases I.UY b l hm with h3 | ⟨i,hiS,dA,hi1,HK⟩
   ·exact h3 (zV b (by omega) (by omega))
   ·rcases Nat.lt_trichotomy i k with h3 | h3 | h3
    ·have:=T.len (i:=i+1) (j:=k) h3 (Nat.le_of_lt aX)
     omega
    ·subst h3;exact hkS hiS
    ·have:=T.len (i:=k+1) (j:=i) h3 (Nat.le_of_lt dA)
     omega
 have OQ:(eY E p = .pure∨eY E p = .look)→wpOp P ops Q k K a w:=by
  intro lO
  have hq:pi.quiet=false:=by
   rw[TS.quiet]
   rcases lO with h | h<;>rw[h]
  have hw:eY E p ≠ .write:=by rcases lO with h | h<;>(rw[h];exact fun h=>by cases h)
  refine MI ho Ci (fun h=>by rw[hq] at h;cases h) (I.look T A zV lO hv) Rn I.rel gF (Nat.le_trans xX aaA) (fun b h1 h2=>by omega) lX fun m' rv w' Q8 hR hT => ?_
  rw[hq] at hT
  simp only[Bool.false_eq_true,if_false] at hT
  have hmm:m'=m:=by
   funext b
   cases hm:m b with
   | some l=>exact hT.ext b l hm
   |
    none =>
    cases hm':m' b with
    | none=>rfl
    | some l=>have:=(hT.new b l hm' hm).1;omega
  subst hmm
  refine hK m' c _ w' ⟨by rw[EU];exact I.D6,by rw[EH];exact I.defs,I.W0 A hr,I.Ly T A (fun _ _ h=>h) Q8 he,I.JH,fun i q h1 h2 h3 => .inr (I.before i q h1 h2 h3),?_,hR,?_,?_⟩
  ·intro h
   obtain⟨h1,q,h2,h3⟩:=I.atc h
   refine⟨fun hS=>hS.elim (fun e => ?_) h1,q,h2,h3⟩
   subst e
   rw[hp] at h2
   cases h2
   exact hw h3
  ·exact Trans.trans (fun b h1 h2=>zV b h1 (by omega)) (T.V4 (Nat.zero_le _) I.JH) (Ext.refl _ _) I.tr hT
  ·intro b l hb
   exact(I.UY b l hb).imp id fun⟨i,h1,h2⟩=>⟨i,.inr h1,h2⟩
 cases lO:eY E p with
 |
  write =>
  have hkc:k=c:=by
   rcases Nat.lt_trichotomy k c with h | h | h
   ·exact absurd (I.before k p h hp lO) hkS
   ·exact h
   ·exfalso
    obtain⟨ZV,pc,Yr,M8⟩:=I.atc (by omega)
    obtain⟨qi,_,iK⟩:=At.pair T h aX Yr hp
    unfold CB at iK
    rw[M8,lO] at iK
    simp only at iK
    rw[uP h] at iK
    exact ZV (A.Z5 c iK)
  subst hkc
  refine MI ho Ci (fun hq=>by rw[TS.quiet,lO] at hq;cases hq) hv Rn I.rel gF (Nat.le_trans xX aaA) hfk lX fun m' rv w' Q8 hR hT => ?_
  have hq:pi.quiet=false:=by rw[TS.quiet,lO]
  rw[hq] at hT
  simp only[Bool.false_eq_true,if_false] at hT
  obtain⟨c',hc1,X6,hc3,hc4⟩:=DD (fun i=>∃q,ps[i]? = some q∧eY E q = .write) _ (k+1) ops.size rfl aX
  have RU:∀b,b<(st (k+1)).2.length→(st c').2[b]? = (st (k+1)).2[b]? := T.same hc1 X6 fun i h1 h2 q hq hw=>hc3 i h1 h2 ⟨q,hq,hw⟩
  have aoA:=T.len hc1 X6
  have aiO:=T.len (i:=c') (j:=ops.size) X6 (Nat.le_refl _)
  have ahI:∀b l,m' b=some l→m0 b≠none∨∃i,(i=k∨S i)∧i<ops.size∧(st i).2.length≤b∧b<(st (i+1)).2.length:=by
   intro b l hb
   cases hm:m b with
   | some l'=>exact(I.UY b l' hm).imp id fun⟨i,h1,h2⟩=>⟨i,.inr h1,h2⟩
   | none=>exact .inr ⟨k,.inl rfl,aX,(hT.new b l hb hm).1⟩
  have adK:∀b,(st (k+1)).2.length≤b→b<(st c').2.length→m' b=none:=by
   intro b h1 h2
   cases hm:m' b with
   | none=>rfl
   |
    some l =>
    exfalso
    rcases ahI b l hm with h3 | ⟨i,hiS,dA,hi1,HK⟩
    ·exact h3 (zV b (by omega) (by omega))
    ·rcases Nat.lt_trichotomy i k with h3 | h3 | h3
     ·have:=T.len (i:=i+1) (j:=k) h3 (Nat.le_of_lt aX)
      omega
     ·subst h3;omega
     ·obtain⟨oi,qi,pii,_,Wv,_⟩:=T.at dA
      have:=I.late T h3 dA (hiS.resolve_left (by omega)) Wv
      rw[T.SN dA Wv this] at HK
      omega
  have hTT:Trans lo m0 (st 0).2 w0 m' (st (k+1)).2 w':=Trans.trans (fun b h1 h2=>zV b h1 (by omega)) (T.V4 (Nat.zero_le _) (Nat.le_of_lt aX)) (T.V4 (Nat.le_succ _) aX) I.tr hT
  refine hK m' c' _ w' ⟨by rw[EU];exact I.D6,by rw[EH];exact I.defs,I.W0 A hr,I.Ly T A hT.ext Q8 he,X6,?_,?_,hR.grow RU adK,?_,ahI⟩
  ·intro i q hi hq hw
   rcases Nat.lt_trichotomy i k with h | h | h
   ·exact .inr (I.before i q h hq hw)
   ·exact .inl h
   ·exact absurd ⟨q,hq,hw⟩ (hc3 i h hi)
  ·intro h
   obtain⟨q,hq,hw⟩:=hc4 h
   refine⟨fun hS => ?_,q,hq,hw⟩
   rcases hS with hS | hS
   ·omega
   ·rcases I.late T (by omega) h hS hq with h4 | h4<;>(rw[hw] at h4;cases h4)
  ·refine⟨hTT.ext,fun b l hb hn => ?_,hTT.size,hTT.eZ,hTT.same⟩
   obtain⟨⟨h1,h2⟩,h3⟩:=hTT.new b l hb hn
   refine⟨⟨h1,by omega⟩,?_⟩
   rcases h3 with h3 | h3 | h3
   ·exact .inl h3
   ·exact .inr (.inl fun hl=>h3 ((gZ (RU b h2)).1 hl))
   ·exact .inr (.inr h3)
 |
  quiet =>
  have hkc:k<c:=by
   rcases Nat.lt_or_ge k c with h | h
   ·exact h
   ·exfalso
    rcases Nat.lt_or_ge c k with h' | h'
    ·obtain⟨ZV,pc,Yr,M8⟩:=I.atc (by omega)
     obtain⟨qi,_,iK⟩:=At.pair T h' aX Yr hp
     unfold CB at iK
     rw[M8,lO] at iK
     simp only at iK
     rw[uP h'] at iK
     exact ZV (A.Z5 c iK)
    ·have:k=c:=by omega
     subst this
     obtain⟨_,pc,Yr,M8⟩:=I.atc aX
     rw[hp] at Yr
     cases Yr
     rw[lO] at M8
     cases M8
  have Tk:∀i,k<i→i<c→∀q,ps[i]? = some q→eY E q ≠ .write:=by
   intro i h1 h2 q hq hw
   have dA:i<ops.size:=Nat.lt_of_lt_of_le h2 I.JH
   obtain⟨qi,_,iK⟩:=At.pair T h1 dA hp hq
   unfold CB at iK
   rw[lO,hw] at iK
   simp only at iK
   rw[uP h1] at iK
   exact A.desc i dA (I.before i q h2 hq hw) iK
  have J9:∀b,b<(st (k+1)).2.length→(st c).2[b]? = (st (k+1)).2[b]? := T.same hkc I.JH fun i h1 h2 q hq=>Tk i h1 h2 q hq
  have Yi:∀b,b<(st k).2.length→(st c).2[b]? = (st k).2[b]? := T.same (Nat.le_of_lt hkc) I.JH fun i h1 h2 q hq=>by
   rcases Nat.lt_or_ge k i with h | h
   ·exact Tk i h h2 q hq
   ·have:i=k:=by omega
    subst this
    rw[hp] at hq
    cases hq
    rw[lO]
    exact fun h=>by cases h
  have aqO:=T.len (i:=k+1) (j:=c) hkc I.JH
  refine MI ho Ci (fun _=>lO) hv Rn (I.rel.restrict Yi) gF (Nat.le_trans xX agP) hfk lX fun m' rv w' Q8 hR hT => ?_
  have hq:pi.quiet=true:=by rw[TS.quiet,lO]
  rw[hq] at hT
  simp only[if_true] at hT
  have Kr:∀rb,rb<w.heap.size→w'.heap[rb]? = w.heap[rb]? := fun rb Bv=>hT.eZ rb Bv fun b l hb _ hl=>absurd hl (Eg hb)
  have qZ:∀b l,m' b=some l→m b=none→((st k).2.length≤b∧b<(st (k+1)).2.length)∧(w.heap.size≤l.rb∨¬Live (st (k+1)).2 b):=by
   intro b l h1 h2
   obtain⟨h3,h4⟩:=hT.new b l h1 h2
   refine⟨h3,?_⟩
   rcases h4 with h4 | h4 | ⟨b0,l0,g1,_,g3,_⟩
   ·exact .inl h4
   ·exact .inr h4
   ·exact absurd g3 (Eg g1)
  have afL:∀b l,m b=some l→l.rb<w.heap.size:=by
   intro b l hb
   obtain⟨arr,e,fz,h1,_⟩:=I.rel.valid b l hb
   exact(Array.getElem?_eq_some_iff.1 h1).1
  have Rw:∀rb j,rb<w.heap.size→w'.cell? ⟨rb,j,none⟩=w.cell? ⟨rb,j,none⟩:=by
   intro rb j Bv
   unfold World.cell?
   simp only[Kr rb Bv]
  have AW:∀b l,m' b=some l→(st (k+1)).2.length≤b→m b=some l:=by
   intro b l hb h
   cases hm:m b with
   | some l'=>have:=hT.ext b l' hm;rw[hb] at this;exact this.symm
   | none=>have:=(qZ b l hb hm).1.2;omega
  refine hK m' c _ w' ⟨by rw[EU];exact I.D6,by rw[EH];exact I.defs,I.W0 A hr,I.Ly T A hT.ext Q8 he,I.JH,fun i q h1 h2 h3 => .inr (I.before i q h1 h2 h3),?_,⟨hR.valid,?_,?_,?_⟩,?_,?_⟩
  ·intro h
   obtain⟨h1,q,h2,h3⟩:=I.atc h
   exact⟨fun hS=>hS.elim (fun e=>by omega) h1,q,h2,h3⟩
  ·intro b l cs e pp hm hb
   rcases Nat.lt_or_ge b (st (k+1)).2.length with h | h
   ·exact hR.row b l cs e pp hm (by rw[←J9 b h];exact hb)
   ·have hmo:=AW b l hm h
    obtain⟨h1,h2,h3,h4⟩:=I.rel.row b l cs e pp hmo hb
    refine⟨h1,h2,h3,fun i hi => ?_⟩
    obtain⟨rv',g1,g2,g3⟩:=h4 i hi
    exact⟨rv',by rw[Rw _ _ (afL b l hmo)];exact g1,g2.mono hT.ext,g3⟩
  ·intro b1 b2 l1 l2 Cw h1 h2 DJ Gy Bv
   have fresh:∀b b' l l',m' b=some l→m b=none→m b'=some l'→Live (st c).2 b→l.rb=l'.rb→False:=by
    intro b b' l l' g1 g2 g3 g4 g5
    obtain⟨⟨_,g6⟩,g7⟩:=qZ b l g1 g2
    rcases g7 with g7 | g7
    ·have:=afL b' l' g3;omega
    ·exact g7 ((gZ (J9 b g6)).1 g4)
   cases Ms:m b1 with
   |
    some l1' =>
    cases Ye:m b2 with
    |
     some l2' =>
     have e1:l1'=l1:=by have:=hT.ext b1 l1' Ms;rw[h1] at this;injection this with this;exact this.symm
     have e2:l2'=l2:=by have:=hT.ext b2 l2' Ye;rw[h2] at this;injection this with this;exact this.symm
     subst e1 e2
     exact I.rel.inj b1 b2 _ _ Cw Ms Ye DJ Gy Bv
    |
     none =>
     have e1:l1'=l1:=by have:=hT.ext b1 l1' Ms;rw[h1] at this;injection this with this;exact this.symm
     subst e1
     exact(fresh b2 b1 _ _ h2 Ye Ms Gy Bv.symm).elim
   |
    none =>
    cases Ye:m b2 with
    |
     some l2' =>
     have e2:l2'=l2:=by have:=hT.ext b2 l2' Ye;rw[h2] at this;injection this with this;exact this.symm
     subst e2
     exact(fresh b1 b2 _ _ h1 Ms Ye DJ Bv).elim
    |
     none =>
     have g1:=(qZ b1 l1 h1 Ms).1.2
     have g2:=(qZ b2 l2 h2 Ye).1.2
     exact hR.inj b1 b2 l1 l2 Cw h1 h2 ((gZ (J9 b1 g1)).1 DJ) ((gZ (J9 b2 g2)).1 Gy) Bv
  ·intro x hx
   refine⟨(hR.BK x hx).1,fun b l hb hm hl => ?_⟩
   obtain⟨⟨e0,fz0,q1⟩,q2⟩:=I.rel.BK x hx
   cases Ms:m b with
   |
    some l' =>
    have e1:l'=l:=by have:=hT.ext b l' Ms;rw[hm] at this;injection this with this;exact this.symm
    subst e1
    exact q2 b l' hb Ms hl
   |
    none =>
    obtain⟨⟨_,g6⟩,g7⟩:=qZ b l hm Ms
    rcases g7 with g7 | g7
    ·have:=(Array.getElem?_eq_some_iff.1 q1).1
     omega
    ·exact(g7 ((gZ (J9 b g6)).1 hl)).elim
  ·refine⟨fun b l hb=>hT.ext b l (I.tr.ext b l hb),fun b l hb hn => ?_,Nat.le_trans I.tr.size hT.size,fun rb Bv hk => ?_,hT.same.1.trans I.tr.same.1,hT.same.2.1.trans I.tr.same.2.1,hT.same.2.2.trans I.tr.same.2.2⟩
   ·cases hm:m b with
    |
     some l' =>
     have e1:l'=l:=by have:=hT.ext b l' hm;rw[hb] at this;injection this with this;exact this.symm
     subst e1
     exact I.tr.new b l' hm hn
    |
     none =>
     obtain⟨⟨g1,g2⟩,g3⟩:=qZ b l hb hm
     refine⟨⟨by omega,by omega⟩,?_⟩
     rcases g3 with g3 | g3
     ·exact .inl (Nat.le_trans I.tr.size g3)
     ·exact .inr (.inl fun hl=>g3 ((gZ (J9 b g2)).1 hl))
   ·rw[Kr rb (Nat.lt_of_lt_of_le Bv I.tr.size),I.tr.eZ rb Bv hk]
  ·intro b l hb
   cases hm:m b with
   | some l'=>exact(I.UY b l' hm).imp id fun⟨i,h1,h2⟩=>⟨i,.inr h1,h2⟩
   | none=>exact .inr ⟨k,.inl rfl,aX,(qZ b l hb hm).1⟩
 | pure=>exact OQ (.inl lO)
 | look=>exact OQ (.inr lO)
end
end Go.PM
namespace Go.PM
section
variable {P:Program} {E:yQ} {n:Nat} {call:fL} {lo L0:Nat}
theorem Trans.fresh {m m':cS} {H H1 H2:aD} {w w':World} (h:Trans lo m H w m' H1 w') (h1:H.length≤H1.length) (hf:∀b,H.length≤b→b<H2.length→m b=none):∀b,H1.length≤b→b<H2.length→m' b=none:=by
 intro b Cw YS
 cases hm:m' b with
 | none=>rfl
 |
  some l =>
  exfalso
  have hn:=hf b (by omega) YS
  have:=(h.new b l hm hn).1
  omega
structure Fm (n L0:Nat) (m:cS) (ρ:Env) (H:aD) (a:Act) (w:World):Prop where
 D6:a.tmps.size=n
 defs:a.defers=[]
 env:∀t,RV m (ρ t) (a.tmps.getD t undef)
 rel:Rel m L0 H w
theorem KP {p q:Nat→Bool}:∀ {l:List Nat} {i:Nat},(∀x∈l,q x=true→p x=true)→i∈l→p i=true→q i=false→l.countP q<l.countP p
 |
  x::l,i,h,hi,hp,hq=>by
  rw[List.countP_cons,List.countP_cons]
  have hle:l.countP q≤l.countP p:=List.countP_mono_left fun x hx=>h x (List.mem_cons_of_mem _ hx)
  rcases List.mem_cons.1 hi with rfl | hi
  ·rw[if_neg (by simp[hq]),if_pos hp];omega
  ·have:=KP (fun x hx=>h x (List.mem_cons_of_mem _ hx)) hi hp hq
   have:(if q x=true then 1 else 0)≤(if p x=true then 1 else 0):=by
    by_cases hqx:q x=true
    ·rw[if_pos hqx,if_pos (h x List.mem_cons_self hqx)];omega
    ·rw[if_neg hqx];omega
   omega
theorem Jj {listed:Array Bool} {k i:Nat} (hk:k<listed.size):(listed.setIfInBounds k true).getD i false=true↔(i=k∨listed.getD i false=true):=by
 rcases Nat.lt_or_ge i listed.size with h | h
 ·by_cases e:i=k
  ·subst e;simp[h]
  ·simp[h,e,Ne.symm e]
 ·have:i≠k:=by omega
  simp[h,this]
theorem Zs {ops:Array Oper} {qW:List PI} {ps:List lT} {M:List Nat} {st:Nat→Env×aD} {m0:cS} {w0:World} (T:Text P E n ops qW ps M call lo st) (lX:uB P L0 call) (gF:L0≤lo) (xX:L0≤(st 0).2.length)
  (zV:∀b,(st 0).2.length≤b→b<(st ops.size).2.length→m0 b=none) {Q:Exit→Act→World→Prop}
  (hQ:∀m' a' w',Fm n L0 m' (st ops.size).1 (st ops.size).2 a' w'→Trans lo m0 (st 0).2 w0 m' (st ops.size).2 w'→Q .normal a' w') :
  ∀(fuel:Nat) (listed:Array Bool) (m:cS) (c:Nat) (a:Act) (w:World),listed.size=ops.size→((List.range ops.size).countP fun i => !listed.getD i false)≤fuel →
  pR E n ops ps lo L0 st m0 w0 [] (fun i=>listed.getD i false=true) m c a w→wpAny P .any ops Q fuel listed a w:=by
 have fin:∀(listed:Array Bool) (m:cS) (c:Nat) (a:Act) (w:World),listed.size=ops.size→(Region.ready .any ops listed=[])→pR E n ops ps lo L0 st m0 w0 [] (fun i=>listed.getD i false=true) m c a w→Q .normal a w:=by
  intro listed m c a w hs hr I
  have all:∀i,i<ops.size→listed.getD i false=true:=by
   intro i
   induction i using Nat.strongRecOn with
   |
    _ i ih =>
    intro hi
    cases hl:listed.getD i false with
    | true=>rfl
    |
     false =>
     exfalso
     obtain⟨o,p,pi,ho,_,_,_,TS,_⟩:=T.at hi
     have:i∈Region.ready .any ops listed:=by
      rw[mem_ready]
      refine⟨?_,o,ho,fun e he hb => ?_⟩
      ·have QH:i<listed.size:=by omega
       simpa[QH] using hl
      ·have:=TS.back e (by simpa using he) hb
       exact ih e.on this (by omega)
     rw[hr] at this
     cases this
  have hcN:c=ops.size:=by
   rcases Nat.lt_or_ge c ops.size with h | h
   ·exact absurd (all c h) (I.atc h).1
   ·have:=I.JH;omega
  subst hcN
  exact hQ m a w ⟨I.D6,I.defs,fun t=>I.tm t ops.size (Nat.le_refl _) fun i o hi _=>⟨fun _=>Dt hi,fun h=>all i h⟩,I.rel⟩ I.tr
 intro fuel
 induction fuel with
 |
  zero =>
  intro listed m c a w hs hc I
  have hr:Region.ready .any ops listed=[]:=by
   rw[List.eq_nil_iff_forall_not_mem]
   intro i hi
   have AX:=mem_ready.1 hi
   obtain⟨h1,o,ho,_⟩:=AX
   have aX:i<ops.size:=(Array.getElem?_eq_some_iff.1 ho).1
   have h0:((List.range ops.size).countP fun i => !listed.getD i false)=0:=by omega
   rw[List.countP_eq_zero] at h0
   have:=h0 i (List.mem_range.2 aX)
   have QH:i<listed.size:=by omega
   simp[QH] at this h1
   rw[h1] at this
   cases this
  exact⟨hr,fin listed m c a w hs hr I⟩
 |
  succ fuel ih =>
  intro listed m c a w hs hc I
  refine⟨fun hr=>fin listed m c a w hs hr I,fun k hk => ?_⟩
  obtain⟨h1,o,ho,hb⟩:=mem_ready.1 hk
  have aX:k<ops.size:=(Array.getElem?_eq_some_iff.1 ho).1
  have hkl:k<listed.size:=by omega
  have hkf:listed.getD k false=false:=by simpa[hkl] using h1
  refine VG T lX gF xX zV I ho (by rw[hkf];exact fun h=>by cases h) (fun e he X8=>hb e (by simpa using he) X8) fun m' c' a' w' I'=>ih _ m' c' a' w' (by simpa using hs) ?_ ?_
  ·have:((List.range ops.size).countP fun i => !(listed.setIfInBounds k true).getD i false)<((List.range ops.size).countP fun i => !listed.getD i false):=by
    refine KP (i:=k) (fun x _ hx => ?_) (List.mem_range.2 aX) (by rw[hkf];rfl) ?_
    ·cases hlx:listed.getD x false with
     | false=>rfl
     |
      true =>
      have:=(Jj (i:=x) hkl).2 (.inr hlx)
      rw[this] at hx
      cases hx
    ·rw[(Jj hkl).2 (.inl rfl)];rfl
   omega
  ·have e:(fun i=>(listed.setIfInBounds k true).getD i false=true)=fun i=>i=k∨listed.getD i false=true:=by
    funext i
    exact propext (Jj hkl)
   rw[e]
   exact I'
theorem Rel.drew {m:cS} {H:aD} {w w':World} (h:Rel m L0 H w) (hw:w'.heap=w.heap):Rel m L0 H w':=by
 have hc:∀x,w'.cell? x=w.cell? x:=fun x=>by unfold World.cell?;rw[hw]
 refine⟨fun b l hb=>by rw[hw];exact h.valid b l hb,fun b l cs e p hm hb => ?_,h.inj,fun x hx=>⟨by rw[hw];exact(h.BK x hx).1,(h.BK x hx).2⟩⟩
 obtain⟨h1,h2,h3,h4⟩:=h.row b l cs e p hm hb
 refine⟨h1,h2,h3,fun i hi => ?_⟩
 rw[hc]
 exact h4 i hi
theorem Qj {id:Nat} {ops:Array Oper} {draw:Bool} {qW:List PI} (BW:P.follows .mixedOrders=true) (lX:uB P L0 call) (pD:pF call) (hp:wE P E n ops draw=some qW) {ρ aW:Env} {H H':aD}
  (hv:fX call lo qW ρ H=some (aW,H')) {m:cS} {a:Act} {w:World} (h:Fm n L0 m ρ H a w) (gF:L0≤lo) (hlen:L0≤H.length) (hf:∀b,H.length≤b→b<H'.length→m b=none) {Q:Exit→Act→World→Prop}
  (hQ:∀m' a' w',Fm n L0 m' aW H' a' w'→Trans lo m H w m' H' w'→Q .normal a' w'):(Code.region id ops draw).wp P Q a w:=by
 obtain⟨ps,M,Ci⟩:=Hu hp
 obtain⟨st,Yi,hsn,FM⟩:=EE hv
 have hN:qW.length=ops.size:=by rw[Ci.alH];simp
 rw[hN] at hsn
 cases draw with
 |
  true =>
  have T:Text P E n ops qW ps M call lo st:=⟨Ci,pD,FM⟩
  apply wp_region_any BW
  have e0:(st 0).1=ρ:=by rw[Yi]
  have e1:(st 0).2=H:=by rw[Yi]
  have e2:(st ops.size).1=aW:=by rw[hsn]
  have e3:(st ops.size).2=H':=by rw[hsn]
  obtain⟨c,hc1,X6,hc3,hc4⟩:=DD (fun i=>∃q,ps[i]? = some q∧eY E q = .write) _ 0 ops.size rfl (Nat.zero_le _)
  have RU:=T.same hc1 X6 fun i h1 h2 q hq hw=>hc3 i h1 h2 ⟨q,hq,hw⟩
  have aiL:=T.len hc1 X6
  have aiO:=T.len (i:=c) (j:=ops.size) X6 (Nat.le_refl _)
  have hgr:=h.rel.grow (by rw[←e1];exact RU) (fun b h1 h2=>hf b h1 (by rw[←e3];omega))
  have X2:∀i,(Array.replicate ops.size false).getD i false=true→False:=by
   intro i hi
   rcases Nat.lt_or_ge i ops.size with h | h<;>simp[h] at hi
  refine Zs (m0:=m) (w0:=w) T lX gF (by rw[e1];exact hlen) (by rw[e1,e3];exact hf) (by rw[e1,e2,e3];exact hQ) ops.size _ m c a _ (by simp) (Nat.le_trans List.countP_le_length (by simp)) ?_
  refine⟨h.D6,h.defs,fun i o _ hi=>(X2 i hi).elim,fun t j hj hw => ?_,X6,fun i q hi hq hw=>absurd ⟨q,hq,hw⟩ (hc3 i (Nat.zero_le _) hi),fun hc=>⟨fun h=>X2 _ h,hc4 hc⟩,hgr.drew rfl,?_,fun b l hb => .inl (by rw[hb];exact fun h=>by cases h)⟩
  ·have e:(st j).1 t=ρ t:=by
    rw[←e0]
    refine T.Mr (Nat.zero_le _) hj fun i oi _ HK hoi hd => ?_
    have Ot:ops.toList[i]? = some oi:=by simpa using hoi
    exact(X2 i ((hw i oi Ot hd).2 HK)).elim
   rw[e]
   exact h.env t
  ·rw[e1]
   refine⟨fun _ _ h=>h,fun b l hb hn=>(by rw[hb] at hn;cases hn),Nat.le_refl _,fun _ _ _=>rfl,rfl,rfl,rfl⟩
 |
  false =>
  apply wp_region
  have key:∀d i,ops.size-i=d→i≤ops.size→∀m1 a1 w1,Fm n L0 m1 (st i).1 (st i).2 a1 w1→L0≤(st i).2.length→(∀b,(st i).2.length≤b→b<H'.length→m1 b=none) →
    (∀m' a' w',Fm n L0 m' aW H' a' w'→Trans lo m1 (st i).2 w1 m' H' w'→Q .normal a' w')→wpOps P ops Q ((List.range ops.size).drop i) a1 w1:=by
   intro d
   induction d with
   |
    zero =>
    intro i hd hi m1 a1 w1 h1 _ _ hQ1
    have:i=ops.size:=by omega
    subst this
    rw[List.drop_eq_nil_of_le (by simp)]
    rw[hsn] at h1 hQ1
    exact hQ1 m1 a1 w1 h1 (Trans.refl _ _ _ _)
   |
    succ d ih =>
    intro i hd hi m1 a1 w1 h1 DJ hf1 hQ1
    have aX:i<ops.size:=by omega
    rw[List.drop_eq_getElem_cons (by simpa using aX),wpOps_cons]
    have ho:ops.toList[i]? = some ops[i]:=by simp[aX]
    obtain⟨p,pi,hp1,hp2,aaT,_,TS⟩:=Ci.each i _ ho
    have ZG:=FM i pi hp2
    obtain⟨v,Z7,hv2⟩:=vD ZG
    have hq:pi.quiet=false:=(TS rfl).1
    have hE1:=F1 pD ZG
    have hE2:Ext lo (st (i+1)).2 H':=by
     have:∀d j,ops.size-j=d→j≤ops.size→Ext lo (st j).2 H':=by
      intro d
      induction d with
      | zero =>
        intro j hd hj;have:j=ops.size:=by omega
        subst this;rw[hsn];exact Ext.refl _ _
      |
       succ d ih =>
       intro j hd hj
       have hjl:j<qW.length:=by omega
       exact(F1 pD (FM j qW[j] (List.getElem?_eq_getElem hjl))).trans (ih (j+1) (by omega) (by omega))
     exact this _ (i+1) rfl aX
    have Cv:(List.range ops.size)[i]'(by simpa using aX)=i:=by simp
    rw[Cv]
    refine MI (by simp[aX]) aaT (fun h=>by rw[hq] at h;cases h) Z7 (fun t _=>h1.env t) h1.rel gF DJ (fun b Cw YS=>hf1 b Cw (Nat.lt_of_lt_of_le YS hE2.len)) lX fun m' rv w' Q8 hR hT => ?_
    rw[hq] at hT
    simp only[Bool.false_eq_true,if_false] at hT
    refine ih (i+1) (by omega) aX m' _ w' ⟨by rw[EU];exact h1.D6,by rw[EH];exact h1.defs,fun t => ?_,hR⟩ (Nat.le_trans DJ hE1.len) (hT.fresh hE1.len hf1) fun m2 a2 w2 h2 hT2=>hQ1 m2 a2 w2 h2 (Trans.trans hf1 hE1 hE2 hT hT2)
    rw[hv2,aaT.dst]
    cases hd:ops[i].dst with
    | none=>exact(h1.env t).mono hT.ext
    |
     some d =>
     rw[NK (by rw[h1.D6];exact aaT.bound d hd)]
     show RV m' (if t=d then v else (st i).1 t) _
     by_cases e:t=d
     ·rw[if_pos e,if_pos e];exact Q8
     ·rw[if_neg e,if_neg e];exact(h1.env t).mono hT.ext
  have:=key ops.size 0 (by omega) (Nat.zero_le _) m a w (by rw[Yi];exact h) (by rw[Yi];exact hlen) (by rw[Yi];exact hf) (by rw[Yi];exact hQ)
  simpa using this
end
end Go.PM