/- Texts of a claim, in one: part 2. -/
import Derived.LoopN
import Derived.Test.YtodamlihdkalfaaGreatDoorKVa
set_option linter.unusedSimpArgs false
set_option linter.unusedVariables false
namespace Go.PM
section
variable {P:Program} {m:dH} {L0:Nat} {H:aD} {w:World}
theorem RL.const {zs:List Value} (h:zs.all jG=true):RL m zs zs :=
 ⟨rfl,fun j hj=>by
  have:=RV.const (m:=m) (List.all_eq_true.1 h _ (List.getElem_mem hj))
  simpa[List.getD_eq_getElem?_getD,List.getElem?_eq_getElem hj] using this⟩
theorem rK (n:Nat) (zs:List Value):(cQ n zs).length=n*zs.length:=by simp[cQ]
theorem tA (n:Nat) {zs:List Value} (h:zs.all jG=true) (h0:1≤zs.length):RL m (cQ n zs) (cQ n zs):=by
 refine⟨rfl,fun i hi => ?_⟩
 rw[rK] at hi
 have aV:i % zs.length<zs.length:=Nat.mod_lt _ h0
 have e:(cQ n zs).getD i undef=zs.getD (i % zs.length) undef:=by simp[cQ,List.getD_eq_getElem?_getD,hi]
 rw[e]
 exact(RL.const h).2 _ aV
theorem Nj (n:Nat) {zs:List Value} (h:zs.all fD=true) (h0:1≤zs.length):(cQ n zs).all fD=true:=by
 rw[List.all_eq_true]
 intro x hx
 obtain⟨i,_,rfl⟩:=List.mem_map.1 hx
 have aV:i % zs.length<zs.length:=Nat.mod_lt _ h0
 have:=List.all_eq_true.1 h _ (List.getElem_mem aV)
 simpa[List.getD_eq_getElem?_getD,List.getElem?_eq_getElem aV] using this
theorem Gs (z:Array Value) (n:Nat) (h0:1≤z.size):(madeCells z (n*z.size)).toList=cQ n z.toList:=by
 apply List.ext_getElem
 ·simp[madeCells,cQ]
 ·intro i h1 h2
  have aV:i % z.size<z.size:=Nat.mod_lt _ h0
  simp[madeCells,cQ,aV]
theorem Ev (z:Array Value) (n:Nat) (h0:1≤z.size):(Builtin.zeroCells z n).toList=cQ n z.toList:=by
 apply List.ext_getElem
 ·simp[Builtin.zeroCells,cQ]
 ·intro i h1 h2
  have aV:i % z.size<z.size:=Nat.mod_lt _ h0
  simp[Builtin.zeroCells,cQ,aV]
theorem WI {t:TypeId} {agg:Bool} {size nb lo:Nat} {z:List Value} (ht:kK P t=some (agg,size,z,nb)) (Fv:z.all fD=true) (PK:z.all jG=true) (hR:Rel m L0 H w) (hf:m H.length=none) :
  cF P (do pure (.value (←Instr.alloc t true (.tuple #[])))) L0 lo m H w (.pointer (some ⟨H.length,0,none⟩)) (H++[.row z z.length false]):=by
 obtain⟨i,d,zz,hi,hd,FO,rfl,rfl,rfl,rfl⟩:=gU ht
 have nC:(Instr.alloc t true (.tuple #[])).run P w = .ok (.pointer (some ⟨w.heap.size,0,none⟩)) (w.alloc (.cells zz.cells t)):=by
  simp[Instr.alloc,zeroValue,typeInfo,hi,FO,newVar,newRow]
 have hA:=tK hR hf (w':=w.alloc (.cells zz.cells t)) (arr:=zz.cells) (e:=t) (fz:=(0,0)) rfl ⟨rfl,rfl,rfl⟩ (cs:=aJ zz) (jA:=(aJ zz).length) (NL:=false)
  (by rw[eI];exact Nat.le_refl _) (fun i hi=>by
   have:=(RL.const (m:=m) PK).2 i hi
   rwa [←wY,fF]) Fv (fun j _ h=>by simp at h)
 exact cF.value nC (.ptr _ 0 _ (bP m _ _)) hA.1 (hA.2 lo)
theorem Wj {t:TypeId} {v r:Value} {lo:Nat} (hv:RV m v r) (hs:(aJ v).all fD=true) (hR:Rel m L0 H w) (hf:m H.length=none) :
  cF P (do pure (.value (←Instr.box t r))) L0 lo m H w (.pointer (some ⟨H.length,0,none⟩)) (H++[.row (aJ v) (aJ v).length false]):=by
 have nC:(Instr.box t r).run P w = .ok (.pointer (some ⟨w.heap.size,0,none⟩)) (w.alloc (.cells r.cells t)):=by
  simp[Instr.box,newVar,newRow]
 have hA:=tK hR hf (w':=w.alloc (.cells r.cells t)) (arr:=r.cells) (e:=t) (fz:=(0,0)) rfl ⟨rfl,rfl,rfl⟩ (cs:=aJ v) (jA:=(aJ v).length) (NL:=false)
  (by rw[eI,hv.aJ.1];exact Nat.le_refl _) (fun i hi=>by
   have:=hv.aJ.2 i hi
   rwa [←wY,fF]) hs (fun j _ h=>by simp at h)
 exact cF.value nC (.ptr _ 0 _ (bP m _ _)) hA.1 (hA.2 lo)
theorem UE {t:TypeId} {agg:Bool} {size nb lo:Nat} {z:List Value} {kl kc:IntKind} {l c:Int} (ht:iP P t=some (agg,size,z,nb)) (Fv:z.all fD=true) (PK:z.all jG=true) (Tf:size=z.length) (DF:1≤size)
  (hl:0≤l) (hlc:l≤c) (hb:c*nb≤281474976710656) (hc:c≤9223372036854775807) (hR:Rel m L0 H w) (hf:m H.length=none) :
  cF P (do pure (.value (←Instr.makeSlice t (.int kl l) (.int kc c)))) L0 lo m H w (.slice (some ⟨H.length,0,none⟩) l.toNat c.toNat) (H++[.row (cQ c.toNat z) z.length false]):=by
 obtain⟨e,hu,GU⟩:=iD ht
 obtain⟨i,d,zz,hi,hd,FO,rfl,rfl,rfl,rfl⟩:=gU GU
 have nC:=run_make (P:=P) w t e i zz hu hi FO kl kc l c hl hlc (by rw[Int.mul_comm];exact hb) hc
 have A0:i.size=zz.cells.size:=by rw[Tf,eI]
 rw[A0] at nC DF
 have Rf:(madeCells zz.cells (c.toNat*zz.cells.size)).toList=cQ c.toNat (aJ zz):=by rw[Gs _ _ DF,fF]
 have ajX:(madeCells zz.cells (c.toNat*zz.cells.size)).size=c.toNat*(aJ zz).length:=by rw[size_madeCells,eI]
 have UH:1≤(aJ zz).length:=by rw[←eI];exact DF
 have hA:=tK hR hf (w':=w.alloc (.cells (madeCells zz.cells (c.toNat*zz.cells.size)) e)) (arr:=madeCells zz.cells (c.toNat*zz.cells.size)) (e:=e) (fz:=(0,0)) rfl ⟨rfl,rfl,rfl⟩
  (cs:=cQ c.toNat (aJ zz)) (jA:=(aJ zz).length) (NL:=false) (by rw[ajX,rK];exact Nat.le_refl _) (fun j hj=>by
   have:=(tA (m:=m) c.toNat PK UH).2 j hj
   rwa [←wY,Rf]) (Nj _ Fv UH) (fun j _ h=>by simp at h)
 refine cF.value nC ?_ hA.1 (hA.2 lo)
 exact .slice _ 0 _ _ _ _ _ (bP m _ _) (by omega) (Nat.le_refl _) (fun _=>rfl) (.inr ⟨rfl,by simp only[ajX];omega⟩)
theorem XR {t:TypeId} {agg:Bool} {size nb lo n:Nat} {z cs:List Value} {parts:List (Nat×Operand)} {ρ:Env} {a:Act} (ht:iP P t=some (agg,size,z,nb)) (Fv:z.all fD=true) (PK:z.all jG=true) (Tf:size=z.length) (DF:1≤size) (hn:n*size≤16777216)
  (aaC:sU ((List.range n).map fun i=>(i*z.length,z.length)) (cQ n z) (parts.map fun(i,x)=>(i,ev ρ x))=some cs) (sE:cs.all fD=true) (hr:∀p∈parts,RV m (ev ρ p.2) (a.eval p.2))
  (hR:Rel m L0 H w) (hf:m H.length=none) :
  cF P (do pure (.value (←Instr.buildSlice t n (parts.toArray.map fun(i,x)=>(i,a.eval x))))) L0 lo m H w (.slice (some ⟨H.length,0,none⟩) n n) (H++[.row cs z.length false]):=by
 obtain⟨e,hu,GU⟩:=iD ht
 obtain⟨i,d,zz,hi,hd,FO,rfl,rfl,rfl,rfl⟩:=gU GU
 have A0:i.size=zz.cells.size:=by rw[Tf,eI]
 have UH:1≤(aJ zz).length:=by rw[←eI,←A0];exact DF
 have PS:∀j q,((List.range n).map fun i=>(i*(aJ zz).length,(aJ zz).length))[j]? = some q→(fun i'=>some (i'*i.size,i.size):Nat→Option (Nat×Nat)) j=some q:=by
  intro j q hj
  simp only[List.getElem?_map,Option.map_eq_some_iff] at hj
  obtain⟨k,hk,rfl⟩:=hj
  have Ve:=(List.getElem?_eq_some_iff.1 hk)
  obtain⟨hk1,Y2⟩:=Ve
  simp at Y2
  subst Y2
  rw[←Tf]
 have hz:RL m (cQ n (aJ zz)) ((Array.range (n*i.size)).map (zz.cells[· % zz.cells.size]!)).toList:=by
  have:=tA (m:=m) n PK UH
  rw[A0]
  have e1:=Gs zz.cells n (by rw[←A0];exact DF)
  rw[fF] at e1
  show RL m _ (madeCells zz.cells (n*zz.cells.size)).toList
  rw[e1]
  exact this
 obtain⟨Jv,h1,h2⟩:=Pq (m:=m) _ _ PS (parts.map fun(i,x)=>(i,ev ρ x)) (parts.map fun(i,x)=>(i,a.eval x)) _ _ cs
  (by simp[Function.comp_def]) (by simpa[Function.comp_def] using RL.map (l:=parts) (f:=fun p=>ev ρ p.2) (g:=fun p=>a.eval p.2) hr) hz aaC
 have hlen:cs.length=n*(aJ zz).length:=by rw[LU _ _ _ _ aaC,rK]
 have emap:(Array.map (fun x:Nat×Operand=>(x.1,a.eval x.2)) parts.toArray).toList=parts.map fun(i,x)=>(i,a.eval x):=by simp
 have RB:¬(2^24<n*i.size):=by omega
 have nC:(Instr.buildSlice t n (parts.toArray.map fun(i,x)=>(i,a.eval x))).run P w = .ok (.slice (some ⟨w.heap.size,0,none⟩) n n) (w.alloc (.cells Jv e)):=by
  have UR:Instr.fill (fun i'=>some (i'*i.size,i.size)) ((Array.range (n*i.size)).map (zz.cells[· % zz.cells.size]!)) (Array.map (fun x:Nat×Operand=>(x.1,a.eval x.2)) parts.toArray).toList=some Jv:=by rw[emap];exact h1
  by_cases X0:n*i.size=0
  ·rw[X0] at UR
   simp only[show ∀f:Nat→Value,(Array.range 0).map f = #[] from fun f=>by simp] at UR
   unfold Instr.buildSlice
   simp only[Sem.run_bind,run_underlying hu,Result.andThen_ok,run_sizeOf e i hi,X0,if_true,Sem.run_pure,show ¬(0>2^24) by omega,if_false]
   rw[show ∀f:Nat→Value,(Array.range 0).map f = #[] from fun f=>by simp]
   simp only[UR]
   simp[newRow]
  ·unfold Instr.buildSlice
   simp only[Sem.run_bind,run_underlying hu,Result.andThen_ok,run_sizeOf e i hi,X0,if_false,Sem.run_pure,gt_iff_lt,RB,zeroValue,typeInfo,run_program,hi,FO]
   simp only[UR]
   simp[newRow]
 have Ha:Jv.size=n*(aJ zz).length:=by rw[←hlen];simpa using h2.1.symm
 have hA:=tK hR hf (w':=w.alloc (.cells Jv e)) (arr:=Jv) (e:=e) (fz:=(0,0)) rfl ⟨rfl,rfl,rfl⟩ (cs:=cs) (jA:=(aJ zz).length) (NL:=false)
  (by rw[hlen,Ha];exact Nat.le_refl _) (fun j hj=>by rw[←wY];exact h2.2 j hj) sE (fun j _ h=>by simp at h)
 refine cF.value nC ?_ hA.1 (hA.2 lo)
 exact .slice _ 0 _ _ _ _ _ (bP m _ _) (Nat.le_refl _) (Nat.le_refl _) (fun _=>rfl) (.inr ⟨rfl,by simp only[Ha];omega⟩)
theorem Q5 (g:Value→ByteArray→Sem (ForInStep ByteArray)) (hg:∀n s,g (.int .u8 n) s=pure (ForInStep.yield (s.push (UInt8.ofNat n.toNat)))):∀(cs rs:List Value) (bs:List UInt8) (acc:ByteArray),RL m cs rs→rE cs=some bs→∀w,
  (forIn rs acc g).run P w = .ok ⟨(acc.data.toList++bs).toArray⟩ w:=by
 intro cs
 induction cs with
 |
  nil =>
  intro rs bs acc hr hb w
  have e0:rs=[]:=List.eq_nil_of_length_eq_zero hr.1.symm
  subst e0
  cases hb
  simp
 |
  cons c cs ih =>
  intro rs bs acc hr hb w
  cases rs with
  | nil=>exact absurd hr.1 (by simp)
  |
   cons r rs =>
   obtain⟨hc,TB⟩:=hr.iM
   unfold rE at hb
   split at hb
   ·rename_i heq;cases heq
   ·rename_i n rest heq
    cases heq
    cases hc
    cases h2:rE cs with
    | none=>rw[h2] at hb;cases hb
    |
     some bs' =>
     rw[h2] at hb
     cases hb
     simp only[List.forIn_cons,hg,Sem.run_bind,Sem.run_pure,Result.andThen_ok]
     rw[ih rs bs' _ TB h2 w]
     simp[ByteArray.push]
   ·cases hb
theorem Xe {s d e:TypeId} {rp:Value} {lo n b off c:Nat} {cs:List Value} {bs:List UInt8} (hs:P.underlying s=some (.slice e)) (hd:P.underlying d=some .string) (he:P.underlying e=some (.int .u8))
  (PN:H.read b off n=some cs) (hb:rE cs=some bs) (hR:Rel m L0 H w) (hp:RV m (.slice (some ⟨b,off,none⟩) n c) rp) :
  cF P (do pure (.value (←convert s d rp))) L0 lo m H w (.string ⟨bs.toArray⟩) H:=by
 cases hp with
 |
  slice _ _ _ _ l ra rc hm hn hc hx ha =>
  obtain⟨rs,h1,h2,_,h3⟩:=tW hR hm PN
  have akB:(loadCells ra n).run P w = .ok rs.toArray w:=by
   rcases ha with ha | ⟨rfl,ha⟩
   ·have h0:n=0:=by omega
    subst h0
    have e0:rs=[]:=List.eq_nil_of_length_eq_zero h2
    subst e0
    rfl
   ·rw[←h2]
    exact run_loadCells_list w _ rs h3
  refine cF.value (rv := .string ⟨bs.toArray⟩) (w':=w) (m':=m) ?_ (.str _) hR (Trans.refl lo m H w)
  simp only[convert,Sem.run_bind,run_underlying hs,run_underlying hd,Result.andThen_ok,run_underlying he,Conv.bytesToString,akB,←Array.forIn_toList]
  rw[Q5 (P:=P) (m:=m) _ (fun n s=>rfl) cs rs bs ByteArray.empty h1 hb w]
  simp
theorem Lj {t e:TypeId} {i:TypeInfo} (hu:P.underlying t=some (.slice e)) (hi:P.info? e=some i) {a:Option Addr} {n c:Nat} {lo nF mx:Option Value} {l h k:Nat}
  (hb:(Instr.sliceBounds true n c lo nF mx).run P w = .ok (l,h,k) w) :
  (Instr.sliceAt t (.slice a n c) lo nF mx).run P w = .ok (.slice (if k=l then a else a.map (·.add (l*i.size))) (h-l) (k-l)) w:=by
 have h1:(Instr.sliceAt t (.slice a n c) lo nF mx).run P w=(Instr.slice t (.slice a n c) lo nF mx).run P w:=by
  unfold Instr.sliceAt
  rw[Sem.run_bind,run_underlying hu,Result.andThen_ok]
 rw[h1]
 unfold Instr.slice
 rw[Sem.run_bind,run_underlying hu,Result.andThen_ok]
 simp[hb,run_sizeOf e i hi]
theorem XV {t e:TypeId} {i:TypeInfo} {lo:Nat} {x rx v:Value} {l h mx l' h' mx':Option Value} {H':aD} (hu:P.underlying t=some (.slice e)) (hi:P.info? e=some i)
  (hs:AU i.size x l h mx H=some (v,H')) (hx:RV m x rx) (hl:RO m l l') (hh:RO m h h') (hm:RO m mx mx') (hR:Rel m L0 H w) (hf:∀b,H.length≤b→b<H'.length→m b=none) :
  cF P (do pure (.value (←Instr.sliceAt t rx l' h' mx'))) L0 lo m H w v H':=by
 unfold AU at hs
 split at hs
 ·rename_i n c
  split at hs
  ·rename_i h0
   obtain⟨rfl,rfl⟩:=h0
   cases hx
   split at hs
   ·cases hs
   ·rename_i M hM
    split at hs
    ·cases hs
    ·rename_i hb hhb
     split at hs
     ·cases hs
     ·rename_i lb CN
      cases hs
      have key:∃k1 k2 k3,(Instr.sliceBounds true 0 0 l' h' mx').run P w = .ok (k1,k2,k3) w∧k1=0∧k2=0∧k3=0:=by
       rcases lZ (P:=P) hM hm with⟨rfl,rfl,e1⟩ | ⟨_,r1,rfl,rfl,q1,e1⟩<;>rcases lZ (P:=P) hhb hh with⟨_,rfl,e2⟩ | ⟨_,r2,_,rfl,q2,e2⟩<;>rcases lZ (P:=P) CN hl with⟨_,rfl,e3⟩ | ⟨_,r3,_,rfl,q3,e3⟩
       ·cases e1;cases e2;cases e3
        exact⟨0,0,0,rfl,rfl,rfl,rfl⟩
       ·cases e1;cases e2
        exact⟨lb,0,0,by simp[Instr.sliceBounds,e3 0 (Nat.le_refl _)],by omega,rfl,rfl⟩
       ·cases e1;cases e3
        exact⟨0,hb,0,by simp[Instr.sliceBounds,e2 0 (Nat.le_refl _)],rfl,by omega,rfl⟩
       ·cases e1
        exact⟨lb,hb,0,by simp[Instr.sliceBounds,e2 0 (Nat.le_refl _),e3 hb (Nat.le_refl _)],by omega,by omega,rfl⟩
       ·cases e2
       ·cases e2
       ·cases e3
        exact⟨0,hb,M,by simp[Instr.sliceBounds,e1 0 (Nat.le_refl _),e2 M (Nat.le_refl _)],rfl,by omega,by omega⟩
       ·exact⟨lb,hb,M,by simp[Instr.sliceBounds,e1 0 (Nat.le_refl _),e2 M (Nat.le_refl _),e3 hb (Nat.le_refl _)],by omega,by omega,by omega⟩
      obtain⟨k1,k2,k3,hk,rfl,rfl,rfl⟩:=key
      exact cF.value (Lj hu hi hk) (by simpa using RV.Nt) hR (Trans.refl lo m H w)
  ·cases hs
 ·rename_i b o n c
  cases hx with
  |
   slice _ _ _ _ lc ra rc QV hnc hcr hxp ha =>
   split at hs
   ·rename_i cells es p SM
    obtain⟨g1,g2,g3,g4⟩:=hR.row b lc cells es p QV SM
    split at hs
    ·rename_i JS
     subst JS
     split at hs
     ·cases hs
     ·rename_i M hM
      split at hs
      ·cases hs
      ·rename_i hb hhb
       split at hs
       ·cases hs
       ·rename_i lb CN
        have key:∃k3,(Instr.sliceBounds true n rc l' h' mx').run P w = .ok (lb,hb,k3) w∧lb≤hb∧hb≤M∧M≤c∧((mx=none∧k3=rc∧M=c)∨(mx.isSome=true∧k3=M)):=by
         rcases lZ (P:=P) hM hm with⟨rfl,rfl,e1⟩ | ⟨_,r1,rfl,rfl,q1,e1⟩<;>rcases lZ (P:=P) hhb hh with⟨_,rfl,e2⟩ | ⟨_,r2,_,rfl,q2,e2⟩<;>rcases lZ (P:=P) CN hl with⟨_,rfl,e3⟩ | ⟨_,r3,_,rfl,q3,e3⟩
         ·cases e1;cases e2;cases e3
          exact⟨rc,rfl,Nat.zero_le _,hnc,Nat.le_refl _,.inl ⟨rfl,rfl,rfl⟩⟩
         ·cases e1;cases e2
          exact⟨rc,by simp[Instr.sliceBounds,e3 n (Nat.le_refl _)],q3,hnc,Nat.le_refl _,.inl ⟨rfl,rfl,rfl⟩⟩
         ·cases e1;cases e3
          exact⟨rc,by simp[Instr.sliceBounds,e2 rc hcr],Nat.zero_le _,q2,Nat.le_refl _,.inl ⟨rfl,rfl,rfl⟩⟩
         ·cases e1
          exact⟨rc,by simp[Instr.sliceBounds,e2 rc hcr,e3 hb (Nat.le_refl _)],q3,q2,Nat.le_refl _,.inl ⟨rfl,rfl,rfl⟩⟩
         ·cases e2
         ·cases e2
         ·cases e3
          exact⟨M,by simp[Instr.sliceBounds,e1 rc hcr,e2 M (Nat.le_refl _)],Nat.zero_le _,q2,q1,.inr ⟨rfl,rfl⟩⟩
         ·exact⟨M,by simp[Instr.sliceBounds,e1 rc hcr,e2 M (Nat.le_refl _),e3 hb (Nat.le_refl _)],q3,q2,q1,.inr ⟨rfl,rfl⟩⟩
        obtain⟨k3,hk,hlh,hhM,hMc,Jr⟩:=key
        have nC:=Lj (a:=some ra) hu hi hk
        have place:k3-lb=0∨((if k3=lb then some ra else (some ra).map (·.add (lb*i.size)))=some (⟨lc.rb,lc.base+(o+lb*i.size),none⟩:Addr)∧lc.base+(o+lb*i.size)+(k3-lb)*lc.jA≤lc.MD):=by
         by_cases hz:k3-lb=0
         ·exact .inl hz
         ·right
          have hk3:k3≤rc:=by rcases Jr with⟨_,rfl,_⟩ | ⟨_,rfl⟩<;>omega
          rcases ha with ha | ⟨rfl,ha⟩
          ·omega
          ·rw[if_neg (by omega)]
           refine⟨by simp[Addr.add_lit,Nat.add_assoc],?_⟩
           rw[g1] at ha ⊢
           have e1:(k3-lb)*i.size=k3*i.size-lb*i.size:=Nat.sub_mul _ _ _
           have e2:lb*i.size≤k3*i.size:=Nat.mul_le_mul_right _ (by omega)
           have e3:k3*i.size≤rc*i.size:=Nat.mul_le_mul_right _ hk3
           omega
        obtain⟨ra',aiZ⟩:∃ra',(if k3=lb then some ra else (some ra).map (·.add (lb*i.size)))=some ra':=by split<;>exact⟨_,rfl⟩
        rw[aiZ] at nC
        have adN:k3-lb=0∨(ra'=⟨lc.rb,lc.base+(o+lb*i.size),none⟩∧lc.base+(o+lb*i.size)+(k3-lb)*lc.jA≤lc.MD):=by
         rcases place with hp | ⟨hp1,RP⟩
         ·exact .inl hp
         ·rw[aiZ] at hp1
          exact .inr ⟨by injection hp1,RP⟩
        split at hs
        ·rename_i amP
         cases hs
         obtain⟨aiN,hMl⟩:=amP
         rcases Jr with⟨rfl,_⟩ | ⟨_,rfl⟩
         ·cases aiN
         ·have hA:=U5 hR (hf H.length (Nat.le_refl _) (by simp)) QV i.size
          refine cF.value (rv := .slice (some ra') 0 0) (by rw[nC];congr 2<;>omega) ?_ hA.1 (hA.2 lo)
          exact .slice _ 0 0 0 _ _ 0 (bP m _ _) (Nat.le_refl _) (Nat.le_refl _) (fun _=>rfl) (.inl rfl)
        ·cases hs
         refine cF.value nC ?_ hR (Trans.refl lo m H w)
         refine .slice b _ _ _ lc _ _ QV (by omega) ?_ ?_ adN
         ·rcases Jr with⟨_,rfl,rfl⟩ | ⟨_,rfl⟩<;>omega
         ·intro ho
          have:=hxp ho
          rcases Jr with⟨_,rfl,rfl⟩ | ⟨_,rfl⟩<;>omega
    ·cases hs
   ·cases hs
 ·cases hs
end
end Go.PM
namespace Go.PM
section
variable {P:Program} {m:dH} {L0:Nat} {H:aD} {w:World}
theorem Qa {t:TypeId} {i:TypeInfo} {lo b o:Nat} {v r rp:Value} {H':aD} (hi:P.info? t=some i) (hp:RV m (.pointer (some ⟨b,o,none⟩)) rp) (hv:RV m v r) (hs:(aJ v).length=i.size)
  (hw:H.write lo b o (aJ v)=some H') (hR:Rel m L0 H w) (eJ:L0≤lo) :
  cF P (do Instr.storeAt t rp r;pure .skip) L0 lo m H w undef H':=by
 cases hp with
 |
  ptr _ _ l hm =>
  obtain⟨w',s1,s2,s3⟩:=BQ P hR eJ hm hw hv.aJ
  refine⟨undef,w',m,.inr ⟨?_,rfl⟩,RV.undef m,s2,s3⟩
  have A0:r.cells.size=i.size:=by rw[eI,←hv.aJ.1,hs]
  have h1:(Instr.storeAt t (.pointer (some ⟨l.rb,l.base+o,none⟩)) r).run P w = .ok () w':=by
   show (storeVar t ⟨l.rb,l.base+o,none⟩ r).run P w=_
   unfold storeVar
   simp only[Sem.run_bind,run_sizeOf t i hi,Result.andThen_ok,A0,ne_eq,not_true_eq_false,if_false,fF]
   exact s1
  rw[Sem.run_bind,h1]
  rfl
theorem FD {pv rv:Value} {k:Nat} (h:qD pv=some k) (hr:RV m pv rv):Builtin.lenOf rv=pure k:=by
 unfold qD at h
 split at h
 ·cases h;cases hr<;>rfl
 ·cases h;cases hr;rfl
 ·cases h
theorem Av (a b:Array Value) (xs:List Value) (h:a.toList=xs) (i:Nat) (hi:i<xs.length):(a++b).getD i undef=xs.getD i undef:=by
 subst h
 have:i<a.size:=by simpa using hi
 simp[Array.getD_eq_getD_getElem?,Array.getElem?_append_left this,List.getD_eq_getElem?_getD]
theorem WT {t u ty:TypeId} {agg:Bool} {size bytes lo k:Nat} {z:List Value} {d:TypeDesc} {x y rx ry v:Value} {new:List Value} {H':aD} (ht:iP P t=some (agg,size,z,bytes)) (hu:P.underlying u=some d) (hd:I7 d=true)
  (hk:qD y=some k) (yZ:iA H size k y=some new) (qI:dV lo size bytes x k new H=some (v,H')) (hx:RV m x rx) (hy:RV m y ry) (Tf:size=z.length)
  (hR:Rel m L0 H w) (eJ:L0≤lo) (hf:∀b,H.length≤b→b<H'.length→m b=none) :
  cF P (do pure (.value (←Builtin.append_ #[t,u] ty #[rx,ry]))) L0 lo m H w v H':=by
 obtain⟨e,GU,MU⟩:=iD ht
 obtain⟨i,de,zz,hi,_,FO,rfl,rfl,rfl,rfl⟩:=gU MU
 obtain⟨nJ,h1,h2,h3⟩:=Gz yZ hk (Nat.le_refl _) hR hy
 have hl:=FD hk hy
 have CI:1≤i.bytes:=by
  unfold dV at qI
  split at qI
  ·rename_i h;exact h.1
  ·cases qI
 have Vk:new.length=k*i.size:=by
  unfold dV at qI
  split at qI
  ·rename_i h;exact h.2.2.2
  ·cases qI
 obtain⟨rv,w',m',g1,g2,g3,g4⟩:=Gi (P:=P) (s:=Builtin.append_ #[t,u] ty #[rx,ry]) (e:=e) qI hR eJ hx h1 hf
  (fun a n c w' DM AG J0=>by
   subst DM
   exact Mg GU hu hd hi hl (h3 w rfl) AG J0)
  (fun DM hk0=>by
   subst DM
   subst hk0
   exact PG GU hu hd hi hl (h3 w rfl))
  (fun base n c AS DM Wd iW hg hb=>by
   subst DM
   refine⟨grownCap w (n+k) c e,_,grownCap_ge w _ _ _,LD GU hu hd hi FO hl Wd (h3 w.drew rfl) hg CI hb,?_,?_⟩
   ·have CC:=grownCap_ge w (n+k) c e
    have yS:nJ.length=k*i.size:=by rw[←h1.1,Vk]
    simp only[Array.size_append,List.size_toArray,size_zeroCells,iW,yS]
    rw[←eI] at Tf
    rw[←Tf,←Nat.add_mul,←Nat.add_mul]
    congr 1
    omega
   ·intro j hj
    exact Av _ _ _ (by simp) j hj)
 exact cF.value g1 g2 g3 g4
section
variable {t u ty e:TypeId} {ku:IntKind} {i:TypeInfo} {zz:Value} {k:Nat}
theorem D8 {k:Nat} (h:k≤140737488355328):IntKind.i64.wrap (k:Int)=(k:Int):=by rw[IntKind.wrap_i64];omega
theorem JW (ht:P.underlying t=some (.slice e)) (hu:P.underlying u=some (.int ku)) (hi:P.info? e=some i) (FO:i.zero=some zz) (hk:k≤140737488355328) (hkb:k*i.bytes≤140737488355328)
  {a:Addr} {n c:Nat} {w':World} (AG:n+k≤c) (hz:k*i.size=0→Builtin.zeroCells zz.cells k = #[]) (J0:(storeCells (a.add (n*i.size)) (Builtin.zeroCells zz.cells k).toList).run P w = .ok () w') :
  (Builtin.append_ #[t,u] ty #[.slice (some a) n c,.int .i64 k]).run P w = .ok (.slice (some a) (n+k) c) w':=by
 have h0:¬((k:Int)<0):=by omega
 have hb:¬(281474976710656<(k:Int)*(i.bytes:Int)):=by rw[←Int.natCast_mul];omega
 by_cases DF:k*i.size=0
 ·rw[hz DF] at J0
  simp[Builtin.append_,run_underlying ht,run_underlying hu,run_sizeOf e i hi,asInt,asIntOf,D8 hk,typeInfo,hi,h0,hb,AG,DF,J0]
 ·simp[Builtin.append_,run_underlying ht,run_underlying hu,run_sizeOf e i hi,asInt,asIntOf,D8 hk,typeInfo,hi,h0,hb,AG,DF,zeroValue,FO,J0]
theorem MM (ht:P.underlying t=some (.slice e)) (hu:P.underlying u=some (.int ku)) (hi:P.info? e=some i) :
  (Builtin.append_ #[t,u] ty #[.slice none 0 0,.int .i64 (0:Nat)]).run P w = .ok (.slice none 0 0) w:=by
 have hw:IntKind.i64.wrap 0=0:=rfl
 simp[Builtin.append_,run_underlying ht,run_underlying hu,run_sizeOf e i hi,asInt,asIntOf,hw,typeInfo,hi]
theorem J9 (ht:P.underlying t=some (.slice e)) (hu:P.underlying u=some (.int ku)) (hi:P.info? e=some i) (FO:i.zero=some zz) (hk:k≤140737488355328) (hkb:k*i.bytes≤140737488355328)
  {base:Option Addr} {n c:Nat} {AS:List Value} (Wd:(Builtin.firstCells i.size n (.slice base n c)).run P w.drew = .ok AS.toArray w.drew) (hz:k*i.size=0→Builtin.zeroCells zz.cells k = #[])
  (hg:c<n+k) (CI:1≤i.bytes) (Iy:(n+k)*i.bytes≤140737488355328) :
  (Builtin.append_ #[t,u] ty #[.slice base n c,.int .i64 k]).run P w = .ok (.slice (some ⟨w.heap.size,0,none⟩) (n+k) (grownCap w (n+k) c e))
   (w.drew.alloc (.cells (AS.toArray++Builtin.zeroCells zz.cells k++Builtin.zeroCells zz.cells (grownCap w (n+k) c e-(n+k))) e)):=by
 have qK:=growslice_fits (bytes:=i.bytes) hg Iy
 have h0:¬((k:Int)<0):=by omega
 have hb:¬(281474976710656<(k:Int)*(i.bytes:Int)):=by rw[←Int.natCast_mul];omega
 have h1:¬(n+k≤c):=by omega
 have h2:¬(281474976710656<Builtin.nextslicecap (n+k) c*i.bytes):=by omega
 have h4:n+k≤140737488355328:=Nat.le_trans (Nat.le_mul_of_pos_right _ CI) Iy
 have h3:¬(9223372036854775807<(n:Int)+(k:Int)):=by omega
 by_cases DF:k*i.size=0
 ·have e0:=hz DF
  simp[Builtin.append_,run_underlying ht,run_underlying hu,run_sizeOf e i hi,asInt,asIntOf,D8 hk,typeInfo,hi,h0,hb,h1,h2,h3,e0,zeroValue,FO,Question.forced,Wd,newRow,grownCap]
 ·simp[Builtin.append_,run_underlying ht,run_underlying hu,run_sizeOf e i hi,asInt,asIntOf,D8 hk,typeInfo,hi,h0,hb,h1,h2,h3,DF,zeroValue,FO,Question.forced,Wd,newRow,grownCap]
end
theorem U2 {t u ty:TypeId} {agg:Bool} {size bytes lo:Nat} {z:List Value} {ku:IntKind} {n:Int} {x rx v:Value} {H':aD} (ht:iP P t=some (agg,size,z,bytes)) (hu:P.underlying u=some (.int ku))
  (hn:0≤n∧n*bytes≤140737488355328) (qI:dV lo z.length bytes x n.toNat (cQ n.toNat z) H=some (v,H')) (hx:RV m x rx) (Tf:size=z.length) (Fv:z.all fD=true) (PK:z.all jG=true) (DF:1≤z.length)
  (hR:Rel m L0 H w) (eJ:L0≤lo) (hf:∀b,H.length≤b→b<H'.length→m b=none) :
  cF P (do pure (.value (←Builtin.append_ #[t,u] ty #[rx,.int .i64 n]))) L0 lo m H w v H':=by
 obtain⟨e,GU,MU⟩:=iD ht
 obtain⟨i,de,zz,hi,_,FO,rfl,rfl,rfl,rfl⟩:=gU MU
 obtain⟨k,rfl⟩:=Int.eq_ofNat_of_zero_le hn.1
 simp only[Int.toNat_natCast] at qI
 have CI:1≤i.bytes:=by
  unfold dV at qI
  split at qI
  ·rename_i h;exact h.1
  ·cases qI
 have hkb:k*i.bytes≤140737488355328:=by have:=hn.2;omega
 have hk:k≤140737488355328:=Nat.le_trans (Nat.le_mul_of_pos_right _ CI) hkb
 have A0:i.size=zz.cells.size:=by rw[Tf,eI]
 have UH:1≤zz.cells.size:=by rw[eI];exact DF
 have pO:(Builtin.zeroCells zz.cells k).toList=cQ k (aJ zz):=by rw[Ev _ _ UH,fF]
 have ajF:k*i.size=0→Builtin.zeroCells zz.cells k = #[]:=by
  intro h0
  apply Array.ext'
  rw[pO]
  exact List.eq_nil_of_length_eq_zero (by rw[rK,←Tf];exact h0)
 obtain⟨rv,w',m',g1,g2,g3,g4⟩:=Gi (P:=P) (s:=Builtin.append_ #[t,u] ty #[rx,.int .i64 k]) (e:=e) (nJ:=cQ k (aJ zz)) qI hR eJ hx (tA k PK DF) hf
  (fun a n c w' DM AG J0=>by
   subst DM
   exact JW GU hu hi FO hk hkb AG ajF (by rw[pO,Tf];exact J0))
  (fun DM hk0=>by
   subst DM
   subst hk0
   exact MM GU hu hi)
  (fun base n c AS DM Wd iW hg hb=>by
   subst DM
   refine⟨grownCap w (n+k) c e,_,grownCap_ge w _ _ _,J9 GU hu hi FO hk hkb (by rw[Tf];exact Wd) ajF hg CI hb,?_,?_⟩
   ·have CC:=grownCap_ge w (n+k) c e
    simp only[Array.size_append,List.size_toArray,size_zeroCells,iW,eI]
    rw[←Nat.add_mul,←Nat.add_mul]
    congr 1
    omega
   ·intro j hj
    exact Av _ _ _ (by simp[pO]) j hj)
 exact cF.value g1 g2 g3 g4
theorem TP {t ty:TypeId} {ts:List TypeId} {agg:Bool} {size bytes lo b o d c k:Nat} {z new:List Value} {y rx ry:Value} {H':aD} (ht:iP P t=some (agg,size,z,bytes))
  (hk:qD y=some k) (yZ:iA H size (Nat.min k d) y=some new) (hw:H.write lo b o new=some H') (hx:RV m (.slice (some ⟨b,o,none⟩) d c) rx) (hy:RV m y ry)
  (hR:Rel m L0 H w) (eJ:L0≤lo) :
  cF P (do pure (.value (←Builtin.copy_ (t::ts).toArray ty #[rx,ry]))) L0 lo m H w (.int .i64 (Nat.min k d)) H':=by
 obtain⟨e,GU,MU⟩:=iD ht
 obtain⟨i,de,zz,hi,_,FO,rfl,rfl,rfl,rfl⟩:=gU MU
 obtain⟨nJ,h1,h2,h3⟩:=Gz (P:=P) yZ hk (Nat.min_le_left _ _) hR hy
 have hl:=FD hk hy
 cases hx with
 |
  slice _ _ _ _ l ra rc hm hn hc hxp ha =>
  rcases ha with ha | ⟨rfl,ha⟩
  ·have Bx:d=0:=by omega
   subst Bx
   have ZH:Nat.min k 0=0:=Nat.min_zero k
   rw[ZH] at yZ h3 ⊢
   have pO:new=[]:=by
    have:nJ.length=new.length:=h1.1.symm
    unfold iA at yZ
    split at yZ
    ·obtain⟨_,_,_,_,_,_,hlen⟩:=Lx yZ
     exact List.eq_nil_of_length_eq_zero (by simpa using hlen)
    ·split at yZ
     ·cases yZ;rfl
     ·cases yZ
    ·split at yZ
     ·cases yZ;simp
     ·cases yZ
    ·cases yZ
   subst pO
   have hrn:nJ=[]:=List.eq_nil_of_length_eq_zero h1.1.symm
   subst hrn
   have hHH:H'=H:=by
    obtain⟨cs,e',p',q1,q2,q3,q4,rfl⟩:=zP hw
    apply List.ext_getElem?
    intro j
    by_cases hj:b=j
    ·subst hj
     rw[List.getElem?_set_self (List.getElem?_eq_some_iff.1 q1).1,q1]
     simp[gS]
    ·rw[List.getElem?_set_ne hj]
   rw[hHH]
   refine cF.value (rv := .int .i64 0) (w':=w) ?_ (.int _ _) hR (Trans.refl lo m _ w)
   have hf0:=h3 w rfl
   simp[Builtin.copy_,run_underlying GU,hl,run_sizeOf e i hi,goInt,hf0,storeCells]
  ·obtain⟨w',s1,s2,s3⟩:=BQ P hR eJ hm hw h1
   refine cF.value (rv := .int .i64 (Nat.min k d)) ?_ (.int _ _) s2 s3
   have hf0:=h3 w rfl
   unfold Builtin.copy_
   simp only[List.getElem?_toArray,List.getElem?_cons_zero,List.getElem?_cons_succ,Sem.run_bind,run_underlying GU,Result.andThen_ok,hl,Sem.run_pure,run_sizeOf e i hi]
   rw[hf0]
   simp only[Result.andThen_ok,s1,goInt]
theorem Ry {t ty e:TypeId} {ts:List TypeId} {i:TypeInfo} {zz:Value} {lo b o n c:Nat} {rx:Value} {H':aD} (GU:P.underlying t=some (.slice e)) (hi:P.info? e=some i) (FO:i.zero=some zz)
  (X0:n≠0) (hw:H.write lo b o (cQ n (aJ zz))=some H') (hx:RV m (.slice (some ⟨b,o,none⟩) n c) rx) (PK:(aJ zz).all jG=true) (DF:1≤(aJ zz).length) (hR:Rel m L0 H w) (eJ:L0≤lo) :
  cF P (do pure (.value (←Builtin.clear_ (t::ts).toArray ty #[rx]))) L0 lo m H w undef H':=by
 cases hx with
 |
  slice _ _ _ _ l ra rc hm hn hc hxp ha =>
  rcases ha with ha | ⟨rfl,ha⟩
  ·omega
  ·obtain⟨w',s1,s2,s3⟩:=BQ P hR eJ hm hw (tA n PK DF)
   have pO:(Builtin.zeroCells zz.cells n).toList=cQ n (aJ zz):=by rw[Ev _ _ (by rw[eI];exact DF),fF]
   refine cF.value (rv:=undef) ?_ (RV.undef m) s2 s3
   rw[←pO] at s1
   obtain⟨n',rfl⟩:∃n',n=n'+1:=⟨n-1,by omega⟩
   simp[Builtin.clear_,run_underlying GU,zeroValue,typeInfo,hi,FO,s1,undef]
theorem GV {t ty e:TypeId} {ts:List TypeId} {lo c:Nat} {a:Option Addr} {rx:Value} (GU:P.underlying t=some (.slice e)) (hx:RV m (.slice a 0 c) rx) (hR:Rel m L0 H w) :
  cF P (do pure (.value (←Builtin.clear_ (t::ts).toArray ty #[rx]))) L0 lo m H w undef H:=by
 refine cF.value (rv:=undef) (w':=w) ?_ (RV.undef m) hR (Trans.refl lo m _ w)
 cases hx<;>simp[Builtin.clear_,run_underlying GU,undef]
end
end Go.PM
namespace Go.PM
section
variable {P:Program} {m:dH} {L0:Nat} {H:aD} {w:World}
theorem BB {po:lL} {ρ:Env} {v:Value} {H':aD} (h:(gR po ρ).map (Out.val · H)=some (.val v H')):gR po ρ=some v∧H'=H:=by
 cases hp:gR po ρ with
 | none=>rw[hp] at h;cases h
 | some u=>rw[hp] at h;cases h;exact⟨rfl,rfl⟩
def rG:lL→Bool
 | .load .. | .sub .. | .b2s _ | .new _ | .box _ | .make .. | .lit .. | .call .. | .store .. | .app .. | .appz .. | .copy .. | .clear .. | .callv .. => false
 | _=>true
theorem uS {lo:Nat} {po:lL} {ρ:Env} (h:rG po=true):pop lo po ρ H=(gR po ρ).map (.val · H):=by
 cases po<;>first | rfl | cases h
theorem OE {pv rv:Value} {k:Nat} (size:Nat) (h:qD pv=some k) (hr:RV m pv rv):(Builtin.firstCells size 0 rv).run P w = .ok #[] w:=by
 unfold qD at h
 split at h
 ·cases hr
  ·rfl
  ·simp only[Builtin.firstCells,Nat.zero_mul]
   rfl
 ·cases hr
  simp[Builtin.firstCells]
 ·cases h
theorem S9 {o:Oper} {po:lL} {ρ:Env} {a:Act} {lo:Nat} {v:Value} {H':aD} (hp:nK P o.op=some po) (hv:pop lo po ρ H=some (.val v H')) (hr:∀x∈o.op.operands,RV m (ev ρ x) (a.eval x))
  (hR:Rel m L0 H w) (eJ:L0≤lo) (hf:∀b,H.length≤b→b<H'.length→m b=none):cF P (execOp a.eval o) L0 lo m H w v H':=by
 by_cases gZ:rG po=true
 ·rw[uS gZ] at hv
  obtain⟨h1,rfl⟩:=BB hv
  obtain⟨rv,h2,h3⟩:=VF hp h1 hr
  exact⟨rv,w,m,.inl (h3 w),h2,hR,Trans.refl lo m _ w⟩
 obtain⟨dst,op,type,pos,after,guard⟩:=o
 unfold nK at hp
 simp only at hp hr ⊢
 split at hp
 case isFalse=>cases hp
 cases op with
 | move x=>cases hp;exact absurd rfl gZ
 | assign x=>cases hp;exact absurd rfl gZ
 | pick c x y=>cases hp;exact absurd rfl gZ
 |
  binOp op t x y yt =>
  unfold Ah at hp
  simp only at hp
  split at hp
  ·cases hp;exact absurd rfl gZ
  ·cases hp;exact absurd rfl gZ
  ·split at hp<;>first | (cases hp;done) | (cases hp;exact absurd rfl gZ)
  ·split at hp<;>first | (cases hp;done) | (split at hp<;>first | (cases hp;done) | (cases hp;exact absurd rfl gZ))
  ·split at hp<;>first | (cases hp;done) | (cases hp;exact absurd rfl gZ)
  ·cases hp
 | unOp op t x=>cases hp;exact absurd rfl gZ
 | extract x i=>cases hp;exact absurd rfl gZ
 |
  convert s d x =>
  have hx:=hr x (by simp[Op.operands])
  simp only at hp
  split at hp
  ·cases hp;exact absurd rfl gZ
  ·cases hp;exact absurd rfl gZ
  ·rename_i e hs hd
   split at hp
   ·rename_i he
    cases hp
    simp only[pop] at hv
    split at hv
    ·rename_i n c U6
     cases hv
     rw[U6] at hx
     show cF P (do pure (.value (←convert s d (a.eval x)))) L0 lo m H w _ H
     generalize a.eval x=rx at hx ⊢
     cases hx
     refine cF.value (rv := .string ByteArray.empty) ?_ (.str _) hR (Trans.refl lo m _ w)
     simp[convert,run_underlying hs,run_underlying hd,run_underlying he,Conv.bytesToString]
    ·rename_i b o n c U6
     split at hv
     ·rename_i cs TB
      cases hb:rE cs with
      | none=>rw[hb] at hv;cases hv
      |
       some bs =>
       rw[hb] at hv
       cases hv
       rw[U6] at hx
       exact Xe hs hd he TB hb hR hx
     ·cases hv
    ·cases hv
   ·cases hp
  ·cases hp
 |
  field t x i =>
  simp only at hp
  split at hp
  ·split at hp
   ·rename_i f hf'
    cases ht:kK P f.type with
    | none=>rw[ht] at hp;cases hp
    | some q=>rw[ht] at hp;cases hp;exact absurd rfl gZ
   ·cases hp
  ·cases hp
 |
  build t parts =>
  simp only at hp
  split at hp
  ·split at hp
   ·split at hp
    ·cases hp;exact absurd rfl gZ
    ·cases hp
   ·cases hp
  ·cases hp
 | nilCheck x=>cases hp;exact absurd rfl gZ
 |
  fieldAddr t x i =>
  simp only at hp
  split at hp
  ·split at hp
   ·split at hp
    ·split at hp
     ·cases hp
     ·cases hp;exact absurd rfl gZ
    ·cases hp
   ·cases hp
  ·cases hp
 |
  indexAddr t x i =>
  simp only at hp
  cases ht:iP P t with
  | none=>rw[ht] at hp;cases hp
  | some q=>rw[ht] at hp;cases hp;exact absurd rfl gZ
 |
  index t x i =>
  simp only at hp
  split at hp
  ·cases hp;exact absurd rfl gZ
  ·cases hp
 |
  slice t x iZ hi mx =>
  have hx:=hr x (by simp[Op.operands])
  simp only at hp
  split at hp
  ·split at hp
   ·cases hp;exact absurd rfl gZ
   ·cases hp
  ·rename_i e hu
   cases ht:kK P e with
   | none=>rw[ht] at hp;cases hp
   |
    some q =>
    obtain⟨agg,size,z,nb⟩:=q
    rw[ht] at hp
    cases hp
    obtain⟨i,d,zz,nF,_,_,rfl,rfl,rfl,rfl⟩:=gU ht
    simp only[pop] at hv
    cases hs:AU i.size (ev ρ x) (iZ.map (ev ρ)) (hi.map (ev ρ)) (mx.map (ev ρ)) H with
    | none=>rw[hs] at hv;cases hv
    |
     some q =>
     obtain⟨u,H1⟩:=q
     rw[hs] at hv
     cases hv
     exact XV hu nF hs hx (RO.map fun y hy=>hr y (by simp[Op.operands,hy])) (RO.map fun y hy=>hr y (by simp[Op.operands,hy])) (RO.map fun y hy=>hr y (by simp[Op.operands,hy])) hR hf
  ·cases hp
 |
  makeFunc fn first fC =>
  cases fn with
  |
   func f =>
   simp only at hp
   split at hp
   ·cases hp;exact absurd rfl gZ
   ·cases hp
  | _=>cases hp
 | makeInterface t x=>cases hp;exact absurd rfl gZ
 | panic x=>cases hp;exact absurd rfl gZ
 |
  load t p =>
  have hx:=hr p (by simp[Op.operands])
  simp only at hp
  cases ht:kK P t with
  | none=>rw[ht] at hp;cases hp
  |
   some q =>
   obtain⟨agg,size,z,nb⟩:=q
   rw[ht] at hp
   cases hp
   simp only[pop] at hv
   cases hl:lU agg size (ev ρ p) H with
   | none=>rw[hl] at hv;cases hv
   |
    some u =>
    rw[hl] at hv
    cases hv
    obtain⟨rv,h1,h2⟩:=Ly ht hl hR hx
    exact cF.value h2 h1 hR (Trans.refl lo m _ w)
 |
  store t p x =>
  have hpp:=hr p (by simp[Op.operands])
  have hx:=hr x (by simp[Op.operands])
  simp only at hp
  cases ht:P.info? t with
  | none=>rw[ht] at hp;cases hp
  |
   some i =>
   rw[ht] at hp
   cases hp
   simp only[pop] at hv
   split at hv
   ·rename_i b o hpo
    split at hv
    ·rename_i hs
     cases hw:H.write lo b o (aJ (ev ρ x)) with
     | none=>rw[hw] at hv;cases hv
     |
      some H1 =>
      rw[hw] at hv
      cases hv
      rw[hpo] at hpp
      exact Qa ht hpp hx hs hw hR eJ
    ·cases hv
   ·cases hv
 |
  alloc t =>
  simp only at hp
  split at hp
  ·rename_i agg size z nb ht
   split at hp
   ·rename_i hz
    cases hp
    simp only[Bool.and_eq_true] at hz
    cases hv
    exact WI ht hz.1 hz.2 hR (hf _ (Nat.le_refl _) (by simp))
   ·cases hp
  ·cases hp
 |
  box t x =>
  have hx:=hr x (by simp[Op.operands])
  cases hp
  simp only[pop] at hv
  split at hv
  ·rename_i hs
   cases hv
   exact Wj hx hs hR (hf _ (Nat.le_refl _) (by simp))
  ·cases hv
 |
  makeSlice t l c =>
  have hl:=hr l (by simp[Op.operands])
  have hc:=hr c (by simp[Op.operands])
  simp only at hp
  split at hp
  ·rename_i agg size z nb ht
   split at hp
   ·rename_i hz
    cases hp
    simp only[Bool.and_eq_true,beq_iff_eq,decide_eq_true_eq] at hz
    obtain⟨⟨⟨z1,z2⟩,z3⟩,z4⟩:=hz
    simp only[pop] at hv
    split at hv
    ·rename_i l' c' AQ hc'
     split at hv
     ·rename_i hb
      cases hv
      rw[AQ] at hl
      rw[hc'] at hc
      show cF P (do pure (.value (←Instr.makeSlice t (a.eval l) (a.eval c)))) L0 lo m H w _ _
      generalize a.eval l=rl at hl ⊢
      generalize a.eval c=rc at hc ⊢
      cases hl
      cases hc
      exact UE ht z1 z2 z3 z4 hb.1 hb.2.1 hb.2.2.1 hb.2.2.2 hR (hf _ (Nat.le_refl _) (by simp))
     ·cases hv
    ·cases hv
   ·cases hp
  ·cases hp
 |
  buildSlice t n parts =>
  simp only at hp
  split at hp
  ·rename_i agg size z nb ht
   split at hp
   ·rename_i hz
    cases hp
    simp only[Bool.and_eq_true,beq_iff_eq,decide_eq_true_eq] at hz
    obtain⟨⟨⟨⟨z1,z2⟩,z3⟩,z4⟩,z5⟩:=hz
    simp only[pop] at hv
    split at hv
    ·rename_i cs TB
     split at hv
     ·rename_i sE
      cases hv
      have:=XR (P:=P) (w:=w) (lo:=lo) (a:=a) ht z1 z2 z3 z4 z5 TB sE (fun p hpm=>hr p.2 (by simp only[Op.operands];simp;exact⟨p.1,by simpa using hpm⟩)) hR (hf _ (Nat.le_refl _) (by simp))
      rw[Array.toArray_toList] at this
      exact this
     ·cases hv
    ·cases hv
   ·cases hp
  ·cases hp
 |
  call c =>
  obtain⟨callee,args,ts⟩:=c
  cases callee with
  |
   builtin b =>
   have PT:∀x∈args,RV m (ev ρ x) (a.eval x):=fun x hx=>hr x (by simpa[Op.operands,Call.operands] using hx)
   simp only at hp
   unfold mH at hp
   split at hp
   ·split at hp<;>first | (cases hp;done) | (cases hp;exact absurd rfl gZ)
   ·split at hp<;>first | (cases hp;done) | (cases hp;exact absurd rfl gZ)
   ·cases hp;exact absurd rfl gZ
   ·cases hp;exact absurd rfl gZ
   ·rename_i x y t u BE uQ ZW _
    have ea:args = #[x,y]:=Array.toList_inj.1 (by simpa using uQ)
    subst ea
    have hx:=PT x (by simp)
    have hy:=PT y (by simp)
    have anG:∃tr,ts=(t::u::tr).toArray:=⟨BE,Array.toList_inj.1 (by simpa using ZW)⟩
    obtain⟨tr,rfl⟩:=anG
    show cF P (do pure (.value (←Builtin.append_ (t::u::tr).toArray type ((#[x,y]:Array Operand).map a.eval)))) L0 lo m H w v H'
    rw[HF]
    have apM:∀r1 r2,Builtin.append_ (t::u::tr).toArray type #[r1,r2]=Builtin.append_ #[t,u] type #[r1,r2]:=fun r1 r2=>by simp[Builtin.append_]
    rw[apM]
    split at hp
    ·rename_i agg size zero bytes ku ht hu
     split at hp
     ·rename_i hz
      cases hp
      simp only[Bool.and_eq_true,beq_iff_eq,decide_eq_true_eq] at hz
      obtain⟨⟨⟨z1,z2⟩,z3⟩,z4⟩:=hz
      simp only[pop] at hv
      split at hv
      ·rename_i n hn
       split at hv
       ·rename_i hb
        cases qI:dV lo zero.length bytes (ev ρ x) n.toNat (cQ n.toNat zero) H with
        | none=>rw[qI] at hv;cases hv
        |
         some q =>
         obtain⟨u',H1⟩:=q
         rw[qI] at hv
         cases hv
         rw[hn] at hy
         generalize a.eval y=ry at hy ⊢
         cases hy
         exact U2 ht hu hb qI hx z4 z1 z2 z3 hR eJ hf
       ·cases hv
      ·cases hv
     ·cases hp
    ·rename_i agg size zero bytes d _ ht hu
     split at hp
     ·rename_i hd
      split at hp
      ·rename_i Tf
       cases hp
       simp only[pop] at hv
       split at hv
       ·rename_i k hk
        split at hv
        ·rename_i new pO
         cases qI:dV lo size bytes (ev ρ x) k new H with
         | none=>rw[qI] at hv;cases hv
         |
          some q =>
          obtain⟨u',H1⟩:=q
          rw[qI] at hv
          cases hv
          exact WT ht hu hd hk pO qI hx hy (by simpa using Tf) hR eJ hf
        ·cases hv
       ·cases hv
      ·cases hp
     ·cases hp
    ·cases hp
   ·rename_i x y t BE uQ ZW _
    have ea:args = #[x,y]:=Array.toList_inj.1 (by simpa using uQ)
    have et:ts=(t::BE).toArray:=Array.toList_inj.1 (by simpa using ZW)
    subst ea;subst et
    have hx:=PT x (by simp)
    have hy:=PT y (by simp)
    show cF P (do pure (.value (←Builtin.copy_ (t::BE).toArray type ((#[x,y]:Array Operand).map a.eval)))) L0 lo m H w v H'
    rw[HF]
    split at hp
    ·rename_i agg size zero bytes ht
     cases hp
     simp only[pop] at hv
     split at hv
     ·rename_i n c k U6 hk
      cases hv
      rw[U6] at hx
      generalize a.eval x=rx at hx ⊢
      cases hx
      obtain⟨e,GU,MU⟩:=iD ht
      obtain⟨i,de,zz,hi,_,FO,_,_,_,_⟩:=gU MU
      refine cF.value (rv := .int .i64 0) (w':=w) ?_ (.int _ _) hR (Trans.refl lo m _ w)
      have hl:=FD hk hy
      have hf0:=OE (P:=P) (w:=w) i.size hk hy
      simp[Builtin.copy_,run_underlying GU,hl,run_sizeOf e i hi,goInt,hf0]
     ·rename_i b o d c k U6 hk
      split at hv
      ·rename_i new pO
       cases hw:H.write lo b o new with
       | none=>rw[hw] at hv;cases hv
       |
        some H1 =>
        rw[hw] at hv
        cases hv
        rw[U6] at hx
        exact TP ht hk pO hw hx hy hR eJ
      ·cases hv
     ·cases hv
    ·cases hp
   ·rename_i x t BE uQ ZW _
    have ea:args = #[x]:=Array.toList_inj.1 (by simpa using uQ)
    have et:ts=(t::BE).toArray:=Array.toList_inj.1 (by simpa using ZW)
    subst ea;subst et
    have hx:=PT x (by simp)
    show cF P (do pure (.value (←Builtin.clear_ (t::BE).toArray type ((#[x]:Array Operand).map a.eval)))) L0 lo m H w v H'
    rw[L9]
    split at hp
    ·rename_i agg size zero bytes ht
     split at hp
     ·rename_i hz
      cases hp
      simp only[Bool.and_eq_true,beq_iff_eq,decide_eq_true_eq] at hz
      obtain⟨⟨⟨z1,z2⟩,z3⟩,z4⟩:=hz
      obtain⟨e,GU,MU⟩:=iD ht
      obtain⟨i,de,zz,hi,_,FO,rfl,rfl,rfl,rfl⟩:=gU MU
      simp only[pop] at hv
      split at hv
      ·rename_i n c U6
       cases hv
       rw[U6] at hx
       generalize a.eval x=rx at hx ⊢
       cases hx
       exact GV GU .Nt hR
      ·rename_i b o n c U6
       rw[U6] at hx
       split at hv
       ·rename_i X0
        cases hv
        subst X0
        exact GV GU hx hR
       ·rename_i X0
        cases hw:H.write lo b o (cQ n (aJ zz)) with
        | none=>rw[hw] at hv;cases hv
        |
         some H1 =>
         rw[hw] at hv
         cases hv
         exact Ry GU hi FO X0 hw hx z2 z4 hR eJ
      ·cases hv
     ·cases hp
    ·cases hp
   ·cases hp
  |
   value f =>
   cases f with
   | func g=>cases hp;cases hv
   |
    tmp t =>
    cases hp
    simp only[pop] at hv
    split at hv<;>cases hv
   | const c=>cases hp
   | global g=>cases hp
  | invoke r s=>cases hp
 | _=>cases hp
def Iw (P:Program) (f:Nat):Prop:=∃fn,P.funcs[f]? = some fn∧(fn.name == "runtime.NumGoroutine")=false∧fn.body.isNone=false
theorem Eu {f:Nat} {args:Array Value} (h:Iw P f):(callFunc f args).run P w = .ok (.enter f args) w:=by
 obtain⟨fn,h1,h2,h3⟩:=h
 unfold callFunc
 rw[Sem.run_bind,run_program,Result.andThen_ok,h1]
 simp[h2,h3]
theorem map_none {α β:Type} {o:Option α} {f:α→β} {x:β} (h:o.map f=some x) (hf:∀y,f y≠x):False:=by
 cases o with
 | none=>cases h
 | some y=>injection h with h;exact hf y h
theorem UY {op:Op} {g:Nat} {as:List Operand} (h:nK P op=some (.call g as)):∃args ts,op = .call ⟨.value (.func g),args,ts⟩∧as=args.toList:=by
 unfold nK at h
 split at h
 case isFalse=>cases h
 cases op with
 |
  call c =>
  obtain⟨callee,args,ts⟩:=c
  cases callee with
  |
   builtin b =>
   exfalso
   simp only[mH] at h
   repeat' (split at h)
   all_goals cases h
  |
   value f =>
   cases f with
   | func g'=>cases h;exact⟨args,ts,rfl,rfl⟩
   | _=>cases h
  | invoke r s=>cases h
 |
  _ =>
  exfalso
  dsimp only at h
  try unfold Ah at h
  repeat' (split at h)
  all_goals first
   | contradiction
   | (cases h;done)
   | exact map_none h (by intro y h;cases h)
theorem QR {op:Op} {fv:Operand} {as:List Operand} (h:nK P op=some (.callv fv as)):∃args ts,op = .call ⟨.value fv,args,ts⟩∧as=args.toList:=by
 unfold nK at h
 split at h
 case isFalse=>cases h
 cases op with
 |
  call c =>
  obtain⟨callee,args,ts⟩:=c
  cases callee with
  |
   builtin b =>
   exfalso
   simp only[mH] at h
   repeat' (split at h)
   all_goals cases h
  |
   value f =>
   cases f with
   | tmp g'=>cases h;exact⟨args,ts,rfl,rfl⟩
   | _=>cases h
  | invoke r s=>cases h
 |
  _ =>
  exfalso
  dsimp only at h
  try unfold Ah at h
  repeat' (split at h)
  all_goals first
   | contradiction
   | (cases h;done)
   | exact map_none h (by intro y h;cases h)
theorem pM {po:lL} {ρ:Env} {lo f:Nat} {args:List Value} (hv:pop lo po ρ H=some (.call f args)):(∃g as,po = .call g as)∨(∃g as,po = .callv g as):=by
 by_cases gZ:rG po=true
 ·rw[uS gZ] at hv
  cases hpp:gR po ρ with
  | none=>rw[hpp] at hv;cases hv
  | some u=>rw[hpp] at hv;cases hv
 cases po<;>first | exact absurd rfl gZ | exact .inl ⟨_,_,rfl⟩ | exact .inr ⟨_,_,rfl⟩ | skip
 all_goals
  exfalso
  simp only[pop] at hv
  repeat' (split at hv)
  all_goals first
   | (cases hv;done)
   | (revert hv;generalize aD.write _ _ _ _ _=q;cases q<;>intro hv<;>cases hv)
   | (revert hv;generalize lU _ _ _ _=q;cases q<;>intro hv<;>cases hv)
   | (revert hv;generalize AU _ _ _ _ _ _=q;cases q<;>intro hv<;>cases hv)
   | (revert hv;generalize dV _ _ _ _ _ _ _=q;cases q<;>intro hv<;>cases hv)
   | (revert hv;generalize rE _=q;cases q<;>intro hv<;>cases hv)
theorem UZ {o:Oper} {po:lL} {ρ:Env} {a:Act} {lo f:Nat} {args:List Value} (hp:nK P o.op=some po) (hv:pop lo po ρ H=some (.call f args)) (hr:∀x∈o.op.operands,RV m (ev ρ x) (a.eval x)) :
  ∃fV,RL m args fV∧(Iw P f→∀w,(execOp a.eval o).run P w = .ok (.enter f fV.toArray) w):=by
 have key:=pM hv
 obtain⟨dst,op,type,pos,after,guard⟩:=o
 simp only at hp hr ⊢
 rcases key with⟨g,as,rfl⟩ | ⟨g,as,rfl⟩
 ·obtain⟨AH,ts,rfl,rfl⟩:=UY hp
  cases hv
  refine⟨AH.toList.map a.eval,RL.map fun x hx=>hr x (by simp[Op.operands,Call.operands];right;simpa using hx),fun hc w => ?_⟩
  have e1:(AH.toList.map a.eval).toArray=AH.map a.eval:=Array.toList_inj.1 (by rw[Array.toList_map])
  rw[e1]
  have e2:execOp a.eval ⟨dst,.call ⟨.value (.func f),AH,ts⟩,type,pos,after,guard⟩=callFunc f ((#[]++AH.map a.eval) ++ #[]):=rfl
  rw[e2,Eu hc]
  simp
 ·obtain⟨AH,ts,rfl,rfl⟩:=QR hp
  have hg:=hr g (by simp[Op.operands,Call.operands])
  simp only[pop] at hv
  split at hv
  ·rename_i f' first fC hfv
   cases hv
   rw[hfv] at hg
   generalize hrg:a.eval g=rg at hg
   cases hg with
   |
    func fn f1 g1 c1 d1 h1 h2 h3 h4 =>
    refine⟨g1.toList++AH.toList.map a.eval++d1.toList,((RL.arr h1 h2).append (RL.map fun x hx=>hr x (by simp[Op.operands,Call.operands];right;simpa using hx))).append (RL.arr h3 h4),fun hc w => ?_⟩
    have e1:(g1.toList++AH.toList.map a.eval++d1.toList).toArray=(g1++AH.map a.eval)++d1:=by
     apply Array.ext'
     simp
    rw[e1]
    have e2:(execOp a.eval ⟨dst,.call ⟨.value g,AH,ts⟩,type,pos,after,guard⟩)=(do let d ←Deferred.ofValue (a.eval g) (AH.map a.eval);invoke d.target d.args):=rfl
    rw[e2,hrg]
    show (callFunc f ((g1++AH.map a.eval)++d1)).run P w=_
    exact Eu hc
  ·cases hv
end
end Go.PM
namespace Go.PM
section
variable {H:aD}
theorem TH {lo:Nat} {H':aD} (h:Ext H.length H H'):Ext lo H H' :=
 ⟨h.len,fun b _ hl=>h.low b hl hl,h.liv⟩
theorem GJ {lo size bytes add:Nat} {x v:Value} {new:List Value} {H':aD} (h:dV lo size bytes x add new H=some (v,H')):Ext lo H H':=by
 unfold dV at h
 split at h
 case isFalse=>cases h
 split at h
 ·split at h
  ·split at h
   ·cases h;exact Ext.refl _ _
   ·split at h
    ·cases h;exact mR _ _ _
    ·cases h
  ·cases h
 ·split at h
  ·split at h
   ·split at h
    ·split at h
     ·cases h;exact Ext.refl _ _
     ·cases hw:aD.write H lo _ _ new with
      | none=>rw[hw] at h;cases h
      | some H1=>rw[hw] at h;cases h;exact Cm hw
    ·split at h
     ·split at h
      ·split at h
       ·rename_i CN
        cases h
        exact Tu CN
       ·cases h
      ·cases h;exact mR _ _ _
     ·cases h
   ·cases h
  ·cases h
 ·cases h
theorem Yt {lo size:Nat} {x v:Value} {l h' mx:Option Value} {H':aD} (h:AU size x l h' mx H=some (v,H')):Ext lo H H':=by
 unfold AU at h
 repeat' (split at h)
 all_goals first
  | (cases h;done)
  | (cases h;exact Ext.refl _ _)
  | (cases h;exact mR _ _ _)
theorem SU {lo:Nat} {po:lL} {ρ:Env} {v:Value} {H':aD} (h:pop lo po ρ H=some (.val v H')):Ext lo H H':=by
 by_cases gZ:rG po=true
 ·rw[uS gZ] at h
  obtain⟨_,rfl⟩:=BB h
  exact Ext.refl _ _
 cases po<;>first | exact absurd rfl gZ | skip
 case load agg size p =>
  simp only[pop] at h
  cases hl:lU agg size (ev ρ p) H with
  | none=>rw[hl] at h;cases h
  | some u=>rw[hl] at h;cases h;exact Ext.refl _ _
 case sub size x l hh mx =>
  simp only[pop] at h
  cases hs:AU size (ev ρ x) (l.map (ev ρ)) (hh.map (ev ρ)) (mx.map (ev ρ)) H with
  | none=>rw[hs] at h;cases h
  |
   some q =>
   obtain⟨u,H1⟩:=q
   rw[hs] at h;cases h;exact Yt hs
 case b2s x =>
  simp only[pop] at h
  split at h
  ·cases h;exact Ext.refl _ _
  ·split at h
   ·rename_i cs _
    cases hb:rE cs with
    | none=>rw[hb] at h;cases h
    | some bs=>rw[hb] at h;cases h;exact Ext.refl _ _
   ·cases h
  ·cases h
 case new z=>cases h;exact mR _ _ _
 case box x =>
  simp only[pop] at h
  split at h
  ·cases h;exact mR _ _ _
  ·cases h
 case make z b l c =>
  simp only[pop] at h
  split at h
  ·split at h
   ·cases h;exact mR _ _ _
   ·cases h
  ·cases h
 case lit z n parts =>
  simp only[pop] at h
  split at h
  ·split at h
   ·cases h;exact mR _ _ _
   ·cases h
  ·cases h
 case call f args=>cases h
 case callv f args =>
  simp only[pop] at h
  split at h<;>cases h
 case store size p x =>
  simp only[pop] at h
  split at h
  ·rename_i b o _
   split at h
   ·cases hw:H.write lo b o (aJ (ev ρ x)) with
    | none=>rw[hw] at h;cases h
    | some H1=>rw[hw] at h;cases h;exact Cm hw
   ·cases h
  ·cases h
 case app size bytes x y =>
  simp only[pop] at h
  split at h
  ·rename_i n _
   split at h
   ·rename_i new _
    cases ha:dV lo size bytes (ev ρ x) n new H with
    | none=>rw[ha] at h;cases h
    |
     some q =>
     obtain⟨u,H1⟩:=q
     rw[ha] at h;cases h;exact GJ ha
   ·cases h
  ·cases h
 case appz z bytes x n =>
  simp only[pop] at h
  split at h
  ·rename_i k _
   split at h
   ·cases ha:dV lo z.length bytes (ev ρ x) k.toNat (cQ k.toNat z) H with
    | none=>rw[ha] at h;cases h
    |
     some q =>
     obtain⟨u,H1⟩:=q
     rw[ha] at h;cases h;exact GJ ha
   ·cases h
  ·cases h
 case copy size x y =>
  simp only[pop] at h
  split at h
  ·cases h;exact Ext.refl _ _
  ·rename_i b o d _ s _ _
   split at h
   ·rename_i new _
    cases hw:H.write lo b o new with
    | none=>rw[hw] at h;cases h
    | some H1=>rw[hw] at h;cases h;exact Cm hw
   ·cases h
  ·cases h
 case clear z x =>
  simp only[pop] at h
  split at h
  ·cases h;exact Ext.refl _ _
  ·rename_i b o n _ _
   split at h
   ·cases h;exact Ext.refl _ _
   ·cases hw:H.write lo b o (cQ n z) with
    | none=>rw[hw] at h;cases h
    | some H1=>rw[hw] at h;cases h;exact Cm hw
  ·cases h
def oV (call:fN):Prop:=∀f args lo H v H',call f args lo H=some (v,H')→Ext lo H H'
theorem I6 {call:fN} (hc:oV call) {lo:Nat} {i:PI} {ρ:Env} {v:Value} {H':aD} (h:wC call lo i ρ H=some (v,H')):Ext lo H H':=by
 unfold wC at h
 split at h
 ·cases h
 ·cases h;exact Ext.refl _ _
 ·split at h
  ·split at h
   ·rename_i hp
    cases h
    exact SU hp
   ·rename_i f args _
    have:=hc _ _ _ _ _ _ h
    split at this
    ·exact TH this
    ·exact this
   ·cases h
  ·cases h
theorem vO {call:fN} {lo:Nat} {i:PI} {ρ aU:Env} {H':aD} (h:vF call lo i ρ H=some (aU,H')):∃v,wC call lo i ρ H=some (v,H')∧aU=put ρ i.dst v:=by
 unfold vF at h
 split at h
 ·rename_i v H1 hv
  cases h
  exact⟨v,hv,rfl⟩
 ·cases h
theorem FL {call:fN} (hc:oV call) {lo:Nat} {i:PI} {ρ aU:Env} {H':aD} (h:vF call lo i ρ H=some (aU,H')):Ext lo H H':=by
 obtain⟨v,h1,_⟩:=vO h
 exact I6 hc h1
theorem Ik {call:fN} (hc:oV call) {lo:Nat}:∀(is:List PI) {ρ aU:Env} {H H':aD},gA call lo is ρ H=some (aU,H')→Ext lo H H'
 | [],ρ,aU,H,H',h=>by cases h;exact Ext.refl _ _
 |
  i::is,ρ,aU,H,H',h=>by
  rw[gA] at h
  split at h
  ·rename_i h1
   exact(FL hc h1).trans (Ik hc is h)
  ·cases h
theorem Fg {lo:Nat} {body:Env→aD→Option (Ex×Env×aD)} (hb:∀ρ H x aU H',body ρ H=some (x,aU,H')→Ext lo H H'):∀(n:Nat) {ρ aU:Env} {H H':aD} {x:Ex},tT body n ρ H=some (x,aU,H')→Ext lo H H'
 | 0,_,_,_,_,_,h=>by cases h
 |
  n+1,ρ,aU,H,H',x,h=>by
  rw[tT] at h
  split at h
  ·rename_i h1
   exact(hb _ _ _ _ _ h1).trans (Fg hb n h)
  ·exact hb _ _ _ _ _ h
theorem iH {call:fN} (hc:oV call) {lo n:Nat}:∀(c:aE) {ρ aU:Env} {H H':aD} {x:Ex},dE call lo n c ρ H=some (x,aU,H')→Ext lo H H'
 | .skip,_,_,_,_,_,h=>by cases h;exact Ext.refl _ _
 |
  .eO ops,ρ,aU,H,H',x,h=>by
  rw[dE] at h
  cases hp:gA call lo ops ρ H with
  | none=>rw[hp] at h;cases h
  |
   some q =>
   obtain⟨tM,H1⟩:=q
   rw[hp] at h;cases h
   exact Ik hc ops hp
 |
  .seq a b,ρ,aU,H,H',x,h=>by
  rw[dE] at h
  split at h
  ·rename_i h1
   exact(iH hc a h1).trans (iH hc b h)
  ·exact iH hc a h
 |
  .cond c a b,ρ,aU,H,H',x,h=>by
  rw[dE] at h
  split at h
  ·split at h
   ·exact iH hc a h
   ·exact iH hc b h
  ·cases h
 |
  .block id a,ρ,aU,H,H',x,h=>by
  rw[dE] at h
  split at h
  ·rename_i h1
   split at h<;>(cases h;exact iH hc a h1)
  ·exact iH hc a h
 |
  .loop a,ρ,aU,H,H',x,h=>by
  rw[dE] at h
  exact Fg (fun ρ H x aU H' h=>iH hc a h) n h
 | .exit id,_,_,_,_,_,h=>by cases h;exact Ext.refl _ _
 | .ret,_,_,_,_,_,h=>by cases h;exact Ext.refl _ _
theorem Cd (E:xV) (T:Xs):∀n,oV (kI E T n)
 | 0=>fun _ _ _ _ _ _ h=>by cases h
 |
  n+1=>fun f args lo H v H' h=>by
  rw[kI] at h
  split at h
  ·rename_i p _
   cases hp:p args H with
   | none=>rw[hp] at h;cases h
   | some u=>rw[hp] at h;cases h;exact Ext.refl _ _
  ·split at h
   ·cases h
   ·rename_i pf _
    split at h
    ·split at h
     ·rename_i tM H1 h1
      cases hr:oC pf.res tM H1 with
      | none=>rw[hr] at h;cases h
      | some u=>rw[hr] at h;cases h;exact iH (Cd E T n) _ h1
     ·rename_i tM H1 h1
      cases hr:oC pf.res tM H1 with
      | none=>rw[hr] at h;cases h
      | some u=>rw[hr] at h;cases h;exact iH (Cd E T n) _ h1
     ·cases h
    ·cases h
end
end Go.PM
namespace Go.PM
theorem Ce {α β:Type} {f:α→Option β}:∀ {l:List α} {ys:List β},l.mapM f=some ys→ys.length=l.length∧∀i (h:i<l.length),f l[i]=ys[i]?
 |
  [],ys,h=>by
  simp at h
  subst h
  exact⟨rfl,fun i h=>absurd h (by simp)⟩
 |
  x::l,ys,h=>by
  simp only[List.mapM_cons,Option.pure_def,Option.bind_eq_bind] at h
  cases h1:f x with
  | none=>rw[h1] at h;cases h
  |
   some y =>
   rw[h1] at h
   cases h2:l.mapM f with
   | none=>rw[h2] at h;cases h
   |
    some zs =>
    rw[h2] at h
    cases h
    obtain⟨k1,k2⟩:=Ce h2
    refine⟨by simp[k1],fun i hi => ?_⟩
    cases i with
    | zero=>simpa using h1
    | succ i=>simpa using k2 i (by simpa using hi)
theorem Ov {α β:Type} {f:α→Option β} {l:List α} {ys:List β} (h:l.mapM f=some ys) {i:Nat} {x:α} (hx:l[i]? = some x):∃y,ys[i]? = some y∧f x=some y:=by
 obtain⟨h1,h2⟩:=Ce h
 obtain⟨aV,rfl⟩:=List.getElem?_eq_some_iff.1 hx
 have Jc:i<ys.length:=by omega
 refine⟨ys[i],List.getElem?_eq_getElem Jc,?_⟩
 rw[h2 i aV,List.getElem?_eq_getElem Jc]
def Cq (E:xV) (ops:List Oper) (M:List Nat) (i j:Nat) (pi pj:lL) (l:List (Operand×Operand)):Prop :=
 match fE E pi,fE E pj with
 | .look,.write | .write,.look=>ahead M i j=true∨∃a b,CU pi=some a∧CU pj=some b∧Ci ops i j a=true∧(a,b)∈l
 | .write,.write | .quiet,.write | .write,.quiet=>ahead M i j=true
 | _,_=>True
theorem Cq.mono {E:xV} {ops:List Oper} {M:List Nat} {i j:Nat} {pi pj:lL} {l l':List (Operand×Operand)} (h:Cq E ops M i j pi pj l) (hl:∀x∈l,x∈l'):Cq E ops M i j pi pj l':=by
 unfold Cq at h ⊢
 split at h
 all_goals first
  | exact h
  | exact h.imp id fun⟨a,b,h1,h2,h3,h4⟩=>⟨a,b,h1,h2,h3,hl _ h4⟩
theorem IE {E:xV} {ops:List Oper} {ps:List lL} {M:List Nat} {j:Nat} {pj:lL} {l:List (Operand×Operand)} (h:conflicts E ops ps M j pj=some l) :
  ∀i,i<j→∀pi,ps[i]? = some pi→Cq E ops M i j pi pj l:=by
 have key:∀(is:List Nat) (l:List (Operand×Operand)),(is.foldr (fun i acc=>match acc,ps[i]? with
  |
   some l,some pi =>
   match fE E pi,fE E pj with
   |
    .look,.write | .write,.look =>
    if ahead M i j then some l
    else match CU pi,CU pj with
     | some a,some b=>if Ci ops i j a then some ((a,b)::l) else none
     | _,_=>none
   | .write,.write | .quiet,.write | .write,.quiet=>if ahead M i j then some l else none
   | _,_=>some l
  | _,_=>none) (some []))=some l→∀i∈is,∀pi,ps[i]? = some pi→Cq E ops M i j pi pj l:=by
  intro is
  induction is with
  | nil=>intro l _ i hi;cases hi
  |
   cons i0 is ih =>
   intro l h i hi pi Ue
   rw[List.foldr_cons] at h
   revert h
   generalize arE:is.foldr _ (some [])=acc
   intro h
   cases acc with
   | none=>cases h
   |
    some l0 =>
    have ih':=ih l0 arE
    cases hp0:ps[i0]? with
    | none=>rw[hp0] at h;cases h
    |
     some p0 =>
     rw[hp0] at h
     simp only at h
     have step:(∀x∈l0,x∈l)∧Cq E ops M i0 j p0 pj l:=by
      unfold Cq
      split at h
      ·rename_i c1 c2
       try rw[c1,c2]
       split at h
       ·rename_i ha;cases h;exact⟨fun x hx=>hx,.inl ha⟩
       ·split at h
        ·rename_i a b ta tb
         split at h
         ·rename_i hu;cases h;exact⟨fun x hx=>List.mem_cons_of_mem _ hx,.inr ⟨a,b,ta,tb,hu,List.mem_cons_self⟩⟩
         ·cases h
        ·cases h
      ·rename_i c1 c2
       try rw[c1,c2]
       split at h
       ·rename_i ha;cases h;exact⟨fun x hx=>hx,.inl ha⟩
       ·split at h
        ·rename_i a b ta tb
         split at h
         ·rename_i hu;cases h;exact⟨fun x hx=>List.mem_cons_of_mem _ hx,.inr ⟨a,b,ta,tb,hu,List.mem_cons_self⟩⟩
         ·cases h
        ·cases h
      ·rename_i c1 c2
       try rw[c1,c2]
       split at h
       ·rename_i ha;cases h;exact⟨fun x hx=>hx,ha⟩
       ·cases h
      ·rename_i c1 c2
       try rw[c1,c2]
       split at h
       ·rename_i ha;cases h;exact⟨fun x hx=>hx,ha⟩
       ·cases h
      ·rename_i c1 c2
       try rw[c1,c2]
       split at h
       ·rename_i ha;cases h;exact⟨fun x hx=>hx,ha⟩
       ·cases h
      ·cases h
       refine⟨fun x hx=>hx,?_⟩
       first | trivial | (split<;>first | trivial | (simp_all;done)) | (simp_all;done)
     rcases List.mem_cons.1 hi with rfl | hi
     ·rw[hp0] at Ue
      cases Ue
      exact step.2
     ·exact(ih' i hi pi Ue).mono step.1
 exact fun i hi pi Ue=>key _ l h i (List.mem_range.2 hi) pi Ue
structure Vx (P:Program) (E:xV) (n:Nat) (ops:List Oper) (i:Nat) (o:Oper) (p:lL) (pi:PI):Prop where
 Tx:nK P o.op=some p
 dst:pi.dst=o.dst
 op:pi.op=p
 guard:guardOf ops i o=some pi.g
 bound:∀d,o.dst=some d→d<n
structure MX (E:xV) (ops:List Oper) (ps:List lL) (M:List Nat) (i:Nat) (o:Oper) (p:lL) (pi:PI):Prop where
 back:∀e∈o.after.toList,Region.binds .any e=true→e.on<i
 guard:∀j w,o.guard=some (j,w)→(M.getD i 0).testBit j=true
 Kv:∀t∈o.dst.toList++tG ops o,∀k ok,ops[k]? = some ok→ok.dst=some t→k=i∨ahead M i k=true
 mask:M.getD i 0=tL o M
 quiet:pi.quiet=(match fE E p with | .quiet=>true | _=>false)
 aiR:∀k,k<i→∀pk,ps[k]? = some pk→Cq E ops M k i pk p pi.cf
theorem Po {P:Program} {E:xV} {n:Nat} {ops:List Oper} {ps:List lL} {M:List Nat} {draw:Bool} {i:Nat} {pi:PI} (h:Q8 E ops ps M n draw i=some pi) {o:Oper} {p:lL} (ho:ops[i]? = some o) (hp:ps[i]? = some p)
  (Tj:nK P o.op=some p):Vx P E n ops i o p pi∧(draw=true→MX E ops ps M i o p pi)∧(draw=false→pi.quiet=false∧pi.cf=[]):=by
 unfold Q8 at h
 rw[ho,hp] at h
 simp only at h
 split at h
 case isFalse=>cases h
 rename_i hb
 have hbound:∀d,o.dst=some d→d<n:=by
  intro d hd
  rw[hd] at hb
  simpa[abF] using hb
 split at h
 ·cases h
 ·rename_i g hg
  cases draw with
  |
   false =>
   simp only[Bool.false_eq_true,if_false] at h
   cases h
   exact⟨⟨Tj,rfl,rfl,hg,hbound⟩,(fun h=>by cases h),fun _=>⟨rfl,rfl⟩⟩
  |
   true =>
   simp only[if_true] at h
   split at h
   case isFalse=>cases h
   rename_i hc
   simp only[Bool.and_eq_true,beq_iff_eq] at hc
   obtain⟨⟨⟨c1,c2⟩,c3⟩,c4⟩:=hc
   cases M0:conflicts E ops ps M i p with
   | none=>rw[M0] at h;cases h
   |
    some cf =>
    rw[M0] at h
    cases h
    refine⟨⟨Tj,rfl,rfl,hg,hbound⟩,fun _=>⟨fun e he YD => ?_,fun j w hj => ?_,fun t ht k ok hk hkd => ?_,c4,rfl,IE M0⟩,(fun h=>by cases h)⟩
    ·have:=List.all_eq_true.1 c1 e he
     simpa[YD] using this
    ·rw[hj] at c2
     exact c2
    ·have h1:=List.all_eq_true.1 c3 t ht
     have Ve:k<ops.length:=(List.getElem?_eq_some_iff.1 hk).1
     have h2:=List.all_eq_true.1 h1 k (List.mem_range.2 Ve)
     rw[hk] at h2
     simp only[Bool.or_eq_true,bne_iff_ne,ne_eq,beq_iff_eq] at h2
     rcases h2 with(h2 | h2) | h2
     ·exact absurd hkd h2
     ·exact .inl h2
     ·exact .inr h2
structure aaX (P:Program) (E:xV) (n:Nat) (ops:List Oper) (draw:Bool) (qJ:List PI) (ps:List lL) (M:List Nat):Prop where
 Cr:ps.length=ops.length
 apY:qJ.length=ops.length
 each:∀i o,ops[i]? = some o→∃p pi,ps[i]? = some p∧qJ[i]? = some pi∧Vx P E n ops i o p pi∧(draw=true→MX E ops ps M i o p pi)∧(draw=false→pi.quiet=false∧pi.cf=[])
theorem Hf {P:Program} {E:xV} {n:Nat} {ops:Array Oper} {draw:Bool} {qJ:List PI} (h:uH P E n ops draw=some qJ):∃ps M,aaX P E n ops.toList draw qJ ps M:=by
 unfold uH at h
 split at h
 ·rename_i ps hps
  simp only at h
  generalize (if draw=true then Mo ops.toList [] else [])=M at h
  obtain⟨h1,h2⟩:=Ce hps
  obtain⟨h3,h4⟩:=Ce h
  refine⟨ps,M,h1,by simpa using h3,fun i o ho => ?_⟩
  have aV:=(List.getElem?_eq_some_iff.1 ho).1
  obtain⟨p,hp,Tj⟩:=Ov hps ho
  have hr:(List.range ops.size)[i]? = some i:=by rw[List.getElem?_range];simpa using aV
  obtain⟨pi,Ue,hpp⟩:=Ov h hr
  exact⟨p,pi,hp,Ue,Po hpp ho hp Tj⟩
 ·cases h
theorem J8 {o:Oper} {M:List Nat} {i:Nat} (h:(tL o M).testBit i=true):∃e∈o.after.toList,Region.binds .any e=true∧(e.on=i∨(M.getD e.on 0).testBit i=true):=by
 unfold tL at h
 revert h
 generalize o.after.toList=es
 induction es with
 | nil=>intro h;simp at h
 |
  cons e es ih =>
  intro h
  rw[List.foldr_cons] at h
  split at h
  ·rename_i hb
   rw[Nat.testBit_or,Nat.testBit_or,Bool.or_eq_true,Bool.or_eq_true] at h
   rcases h with(h | h) | h
   ·obtain⟨e',h1,h2⟩:=ih h
    exact⟨e',List.mem_cons_of_mem _ h1,h2⟩
   ·refine⟨e,List.mem_cons_self,hb,.inl ?_⟩
    rw[Nat.testBit_two_pow] at h
    simpa using h
   ·exact⟨e,List.mem_cons_self,hb,.inr h⟩
  ·obtain⟨e',h1,h2⟩:=ih h
   exact⟨e',List.mem_cons_of_mem _ h1,h2⟩
theorem Qq {ops:List Oper} {M:List Nat} {S:Nat→Prop} (hb:∀i o,ops[i]? = some o→∀e∈o.after.toList,Region.binds .any e=true→e.on<i) (hm:∀i o,ops[i]? = some o→M.getD i 0=tL o M)
  (hS:∀i o,ops[i]? = some o→S i→∀e∈o.after.toList,Region.binds .any e=true→S e.on):∀j o,ops[j]? = some o→(∀e∈o.after.toList,Region.binds .any e=true→S e.on)→∀i,(M.getD j 0).testBit i=true→S i:=by
 intro j
 induction j using Nat.strongRecOn with
 |
  _ j ih =>
  intro o ho hj i hi
  rw[hm j o ho] at hi
  obtain⟨e,he,YD,h1⟩:=J8 hi
  rcases h1 with rfl | h1
  ·exact hj e he YD
  ·have aV:=hb j o ho e he YD
   have hjl:=(List.getElem?_eq_some_iff.1 ho).1
   have hel:e.on<ops.length:=by omega
   exact ih e.on aV ops[e.on] (List.getElem?_eq_getElem hel) (hS e.on _ (List.getElem?_eq_getElem hel) (hj e he YD)) i h1
end Go.PM
namespace Go.PM
def tP (P:Program) (L0:Nat) (call:fN):Prop :=
 ∀f args lo H v H',call f args lo H=some (v,H')→∀m w fV,Rel m L0 H w→L0≤lo→L0≤H.length→RL m args fV→(∀b,H.length≤b→b<H'.length→m b=none) →
  Iw P f∧Calls P f fV.toArray w fun e w'=>∃m' rv,e = .returned rv∧RV m' v rv∧Rel m' L0 H' w'∧Trans lo m H w m' H' w'
section
variable {P:Program} {m:dH} {L0:Nat} {H:aD} {w:World}
theorem qT {call:fN} {lo:Nat} {i:PI} {ρ:Env} {v:Value} {H':aD} (h:wC call lo i ρ H=some (v,H')) :
  (wS i.g ρ=some false∧v=undef∧H'=H) ∨
  (wS i.g ρ=some true∧i.cf.all (yN ρ)=true∧(pop lo i.op ρ H=some (.val v H') ∨
   ∃f args,pop lo i.op ρ H=some (.call f args)∧call f args (if i.quiet then H.length else lo) H=some (v,H'))):=by
 unfold wC at h
 split at h
 ·cases h
 ·rename_i hw;cases h;exact .inl ⟨hw,rfl,rfl⟩
 ·rename_i hw
  split at h
  ·rename_i M0
   refine .inr ⟨hw,M0,?_⟩
   split at h
   ·rename_i hp;cases h;exact .inl hp
   ·rename_i f args hp;exact .inr ⟨f,args,hp,h⟩
   ·cases h
  ·cases h
theorem TI {t:Array Value} {d:Nat} {b:Bool} (h:t.getD d undef = .bool b):t[d]? = some (.bool b):=by
 rcases Nat.lt_or_ge d t.size with hd | hd
 ·simp[hd] at h ⊢
  exact h
 ·simp[Array.getElem?_eq_none hd,undef] at h
theorem Ds {ops:Array Oper} {i:Nat} {o:Oper} {g:Option (Nat×Bool)} {ρ:Env} {a:Act} {t:Bool} (hg:guardOf ops.toList i o=some g) (hw:wS g ρ=some t)
  (hr:∀d∈tG ops.toList o,RV m (ρ d) (a.tmps.getD d undef)):Region.wanted o (yielded ops a.tmps)=t:=by
 unfold guardOf at hg
 unfold Region.wanted
 cases hgd:o.guard with
 |
  none =>
  rw[hgd] at hg
  cases hg
  cases hw
  rfl
 |
  some jw =>
  obtain⟨j,want⟩:=jw
  rw[hgd] at hg
  simp only at hg
  split at hg
  ·split at hg
   ·rename_i d hd
    cases hg
    have Il:d∈tG ops.toList o:=by
     unfold tG
     rw[hgd]
     simp only[List.mem_append]
     right
     rw[hd]
     simp
    have PN:=hr d Il
    simp only[wS] at hw
    split at hw
    ·rename_i b hb
     cases hw
     rw[hb] at PN
     generalize hx:a.tmps.getD d undef=x at PN
     cases PN
     have hy:yielded ops a.tmps j=some b:=by
      unfold yielded
      have WY:(ops[j]?).bind (·.dst)=some d:=by simpa using hd
      rw[WY,Option.bind_some,TI hx]
     simp only[hy]
     cases b<;>cases want<;>rfl
    ·rename_i vs hb
     cases hw
     rw[hb] at PN
     generalize hx:a.tmps.getD d undef=x at PN
     obtain⟨ws,rfl⟩:∃ws,x = .tuple ws:=by cases PN;exact⟨_,rfl⟩
     have WY:(ops[j]?).bind (·.dst)=some d:=by simpa using hd
     have hy:yielded ops a.tmps j=none:=by
      unfold yielded
      rw[WY,Option.bind_some]
      rcases Nat.lt_or_ge d a.tmps.size with aV | aV
      ·have:a.tmps[d]? = some (.tuple ws):=by rw[←hx];simp[aV]
       rw[this]
      ·rw[Array.getElem?_eq_none aV]
     simp only[hy]
     rfl
    ·cases hw
   ·cases hg
  ·cases hg
theorem Wc {E:xV} {p:lL} {lo iZ:Nat} {ρ:Env} (h:fE E p = .quiet):pop lo p ρ H=pop iZ p ρ H:=by
 cases p<;>first | rfl | (simp[fE] at h;done)
theorem C9 {ops:List Oper} {o:Oper} {t:Nat} (h:Operand.tmp t∈o.op.operands):t∈tG ops o:=by
 unfold tG tmpsOf
 rw[List.mem_append]
 left
 rw[List.mem_filterMap]
 exact⟨.tmp t,by simpa using h,rfl⟩
theorem HR {op:Op} {p:lL} (h:nK P op=some p):∀x∈op.operands,MP x=true:=by
 intro x hx
 unfold nK at h
 split at h
 ·rename_i mT
  obtain⟨i,hi,rfl⟩:=Array.getElem_of_mem hx
  exact Array.all_eq_true.1 mT i hi
 ·cases h
theorem Mk {E:xV} {n lo k:Nat} {ops:Array Oper} {o:Oper} {p:lL} {pi:PI} {call:fN} {ρ:Env} {v:Value} {H':aD} {a:Act} {K:Act→World→Prop} {Q:Exit→Act→World→Prop} (ho:ops[k]? = some o) (Am:Vx P E n ops.toList k o p pi)
  (hq:pi.quiet=true→fE E p = .quiet) (hv:wC call lo pi ρ H=some (v,H')) (hr:∀t∈tG ops.toList o,RV m (ρ t) (a.tmps.getD t undef)) (hR:Rel m L0 H w) (eJ:L0≤lo) (hlen:L0≤H.length)
  (hf:∀b,H.length≤b→b<H'.length→m b=none) (lR:tP P L0 call)
  (hK:∀m' rv w',RV m' v rv→Rel m' L0 H' w'→Trans (if pi.quiet then H.length else lo) m H w m' H' w'→K (a.put o.dst rv) w'):wpOp P ops Q k K a w:=by
 have hro:∀x∈o.op.operands,RV m (ev ρ x) (a.eval x):=fun x hx=>RE (HR Am.Tx x hx) fun t ht=>hr t (C9 (ht▸hx))
 unfold wpOp
 rw[ho]
 simp only
 rcases qT hv with⟨hw,rfl,rfl⟩ | ⟨hw,_,hp | ⟨f,args,hp,hc⟩⟩
 ·rw[Ds Am.guard hw hr]
  simp only[Bool.false_eq_true,if_false]
  exact hK m undef w (RV.undef m) hR (Trans.refl _ m _ w)
 ·rw[Ds Am.guard hw hr]
  simp only[if_true]
  left
  rw[Am.op] at hp
  have hs:cF P (execOp a.eval o) L0 (if pi.quiet then H.length else lo) m H w v H':=by
   split
   ·rename_i hqq
    rw[Wc (iZ:=H.length) (hq hqq)] at hp
    exact S9 Am.Tx hp hro hR hlen hf
   ·exact S9 Am.Tx hp hro hR eJ hf
  obtain⟨rv,w',m',nC,h1,h2,h3⟩:=hs
  unfold Oper.wp
  rcases nC with nC | ⟨nC,rfl⟩
  ·rw[nC]
   exact hK m' rv w' h1 h2 h3
  ·rw[nC]
   exact hK m' undef w' h1 h2 h3
 ·rw[Ds Am.guard hw hr]
  simp only[if_true]
  left
  rw[Am.op] at hp
  have aiE:L0≤(if pi.quiet then H.length else lo):=by split<;>assumption
  obtain⟨fV,PT,ahE⟩:=UZ Am.Tx hp hro
  have nC:=ahE (lR f args _ H v H' hc m w fV hR aiE hlen PT hf).1
  unfold Oper.wp
  rw[nC w]
  show Calls P f fV.toArray w _
  refine(lR f args _ H v H' hc m w fV hR aiE hlen PT hf).2.mono ?_
  rintro e w' ⟨m',rv,rfl,h1,h2,h3⟩
  exact hK m' rv w' h1 h2 h3
end
end Go.PM
namespace Go.PM
theorem Ea {call:fN} {lo:Nat}:∀ {qJ:List PI} {ρ aU:Env} {H H':aD},gA call lo qJ ρ H=some (aU,H') →
  ∃st:Nat→Env×aD,st 0=(ρ,H)∧st qJ.length=(aU,H')∧∀i pi,qJ[i]? = some pi→vF call lo pi (st i).1 (st i).2=some (st (i+1))
 |
  [],ρ,aU,H,H',h=>by
  cases h
  exact⟨fun _=>(ρ,H),rfl,rfl,fun i pi hi=>by simp at hi⟩
 |
  x::qJ,ρ,aU,H,H',h=>by
  rw[gA] at h
  split at h
  ·rename_i tM H1 h1
   obtain⟨st,h2,h3,h4⟩:=Ea h
   refine⟨fun i=>match i with | 0=>(ρ,H) | i+1=>st i,rfl,h3,fun i pi hi => ?_⟩
   cases i with
   |
    zero =>
    simp at hi
    subst hi
    show vF call lo x ρ H=some (st 0)
    rw[h1,h2]
   | succ i=>exact h4 i pi (by simpa using hi)
  ·cases h
theorem gT {H1 H2:aD} {b:Nat} (h:H2[b]? = H1[b]?):Live H2 b↔Live H1 b:=by
 unfold Live
 rw[h]
theorem Rel.restrict {m:dH} {L0:Nat} {H1 H2:aD} {w:World} (h:Rel m L0 H2 w) (hs:∀b,b<H1.length→H2[b]? = H1[b]?):Rel m L0 H1 w:=by
 refine⟨h.valid,fun b l cs e p hm hb=>h.row b l cs e p hm ?_,fun b1 b2 l1 l2 hb h1 h2 CY Eo=>h.inj b1 b2 l1 l2 hb h1 h2 ((gT (hs b1 CY.lt)).2 CY) ((gT (hs b2 Eo.lt)).2 Eo),fun x hx=>⟨(h.A5 x hx).1,fun b l hb hm hl=>(h.A5 x hx).2 b l hb hm ((gT (hs b hl.lt)).2 hl)⟩⟩
 rw[hs b (List.getElem?_eq_some_iff.1 hb).1]
 exact hb
theorem Rel.grow {m:dH} {L0:Nat} {H1 H2:aD} {w:World} (h:Rel m L0 H1 w) (hs:∀b,b<H1.length→H2[b]? = H1[b]?) (hd:∀b,H1.length≤b→b<H2.length→m b=none):Rel m L0 H2 w:=by
 have lt:∀b l,m b=some l→b<H2.length→b<H1.length:=fun b l hm hb=>by
  rcases Nat.lt_or_ge b H1.length with h | h
  ·exact h
  ·rw[hd b h hb] at hm;cases hm
 refine⟨h.valid,fun b l cs e p hm hb=>h.row b l cs e p hm ?_,fun b1 b2 l1 l2 hb h1 h2 CY Eo=>h.inj b1 b2 l1 l2 hb h1 h2 ((gT (hs b1 (lt b1 l1 h1 CY.lt))).1 CY) ((gT (hs b2 (lt b2 l2 h2 Eo.lt))).1 Eo),fun x hx=>⟨(h.A5 x hx).1,fun b l hb hm hl=>(h.A5 x hx).2 b l hb hm ((gT (hs b (lt b l hm hl.lt))).1 hl)⟩⟩
 rw[←hs b (lt b l hm (List.getElem?_eq_some_iff.1 hb).1)]
 exact hb
structure Text (P:Program) (E:xV) (n:Nat) (ops:Array Oper) (qJ:List PI) (ps:List lL) (M:List Nat) (call:fN) (lo:Nat) (st:Nat→Env×aD):Prop where
 ok:aaX P E n ops.toList true qJ ps M
 ext:oV call
 step:∀i pi,qJ[i]? = some pi→vF call lo pi (st i).1 (st i).2=some (st (i+1))
section
variable {P:Program} {E:xV} {n:Nat} {ops:Array Oper} {qJ:List PI} {ps:List lL} {M:List Nat} {call:fN} {lo:Nat} {st:Nat→Env×aD}
theorem Text.at (T:Text P E n ops qJ ps M call lo st) {i:Nat} (hi:i<ops.size):∃o p pi,ops[i]? = some o∧ps[i]? = some p∧qJ[i]? = some pi∧Vx P E n ops.toList i o p pi∧MX E ops.toList ps M i o p pi ∧
  ∃v,wC call lo pi (st i).1 (st i).2=some (v,(st (i+1)).2)∧(st (i+1)).1=put (st i).1 o.dst v:=by
 have ho:ops.toList[i]? = some ops[i]:=by simp[hi]
 obtain⟨p,pi,h1,h2,h3,h4,_⟩:=T.ok.each i _ ho
 obtain⟨v,h5,h6⟩:=vO (T.step i pi h2)
 exact⟨ops[i],p,pi,by simp[hi],h1,h2,h3,h4 rfl,v,h5,by rw[h6,h3.dst]⟩
theorem Text.ajZ (T:Text P E n ops qJ ps M call lo st) {i:Nat} (hi:i<ops.size):(st i).2.length≤(st (i+1)).2.length:=by
 obtain⟨o,p,pi,_,_,_,_,_,v,hv,_⟩:=T.at hi
 exact(I6 T.ext hv).len
theorem Text.len (T:Text P E n ops qJ ps M call lo st) {i:Nat}:∀ {j:Nat},i≤j→j≤ops.size→(st i).2.length≤(st j).2.length:=by
 intro j QS
 induction j with
 | zero =>
    intro _;have:i=0:=by omega
    subst this;exact Nat.le_refl _
 |
  succ j ih =>
  intro hj
  rcases Nat.lt_or_ge i (j+1) with h | h
  ·exact Nat.le_trans (ih (by omega) (by omega)) (T.ajZ (by omega))
  ·have:i=j+1:=by omega
   subst this;exact Nat.le_refl _
theorem Text.akF (T:Text P E n ops qJ ps M call lo st) {i:Nat} {p:lL} (hi:i<ops.size) (hp:ps[i]? = some p) (hw:fE E p ≠ .write):∀b,b<(st i).2.length→(st (i+1)).2[b]? = (st i).2[b]? := by
 intro b hb
 obtain⟨o,p',pi,_,BF,_,Am,Um,v,hv,_⟩:=T.at hi
 rw[hp] at BF
 cases BF
 rcases qT hv with⟨_,_,h⟩ | ⟨_,_,h | ⟨f,args,h1,h2⟩⟩
 ·rw[h]
 ·rw[Am.op] at h
  by_cases hq:fE E p = .quiet
  ·rw[Wc (iZ:=(st i).2.length) hq] at h
   exact(SU h).low b hb hb
  ·
   have:(st (i+1)).2=(st i).2:=by
    cases p<;>first
     | (exact absurd rfl hw)
     | (exact absurd rfl hq)
     | (rw[uS rfl] at h;exact(BB h).2)
     | skip
    case load agg size q =>
     simp only[pop] at h
     cases hl:lU agg size (ev (st i).1 q) (st i).2 with
     | none=>rw[hl] at h;cases h
     | some u=>rw[hl] at h;injection h with h;injection h with _ h;exact h.symm
    case b2s x =>
     simp only[pop] at h
     split at h
     ·injection h with h;injection h with _ h;exact h.symm
     ·split at h
      ·rename_i cs _
       cases hb:rE cs with
       | none=>rw[hb] at h;cases h
       | some bs=>rw[hb] at h;injection h with h;injection h with _ h;exact h.symm
      ·cases h
     ·cases h
    case sub size x l hh mx =>
     simp only[pop] at h
     cases mx with
     | some mx=>exact absurd rfl hq
     |
      none =>
      cases hs:AU size (ev (st i).1 x) (l.map (ev (st i).1)) (hh.map (ev (st i).1)) ((none:Option Operand).map (ev (st i).1)) (st i).2 with
      | none=>rw[hs] at h;cases h
      |
       some q =>
       obtain⟨u,H1⟩:=q
       rw[hs] at h
       injection h with h;injection h with _ h
       subst h
       unfold AU at hs
       simp only[Option.map_none,Option.isSome_none,Bool.false_eq_true,false_and,if_false] at hs
       repeat' (split at hs)
       all_goals first
        | (cases hs;done)
        | (injection hs with hs;injection hs with _ hs;exact hs.symm)
    case call f args=>cases h
   rw[this]
 ·rw[Am.op] at h1
  have hq:pi.quiet=true:=by
   rw[Um.quiet]
   rcases pM h1 with⟨g,as,rfl⟩ | ⟨g,as,rfl⟩
   ·simp only[fE] at hw ⊢
    split at hw
    ·exact absurd rfl hw
    ·rename_i h;rw[if_neg h]
   ·exact absurd rfl hw
  rw[hq] at h2
  exact(T.ext _ _ _ _ _ _ h2).low b hb hb
end
end Go.PM
namespace Go.PM
theorem Ca {H H':aD} {lo b o:Nat} {new:List Value} (h:H.write lo b o new=some H') {b':Nat} (hb:b'≠b):H'[b']? = H[b']? := by
 obtain⟨cs,e,p,h1,h2,h3,h4,rfl⟩:=zP h
 exact List.getElem?_set_ne (Ne.symm hb)
theorem GF {H H':aD} {lo size bytes add:Nat} {x v:Value} {new:List Value} (h:dV lo size bytes x add new H=some (v,H')) {b':Nat} (hb:gW x≠some b') (aV:b'<H.length):H'[b']? = H[b']? := by
 unfold dV at h
 split at h
 case isFalse=>cases h
 split at h
 ·split at h
  ·split at h
   ·cases h;rfl
   ·split at h
    ·cases h;exact List.getElem?_append_left aV
    ·cases h
  ·cases h
 ·rename_i b o n c
  have eT:b'≠b:=fun e=>hb (by rw[e];rfl)
  split at h
  ·split at h
   ·split at h
    ·split at h
     ·cases h;rfl
     ·cases hw:aD.write H lo b (o+n*size) new with
      | none=>rw[hw] at h;cases h
      | some H1=>rw[hw] at h;cases h;exact Ca hw eT
    ·split at h
     ·split at h
      ·split at h
       ·cases h
        rw[List.getElem?_append_left (by simpa using aV)]
        exact List.getElem?_set_ne (Ne.symm eT)
       ·cases h
      ·cases h;exact List.getElem?_append_left aV
     ·cases h
   ·cases h
  ·cases h
 ·cases h
theorem ZK {E:xV} {lo:Nat} {p:lL} {ρ:Env} {H H':aD} {v:Value} {x:Operand} (h:pop lo p ρ H=some (.val v H')) (hw:fE E p = .write) (ht:CU p=some x) {b':Nat} (hb:gW (ev ρ x)≠some b') (aV:b'<H.length):H'[b']? = H[b']? := by
 cases p<;>first | (cases ht;done) | (cases hw;done) | skip
 case sub size y l hh mx=>cases mx<;>cases hw
 case store size q y =>
  cases ht
  simp only[pop] at h
  split at h
  ·rename_i b o he
   rw[he] at hb
   have eT:b'≠b:=fun e=>hb (by rw[e];rfl)
   split at h
   ·cases hw:H.write lo b o (aJ (ev ρ y)) with
    | none=>rw[hw] at h;cases h
    | some H1=>rw[hw] at h;cases h;exact Ca hw eT
   ·cases h
  ·cases h
 case app size bytes y z =>
  cases ht
  simp only[pop] at h
  split at h
  ·rename_i n _
   split at h
   ·rename_i new _
    cases ha:dV lo size bytes (ev ρ x) n new H with
    | none=>rw[ha] at h;cases h
    |
     some q =>
     obtain⟨u,H1⟩:=q
     rw[ha] at h;cases h;exact GF ha hb aV
   ·cases h
  ·cases h
 case appz z bytes y n =>
  cases ht
  simp only[pop] at h
  split at h
  ·rename_i k _
   split at h
   ·cases ha:dV lo z.length bytes (ev ρ x) k.toNat (cQ k.toNat z) H with
    | none=>rw[ha] at h;cases h
    |
     some q =>
     obtain⟨u,H1⟩:=q
     rw[ha] at h;cases h;exact GF ha hb aV
   ·cases h
  ·cases h
 case copy size y z =>
  cases ht
  simp only[pop] at h
  split at h
  ·cases h;rfl
  ·rename_i b o d _ s he _
   rw[he] at hb
   have eT:b'≠b:=fun e=>hb (by rw[e];rfl)
   split at h
   ·rename_i new _
    cases hw:H.write lo b o new with
    | none=>rw[hw] at h;cases h
    | some H1=>rw[hw] at h;cases h;exact Ca hw eT
   ·cases h
  ·cases h
 case clear z y =>
  cases ht
  simp only[pop] at h
  split at h
  ·cases h;rfl
  ·rename_i b o n _ he
   rw[he] at hb
   have eT:b'≠b:=fun e=>hb (by rw[e];rfl)
   split at h
   ·cases h;rfl
   ·cases hw:H.write lo b o (cQ n z) with
    | none=>rw[hw] at h;cases h
    | some H1=>rw[hw] at h;cases h;exact Ca hw eT
  ·cases h
theorem MT {H:aD} {b o n:Nat} {cs:List Value} (h:H.read b o n=some cs):b<H.length:=by
 unfold aD.read at h
 split at h
 ·rename_i hb;exact(List.getElem?_eq_some_iff.1 hb).1
 ·cases h
theorem Dx {H H2:aD} {b o n:Nat} (h:H2[b]? = H[b]?):H2.read b o n=H.read b o n:=by
 unfold aD.read
 rw[h]
theorem QB {agg:Bool} {size:Nat} {x v:Value} {H H2:aD} (h:lU agg size x H=some v) (hb:∀b,gW x=some b→b<H.length→H2[b]? = H[b]?):lU agg size x H2=some v:=by
 unfold lU at h ⊢
 split at h
 ·rename_i b o
  have aV:b<H.length:=by
   split at h
   ·cases hr:H.read b o size with
    | none=>rw[hr] at h;cases h
    | some cs=>exact MT hr
   ·cases hr:H.read b o 1 with
    | none=>rw[hr] at h;cases h
    | some cs=>exact MT hr
  have e:=hb b rfl aV
  simp only[Dx e]
  exact h
 ·cases h
theorem O1 {E:xV} {lo:Nat} {p:lL} {ρ:Env} {H H' H2:aD} {v:Value} (h:pop lo p ρ H=some (.val v H')) (hc:fE E p = .look) (hb:∀x,CU p=some x→∀b,gW (ev ρ x)=some b→b<H.length→H2[b]? = H[b]?) :
  H'=H∧pop lo p ρ H2=some (.val v H2):=by
 cases p<;>first | (cases hc;done) | skip
 case call f args=>simp only[fE] at hc;split at hc<;>cases hc
 case load agg size q =>
  simp only[pop] at h ⊢
  cases hl:lU agg size (ev ρ q) H with
  | none=>rw[hl] at h;cases h
  |
   some u =>
   rw[hl] at h
   cases h
   refine⟨rfl,?_⟩
   rw[QB hl (hb q rfl)]
   rfl
 case b2s x =>
  simp only[pop] at h ⊢
  split at h
  ·cases h;exact⟨rfl,rfl⟩
  ·rename_i b o n _ he
   split at h
   ·rename_i cs hr
    cases hbs:rE cs with
    | none=>rw[hbs] at h;cases h
    |
     some bs =>
     rw[hbs] at h
     cases h
     refine⟨rfl,?_⟩
     have e:=hb x rfl b (by rw[he];rfl) (MT hr)
     rw[Dx e,hr]
     simp only[hbs]
     rfl
   ·cases h
  ·cases h
 case sub size x l hh mx =>
  cases mx with
  | some mx=>cases hc
  |
   none =>
   simp only[pop] at h ⊢
   cases hs:AU size (ev ρ x) (l.map (ev ρ)) (hh.map (ev ρ)) ((none:Option Operand).map (ev ρ)) H with
   | none=>rw[hs] at h;cases h
   |
    some q =>
    obtain⟨u,H1⟩:=q
    rw[hs] at h
    cases h
    have oQ:=hb x rfl
    generalize ev ρ x=xv at hs oQ
    have key:H1=H∧AU size xv (l.map (ev ρ)) (hh.map (ev ρ)) ((none:Option Operand).map (ev ρ)) H2=some (u,H2):=by
     unfold AU at hs ⊢
     simp only[Option.map_none,Option.isSome_none,Bool.false_eq_true,false_and,if_false] at hs ⊢
     split at hs
     ·repeat' (split at hs)
      all_goals first | (cases hs;done) | skip
      cases hs
      simp_all
     ·rename_i b o n c
      split at hs
      ·rename_i cs e p lX
       have e1:=oQ b rfl (List.getElem?_eq_some_iff.1 lX).1
       rw[e1,lX]
       simp only
       repeat' (split at hs)
       all_goals first | (cases hs;done) | skip
       cases hs
       simp_all
      ·cases hs
     ·cases hs
    rw[key.2]
    exact⟨key.1,rfl⟩
section
variable {P:Program} {E:xV} {n:Nat} {ops:Array Oper} {qJ:List PI} {ps:List lL} {M:List Nat} {call:fN} {lo:Nat} {st:Nat→Env×aD}
theorem Text.Wp (T:Text P E n ops qJ ps M call lo st) {i:Nat}:∀ {j:Nat},i≤j→j≤ops.size→Ext lo (st i).2 (st j).2:=by
 intro j QS
 induction j with
 | zero =>
    intro _;have:i=0:=by omega
    subst this;exact Ext.refl _ _
 |
  succ j ih =>
  intro hj
  rcases Nat.lt_or_ge i (j+1) with h | h
  ·obtain⟨o,p,pi,_,_,_,_,_,v,hv,_⟩:=T.at (i:=j) (by omega)
   exact(ih (by omega) (by omega)).trans (I6 T.ext hv)
  ·have:i=j+1:=by omega
   subst this;exact Ext.refl _ _
theorem Text.VZ (T:Text P E n ops qJ ps M call lo st) {i:Nat}:∀ {j:Nat},i≤j→j≤ops.size→∀b,b<(st i).2.length →
  (∀k,i≤k→k<j→∀p pi,ps[k]? = some p→qJ[k]? = some pi→fE E p = .write→wS pi.g (st k).1=some true→∃x,CU p=some x∧gW (ev (st k).1 x)≠some b) →
  (st j).2[b]? = (st i).2[b]? := by
 intro j QS
 induction j with
 | zero =>
      intro _ b _ _;have:i=0:=by omega
      subst this;rfl
 |
  succ j ih =>
  intro hj b hb hk
  rcases Nat.lt_or_ge i (j+1) with h | h
  ·have aV:b<(st j).2.length:=Nat.lt_of_lt_of_le hb (T.len (by omega) (by omega))
   have h1:(st (j+1)).2[b]? = (st j).2[b]? := by
    obtain⟨o,p,pi,_,hp,Ue,Am,_,v,hv,_⟩:=T.at (i:=j) (by omega)
    by_cases hw:fE E p = .write
    ·rcases qT hv with⟨_,_,h⟩ | ⟨hwt,_,h | ⟨f,args,h1,h2⟩⟩
     ·rw[h]
     ·rw[Am.op] at h
      obtain⟨x,hx,eT⟩:=hk j (by omega) (by omega) p pi hp Ue hw hwt
      exact ZK h hw hx eT aV
     ·rw[Am.op] at h1
      obtain⟨x,hx,eT⟩:=hk j (by omega) (by omega) p pi hp Ue hw hwt
      rcases pM h1 with⟨g,as,rfl⟩ | ⟨g,as,rfl⟩<;>cases hx
    ·exact T.akF (by omega) hp hw b aV
   rw[h1]
   exact ih (by omega) (by omega) b hb fun k hk1 Y2=>hk k hk1 (by omega)
  ·have:i=j+1:=by omega
   subst this;rfl
theorem Text.same (T:Text P E n ops qJ ps M call lo st) {i j:Nat} (QS:i≤j) (hj:j≤ops.size) (hk:∀k,i≤k→k<j→∀p,ps[k]? = some p→fE E p ≠ .write):∀b,b<(st i).2.length→(st j).2[b]? = (st i).2[b]? :=
 fun b hb=>T.VZ QS hj b hb fun k h1 h2 p _ hp _ hw _=>absurd hw (hk k h1 h2 p hp)
theorem Text.MR (T:Text P E n ops qJ ps M call lo st) {i t:Nat}:∀ {j:Nat},i≤j→j≤ops.size→(∀k o,i≤k→k<j→ops[k]? = some o→o.dst≠some t)→(st j).1 t=(st i).1 t:=by
 intro j QS
 induction j with
 | zero =>
      intro _ _;have:i=0:=by omega
      subst this;rfl
 |
  succ j ih =>
  intro hj hk
  rcases Nat.lt_or_ge i (j+1) with h | h
  ·obtain⟨o,p,pi,ho,hp,Ue,Am,_,v,hv,he⟩:=T.at (i:=j) (by omega)
   rw[he]
   have eT:=hk j o (by omega) (by omega) ho
   have h1:put (st j).1 o.dst v t=(st j).1 t:=by
    cases hd:o.dst with
    | none=>rfl
    |
     some d =>
     rw[hd] at eT
     show (if t=d then v else _)=_
     rw[if_neg (fun e=>eT (by rw[e]))]
   rw[h1]
   exact ih (by omega) (by omega) fun k o hk1 Y2=>hk k o hk1 (by omega)
  ·have:i=j+1:=by omega
   subst this;rfl
end
end Go.PM
namespace Go.PM
theorem vM {M:List Nat} {i j:Nat} (h:i<j):ahead M i j=(M.getD j 0).testBit i:=by
 unfold ahead
 have e1:Nat.max i j=j:=Nat.max_eq_right (by omega)
 have e2:Nat.min i j=i:=Nat.min_eq_left (by omega)
 rw[e1,e2]
theorem WE {M:List Nat} {i j:Nat} (h:j<i):ahead M i j=(M.getD i 0).testBit j:=by
 unfold ahead
 have e1:Nat.max i j=i:=Nat.max_eq_left (by omega)
 have e2:Nat.min i j=j:=Nat.min_eq_right (by omega)
 rw[e1,e2]
theorem Ol {a:Act} {d t:Nat} {v:Value} (hd:d<a.tmps.size):(a.put (some d) v).tmps.getD t undef=if t=d then v else a.tmps.getD t undef:=by
 show (a.tmps.setIfInBounds d v).getD t undef=_
 rcases Nat.lt_or_ge t a.tmps.size with h | h
 ·by_cases e:t=d
  ·subst e;simp[h]
  ·simp[h,e,Ne.symm e]
 ·have:t≠d:=by omega
  simp[h,this]
theorem Eh (a:Act) (d:Option Nat) (v:Value):(a.put d v).tmps.size=a.tmps.size:=by
 cases d<;>simp[Act.put]
theorem EX (a:Act) (d:Option Nat) (v:Value):(a.put d v).defers=a.defers:=by
 cases d<;>rfl
section
variable {P:Program} {E:xV} {n:Nat} {ops:Array Oper} {qJ:List PI} {ps:List lL} {M:List Nat} {call:fN} {lo L0:Nat} {st:Nat→Env×aD}
structure pF (E:xV) (n:Nat) (ops:Array Oper) (ps:List lL) (lo L0:Nat) (st:Nat→Env×aD) (m0:dH) (w0:World) (ds:List Deferred) (S:Nat→Prop) (m:dH) (c:Nat) (a:Act) (w:World):Prop where
 EW:a.tmps.size=n
 defs:a.defers=ds
 back:∀i o,ops.toList[i]? = some o→S i→∀e∈o.after.toList,Region.binds .any e=true→S e.on
 tm:∀t j,j≤ops.size→(∀i o,ops.toList[i]? = some o→o.dst=some t→(S i↔i<j))→RV m ((st j).1 t) (a.tmps.getD t undef)
 K8:c≤ops.size
 before:∀i p,i<c→ps[i]? = some p→fE E p = .write→S i
 atc:c<ops.size→¬S c∧∃p,ps[c]? = some p∧fE E p = .write
 rel:Rel m L0 (st c).2 w
 tr:Trans lo m0 (st 0).2 w0 m (st c).2 w
 U7:∀b l,m b=some l→m0 b≠none∨∃i,S i∧i<ops.size∧(st i).2.length≤b∧b<(st (i+1)).2.length
theorem Text.anc (T:Text P E n ops qJ ps M call lo st) {S:Nat→Prop} (hS:∀i o,ops.toList[i]? = some o→S i→∀e∈o.after.toList,Region.binds .any e=true→S e.on) {k:Nat} {o:Oper} (ho:ops.toList[k]? = some o)
  (hk:∀e∈o.after.toList,Region.binds .any e=true→S e.on) {i:Nat} (hi:(M.getD k 0).testBit i=true):S i :=
 Qq (fun i o hio=>by
   obtain⟨p,pi,_,_,_,hd,_⟩:=T.ok.each i o hio
   exact(hd rfl).back) (fun i o hio=>by
   obtain⟨p,pi,_,_,_,hd,_⟩:=T.ok.each i o hio
   exact(hd rfl).mask) hS k o ho hk i hi
theorem Text.Sr (T:Text P E n ops qJ ps M call lo st) {i:Nat} {p:lL} (hi:i<ops.size) (hp:ps[i]? = some p) (h:fE E p = .pure∨fE E p = .look):(st (i+1)).2=(st i).2:=by
 obtain⟨o,p',pi,_,BF,_,Am,Um,v,hv,_⟩:=T.at hi
 rw[hp] at BF
 cases BF
 rcases qT hv with⟨_,_,h'⟩ | ⟨_,_,h' | ⟨f,args,h1,h2⟩⟩
 ·exact h'
 ·rw[Am.op] at h'
  rcases h with h | h
  ·have:rG p=true:=by
    cases p<;>first | rfl | (cases h;done) | skip
    case sub s x l hh mx=>cases mx<;>cases h
    case call f as=>simp only[fE] at h;split at h<;>cases h
   rw[uS this] at h'
   exact(BB h').2
  ·exact(O1 h' h (fun _ _ _ _ _=>rfl)).1
 ·exfalso
  rw[Am.op] at h1
  rcases pM h1 with⟨g,as,rfl⟩ | ⟨g,as,rfl⟩
  ·simp only[fE] at h
   split at h<;>rcases h with h | h<;>cases h
  ·rcases h with h | h<;>cases h
theorem UM {op:Op} {p:lL} {x:Operand} (h:nK P op=some p) (ht:CU p=some x):x∈op.operands:=by
 unfold nK at h
 split at h
 case isFalse=>cases h
 cases op with
 |
  load t q =>
  dsimp only at h
  cases hi:kK P t with
  | none=>rw[hi] at h;cases h
  | some u=>rw[hi] at h;cases h;cases ht;simp[Op.operands]
 |
  store t q v =>
  dsimp only at h
  cases hi:P.info? t with
  | none=>rw[hi] at h;cases h
  | some u=>rw[hi] at h;cases h;cases ht;simp[Op.operands]
 |
  slice t y l hh mx =>
  dsimp only at h
  split at h
  ·split at h
   ·cases h;cases ht
   ·cases h
  ·rename_i e _
   cases hi:kK P e with
   | none=>rw[hi] at h;cases h
   | some u=>rw[hi] at h;cases h;cases ht;simp[Op.operands]
  ·cases h
 |
  convert s d y =>
  dsimp only at h
  repeat' (split at h)
  all_goals first
   | (cases h;done)
   | (cases h;cases ht;done)
   | (cases h;cases ht;simp[Op.operands])
 |
  call c =>
  obtain⟨callee,args,ts⟩:=c
  cases callee with
  |
   builtin b =>
   simp only[mH] at h
   repeat' (split at h)
   all_goals first
    | (cases h;done)
    | (cases h;cases ht;done)
    | skip
   all_goals
    cases h
    cases ht
    have hm:x∈args.toList:=by simp_all
    simpa[Op.operands,Call.operands] using hm
  |
   value f =>
   cases f with
   | tmp g'=>cases h;cases ht
   | func g'=>cases h;cases ht
   | _=>cases h
  | invoke r s=>cases h
 |
  _ =>
  exfalso
  dsimp only at h
  try unfold Ah at h
  repeat' (split at h)
  all_goals first
   | contradiction
   | (cases h;done)
   | (cases h;cases ht;done)
   | exact map_none h (by intro y h;cases h;cases ht)
end
end Go.PM
namespace Go.PM
theorem De (p:Nat→Prop):∀(d c N:Nat),N-c=d→c≤N→∃c',c≤c'∧c'≤N∧(∀i,c≤i→i<c'→¬p i)∧(c'<N→p c')
 | 0,c,N,hd,hc=>⟨c,Nat.le_refl _,hc,fun i h1 h2=>by omega,fun h=>by omega⟩
 |
  d+1,c,N,hd,hc=>by
  by_cases hp:p c
  ·exact⟨c,Nat.le_refl _,hc,fun i h1 h2=>by omega,fun _=>hp⟩
  ·obtain⟨c',h1,h2,h3,h4⟩:=De p d (c+1) N (by omega) (by omega)
   refine⟨c',by omega,h2,fun i hi1 JN => ?_,h4⟩
   rcases Nat.lt_or_ge c i with h | h
   ·exact h3 i h JN
   ·have:i=c:=by omega
    subst this;exact hp
theorem Xd {m:dH} {v r:Value} {b:Nat} (h:RV m v r) (hb:gW v=some b):∃l,m b=some l:=by
 cases h<;>first | (cases hb;done) | (cases hb;exact⟨_,by assumption⟩)
section
variable {P:Program} {E:xV} {n:Nat} {ops:Array Oper} {qJ:List PI} {ps:List lL} {M:List Nat} {call:fN} {lo L0:Nat} {st:Nat→Env×aD}
 {m0:dH} {w0:World} {ds:List Deferred} {S:Nat→Prop} {m:dH} {c:Nat} {a:Act} {w:World} {k:Nat} {o:Oper} {p:lL} {pi:PI}
structure At (P:Program) (E:xV) (n:Nat) (ops:Array Oper) (qJ:List PI) (ps:List lL) (M:List Nat) (S:Nat→Prop) (k:Nat) (o:Oper) (p:lL) (pi:PI):Prop where
 lt:k<ops.size
 eo:ops[k]? = some o
 ep:ps[k]? = some p
 epi:qJ[k]? = some pi
 ok:Vx P E n ops.toList k o p pi
 dr:MX E ops.toList ps M k o p pi
 apF:¬S k
 anc:∀i,(M.getD k 0).testBit i=true→S i
 desc:∀i,i<ops.size→S i→(M.getD i 0).testBit k=true→False
theorem At.ah (A:At P E n ops qJ ps M S k o p pi) {i:Nat} (hi:i<ops.size) (h:i=k∨ahead M k i=true):S i↔i<k:=by
 rcases Nat.lt_trichotomy i k with h1 | h1 | h1
 ·refine⟨fun _=>h1,fun _ => ?_⟩
  rcases h with h | h
  ·omega
  ·rw[WE h1] at h;exact A.anc i h
 ·subst h1
  exact⟨fun h=>absurd h A.apF,fun h=>by omega⟩
 ·refine⟨fun hs => ?_,fun h=>by omega⟩
  rcases h with h | h
  ·omega
  ·rw[vM h1] at h;exact absurd h (fun h=>A.desc i hi hs h)
theorem DD {i:Nat} {oi:Oper} (h:ops.toList[i]? = some oi):i<ops.size:=by
 have:=(List.getElem?_eq_some_iff.1 h).1
 simpa using this
theorem At.reads (A:At P E n ops qJ ps M S k o p pi) (I:pF E n ops ps lo L0 st m0 w0 ds S m c a w):∀t∈tG ops.toList o,RV m ((st k).1 t) (a.tmps.getD t undef):=by
 intro t ht
 refine I.tm t k (Nat.le_of_lt A.lt) fun i oi hi hd => ?_
 exact A.ah (DD hi) (A.dr.Kv t (List.mem_append_right _ ht) i oi hi hd)
theorem At.operand (A:At P E n ops qJ ps M S k o p pi) (I:pF E n ops ps lo L0 st m0 w0 ds S m c a w) {x:Operand} (hx:x∈o.op.operands):RV m (ev (st k).1 x) (a.eval x) :=
 RE (HR A.ok.Tx x hx) fun t ht=>A.reads I t (C9 (ht▸hx))
theorem At.pair (T:Text P E n ops qJ ps M call lo st) {i j:Nat} {p q:lL} (QS:i<j) (hj:j<ops.size) (hp:ps[i]? = some p) (hq:ps[j]? = some q):∃qi,qJ[j]? = some qi∧Cq E ops.toList M i j p q qi.cf:=by
 obtain⟨o,q',qi,_,Kh,OR,_,hd,_⟩:=T.at hj
 rw[hq] at Kh
 cases Kh
 exact⟨qi,OR,hd.aiR i QS p hp⟩
theorem pF.late (T:Text P E n ops qJ ps M call lo st) (I:pF E n ops ps lo L0 st m0 w0 ds S m c a w) {i:Nat} {q:lL} (hi:c<i) (hn:i<ops.size) (hS:S i) (hq:ps[i]? = some q):fE E q = .pure∨fE E q = .look:=by
 obtain⟨hcS,pc,Ze,Rb⟩:=I.atc (by omega)
 obtain⟨qi,_,iC⟩:=At.pair T hi hn Ze hq
 unfold Cq at iC
 rw[Rb] at iC
 obtain⟨oi,_,_,hoi,_⟩:=T.at hn
 have Od:ops.toList[i]? = some oi:=by simpa using hoi
 have fin:ahead M c i=true→False:=fun h=>by
  rw[vM hi] at h
  exact hcS (T.anc I.back Od (I.back i oi Od hS) h)
 cases mN:fE E q with
 | pure=>exact .inl rfl
 | look=>exact .inr rfl
 | quiet=>rw[mN] at iC;exact absurd iC fin
 | write=>rw[mN] at iC;exact absurd iC fin
theorem pF.Kv (T:Text P E n ops qJ ps M call lo st) (I:pF E n ops ps lo L0 st m0 w0 ds S m c a w) (A:At P E n ops qJ ps M S k o p pi) {m':dH} {v rv:Value} (hm:∀b l,m b=some l→m' b=some l) (hv:RV m' v rv)
  (he:(st (k+1)).1=put (st k).1 o.dst v):∀t j,j≤ops.size→(∀i o,ops.toList[i]? = some o→o.dst=some t→((i=k∨S i)↔i<j))→RV m' ((st j).1 t) ((a.put o.dst rv).tmps.getD t undef):=by
 intro t j hj hw
 have Am:ops.toList[k]? = some o:=by simpa using A.eo
 cases hd:o.dst with
 |
  none =>
  show RV m' _ (a.tmps.getD t undef)
  refine(I.tm t j hj fun i oi hi W8 => ?_).mono hm
  have eT:i≠k:=fun e=>by subst e;rw[Am] at hi;cases hi;rw[hd] at W8;cases W8
  rw[←hw i oi hi W8]
  simp[eT]
 |
  some d =>
  rw[Ol (by rw[I.EW];exact A.ok.bound d hd)]
  by_cases htd:t=d
  ·subst htd
   rw[if_pos rfl]
   have hkj:k<j:=(hw k o Am hd).1 (.inl rfl)
   have e1:(st j).1 t=(st (k+1)).1 t:=by
    refine T.MR hkj hj fun i oi hi1 JN hoi W8 => ?_
    have Od:ops.toList[i]? = some oi:=by simpa using hoi
    have hS:=(hw i oi Od W8).2 JN
    have hik:i≠k:=by omega
    have:=(A.ah (DD Od) (A.dr.Kv t (List.mem_append_left _ (by rw[hd];simp)) i oi Od W8)).1 (hS.resolve_left hik)
    omega
   rw[e1,he,hd]
   show RV m' (if t=t then v else _) rv
   rw[if_pos rfl]
   exact hv
  ·rw[if_neg htd]
   refine(I.tm t j hj fun i oi hi W8 => ?_).mono hm
   have eT:i≠k:=fun e=>by subst e;rw[Am] at hi;cases hi;rw[hd] at W8;cases W8;exact htd rfl
   rw[←hw i oi hi W8]
   simp[eT]
theorem pF.XP (I:pF E n ops ps lo L0 st m0 w0 ds S m c a w) (A:At P E n ops qJ ps M S k o p pi) (hr:∀e∈o.after.toList,Region.binds .any e=true→S e.on) :
  ∀i oi,ops.toList[i]? = some oi→(i=k∨S i)→∀e∈oi.after.toList,Region.binds .any e=true→(e.on=k∨S e.on):=by
 intro i oi hi hS e he hb
 rcases hS with rfl | hS
 ·have:ops.toList[i]? = some o:=by simpa using A.eo
  rw[this] at hi
  cases hi
  exact .inr (hr e he hb)
 ·exact .inr (I.back i oi hi hS e he hb)
theorem E7 (T:Text P E n ops qJ ps M call lo st) {i j:Nat} {x:Operand} (QS:i≤j) (hj:j≤ops.size) (h:Ci ops.toList i j x=true):ev (st j).1 x=ev (st i).1 x:=by
 cases x with
 |
  tmp t =>
  refine T.MR QS hj fun q oq h1 h2 hoq hd => ?_
  have mT:=List.all_eq_true.1 h oq (by
   have aqK:ops.toList[q]? = some oq:=by simpa using hoq
   rw[List.mem_iff_getElem?]
   refine⟨q-i,?_⟩
   rw[List.getElem?_drop,List.getElem?_take,show i+(q-i)=q by omega,if_pos h2,aqK])
  simp[hd] at mT
 | const v=>rfl
 | global g=>rfl
 | func f=>rfl
theorem pF.look (T:Text P E n ops qJ ps M call lo st) (I:pF E n ops ps lo L0 st m0 w0 ds S m c a w) (A:At P E n ops qJ ps M S k o p pi) (zT:∀b,(st 0).2.length≤b→b<(st ops.size).2.length→m0 b=none)
  (mN:fE E p = .pure∨fE E p = .look) {v:Value} (hv:wC call lo pi (st k).1 (st k).2=some (v,(st (k+1)).2)):wC call lo pi (st k).1 (st c).2=some (v,(st c).2):=by
 rcases qT hv with⟨hw,rfl,_⟩ | ⟨hw,M0,hp | ⟨f,args,hp,_⟩⟩
 ·unfold wC
  rw[hw]
 ·unfold wC
  rw[hw]
  simp only[M0,if_true]
  have key:pop lo pi.op (st k).1 (st c).2=some (.val v (st c).2):=by
   rw[A.ok.op] at hp ⊢
   rcases mN with mN | mN
   ·have hlp:rG p=true:=by
     cases p<;>first | rfl | (cases mN;done) | skip
     case sub s x l hh mx=>cases mx<;>cases mN
     case call f as=>simp only[fE] at mN;split at mN<;>cases mN
    rw[uS hlp] at hp ⊢
    rw[(BB hp).1]
    rfl
   ·refine(O1 hp mN fun x hx b hb aV => ?_).2
    rcases Nat.lt_or_ge c k with hck | hck
    ·obtain⟨hcS,pc,Ze,Rb⟩:=I.atc (Nat.lt_trans hck A.lt)
     have Jc:b<(st c).2.length:=by
      rcases Nat.lt_or_ge b (st c).2.length with h | h
      ·exact h
      ·exfalso
       obtain⟨l,hl⟩:=Xd (A.operand I (UM A.ok.Tx hx)) hb
       have h0:=T.len (i:=0) (j:=c) (Nat.zero_le _) I.K8
       have h1:=T.len (i:=k) (j:=ops.size) (Nat.le_of_lt A.lt) (Nat.le_refl _)
       rcases I.U7 b l hl with h2 | ⟨i,hiS,dK,hi1,JN⟩
       ·exact h2 (zT b (by omega) (by omega))
       ·rcases Nat.lt_trichotomy i c with h3 | h3 | h3
        ·have:=T.len (i:=i+1) (j:=c) h3 I.K8
         omega
        ·subst h3;exact hcS hiS
        ·obtain⟨oi,qi,pii,_,OR,_⟩:=T.at dK
         have:=I.late T h3 dK hiS OR
         rw[T.Sr dK OR this] at JN
         omega
     refine(T.VZ (Nat.le_of_lt hck) (Nat.le_of_lt A.lt) b Jc fun j hj1 YF q qi hq OR hqw aaA => ?_).symm
     obtain⟨pi',ajT,iC⟩:=At.pair T YF A.lt hq A.ep
     rw[A.epi] at ajT
     cases ajT
     unfold Cq at iC
     rw[hqw,mN] at iC
     rcases iC with h | ⟨xa,xb,ha,oQ,hun,Il⟩
     ·exfalso
      rw[vM YF] at h
      have hjS:=A.anc j h
      rcases Nat.lt_or_ge c j with h3 | h3
      ·rcases I.late T h3 (Nat.lt_trans YF A.lt) hjS hq with h4 | h4<;>(rw[hqw] at h4;cases h4)
      ·have:j=c:=by omega
       subst this;exact hcS hjS
     ·rw[hx] at oQ
      cases oQ
      refine⟨xa,ha,fun e => ?_⟩
      have hk:=List.all_eq_true.1 M0 _ Il
      unfold yN at hk
      rw[E7 T (Nat.le_of_lt YF) (Nat.le_of_lt A.lt) hun,e,hb] at hk
      simp at hk
    ·refine T.VZ hck I.K8 b aV fun j hj1 YF q qi hq OR hqw aaA => ?_
     have hjk:k<j:=by
      rcases Nat.lt_or_ge k j with h | h
      ·exact h
      ·have:j=k:=by omega
       subst this
       rw[A.ep] at hq
       cases hq
       rw[hqw] at mN
       cases mN
     have hjn:j<ops.size:=Nat.lt_of_lt_of_le YF I.K8
     obtain⟨oj,q',qi',hoj,Kh,Yj,awN,_,vj,hvj,_⟩:=T.at hjn
     rw[hq] at Kh
     cases Kh
     rw[OR] at Yj
     cases Yj
     obtain⟨qi',Yj,iC⟩:=At.pair T hjk hjn A.ep hq
     rw[OR] at Yj
     cases Yj
     unfold Cq at iC
     rw[hqw,mN] at iC
     rcases iC with h | ⟨xa,xb,ha,oQ,hun,Il⟩
     ·exfalso
      rw[vM hjk] at h
      exact A.desc j hjn (I.before j q YF hq hqw) h
     ·rw[hx] at ha
      cases ha
      refine⟨xb,oQ,fun e => ?_⟩
      have anP:qi.cf.all (yN (st j).1)=true:=by
       rcases qT hvj with⟨h,_⟩ | ⟨_,h,_⟩
       ·rw[aaA] at h;cases h
       ·exact h
      have hk:=List.all_eq_true.1 anP _ Il
      unfold yN at hk
      rw[E7 T (Nat.le_of_lt hjk) (Nat.le_of_lt hjn) hun,e,hb] at hk
      simp at hk
  rw[key]
 ·exfalso
  rw[A.ok.op] at hp
  rcases pM hp with⟨g,as,rfl⟩ | ⟨g,as,rfl⟩
  ·simp only[fE] at mN
   split at mN<;>rcases mN with h | h<;>cases h
  ·rcases mN with h | h<;>cases h
end
end Go.PM
namespace Go.PM
section
variable {P:Program} {E:xV} {n:Nat} {ops:Array Oper} {qJ:List PI} {ps:List lL} {M:List Nat} {call:fN} {lo L0:Nat} {st:Nat→Env×aD}
 {m0:dH} {w0:World} {ds:List Deferred}
theorem Em {H:aD} {b:Nat} (h:H.length≤b):¬Live H b:=fun hl=>by have:=hl.lt;omega
theorem Yh {S:Nat→Prop} {m:dH} {c:Nat} {a:Act} {w:World} {k:Nat} {o:Oper} (T:Text P E n ops qJ ps M call lo st) (lR:tP P L0 call) (eJ:L0≤lo) (wX:L0≤(st 0).2.length)
  (zT:∀b,(st 0).2.length≤b→b<(st ops.size).2.length→m0 b=none) (I:pF E n ops ps lo L0 st m0 w0 ds S m c a w) (ho:ops[k]? = some o) (hkS:¬S k)
  (hr:∀e∈o.after.toList,Region.binds .any e=true→S e.on) {K:Act→World→Prop} {Q:Exit→Act→World→Prop}
  (hK:∀m' c' a' w',pF E n ops ps lo L0 st m0 w0 ds (fun i=>i=k∨S i) m' c' a' w'→K a' w'):wpOp P ops Q k K a w:=by
 have aV:k<ops.size:=(Array.getElem?_eq_some_iff.1 ho).1
 obtain⟨o',p,pi,Zu,hp,Ue,Am,Um,v,hv,he⟩:=T.at aV
 rw[ho] at Zu
 cases Zu
 have ho2:ops.toList[k]? = some o:=by simpa using ho
 have A:At P E n ops qJ ps M S k o p pi:=⟨aV,ho,hp,Ue,Am,Um,hkS,fun i hi=>T.anc I.back ho2 hr hi,fun i hi hS hb=>by
  have hio:ops.toList[i]? = some ops[i]:=by simp[hi]
  exact hkS (T.anc I.back hio (I.back i _ hio hS) hb)⟩
 have Rx:=A.reads I
 have aaQ:=T.len (i:=0) (j:=c) (Nat.zero_le _) I.K8
 have ajK:=T.len (i:=c) (j:=ops.size) I.K8 (Nat.le_refl _)
 have aiP:=T.len (i:=0) (j:=k) (Nat.zero_le _) (Nat.le_of_lt aV)
 have aoG:=T.len (i:=k+1) (j:=ops.size) aV (Nat.le_refl _)
 have aqA:=T.ajZ aV
 have hfk:∀b,(st k).2.length≤b→b<(st (k+1)).2.length→m b=none:=by
  intro b h1 h2
  cases hm:m b with
  | none=>rfl
  |
   some l =>
   exfalso
   rcases I.U7 b l hm with h3 | ⟨i,hiS,dK,hi1,JN⟩
   ·exact h3 (zT b (by omega) (by omega))
   ·rcases Nat.lt_trichotomy i k with h3 | h3 | h3
    ·have:=T.len (i:=i+1) (j:=k) h3 (Nat.le_of_lt aV)
     omega
    ·subst h3;exact hkS hiS
    ·have:=T.len (i:=k+1) (j:=i) h3 (Nat.le_of_lt dK)
     omega
 have OG:(fE E p = .pure∨fE E p = .look)→wpOp P ops Q k K a w:=by
  intro mN
  have hq:pi.quiet=false:=by
   rw[Um.quiet]
   rcases mN with h | h<;>rw[h]
  have hw:fE E p ≠ .write:=by rcases mN with h | h<;>(rw[h];exact fun h=>by cases h)
  refine Mk ho Am (fun h=>by rw[hq] at h;cases h) (I.look T A zT mN hv) Rx I.rel eJ (Nat.le_trans wX aaQ) (fun b h1 h2=>by omega) lR fun m' rv w' Rr hR hT => ?_
  rw[hq] at hT
  simp only[Bool.false_eq_true,if_false] at hT
  have hmm:m'=m:=by
   funext b
   cases hm:m b with
   | some l=>exact hT.ext b l hm
   |
    none =>
    cases hm':m' b with
    | none=>rfl
    | some l=>have:=(hT.new b l hm' hm).1;omega
  subst hmm
  refine hK m' c _ w' ⟨by rw[Eh];exact I.EW,by rw[EX];exact I.defs,I.XP A hr,I.Kv T A (fun _ _ h=>h) Rr he,I.K8,fun i q h1 h2 h3 => .inr (I.before i q h1 h2 h3),?_,hR,?_,?_⟩
  ·intro h
   obtain⟨h1,q,h2,h3⟩:=I.atc h
   refine⟨fun hS=>hS.elim (fun e => ?_) h1,q,h2,h3⟩
   subst e
   rw[hp] at h2
   cases h2
   exact hw h3
  ·exact Trans.trans (fun b h1 h2=>zT b h1 (by omega)) (T.Wp (Nat.zero_le _) I.K8) (Ext.refl _ _) I.tr hT
  ·intro b l hb
   exact(I.U7 b l hb).imp id fun⟨i,h1,h2⟩=>⟨i,.inr h1,h2⟩
 cases mN:fE E p with
 |
  write =>
  have hkc:k=c:=by
   rcases Nat.lt_trichotomy k c with h | h | h
   ·exact absurd (I.before k p h hp mN) hkS
   ·exact h
   ·exfalso
    obtain⟨hcS,pc,Ze,Rb⟩:=I.atc (by omega)
    obtain⟨qi,_,iC⟩:=At.pair T h aV Ze hp
    unfold Cq at iC
    rw[Rb,mN] at iC
    simp only at iC
    rw[vM h] at iC
    exact hcS (A.anc c iC)
  subst hkc
  refine Mk ho Am (fun hq=>by rw[Um.quiet,mN] at hq;cases hq) hv Rx I.rel eJ (Nat.le_trans wX aaQ) hfk lR fun m' rv w' Rr hR hT => ?_
  have hq:pi.quiet=false:=by rw[Um.quiet,mN]
  rw[hq] at hT
  simp only[Bool.false_eq_true,if_false] at hT
  obtain⟨c',T4,PQ,Zy,hc4⟩:=De (fun i=>∃q,ps[i]? = some q∧fE E q = .write) _ (k+1) ops.size rfl aV
  have Sd:∀b,b<(st (k+1)).2.length→(st c').2[b]? = (st (k+1)).2[b]? := T.same T4 PQ fun i h1 h2 q hq hw=>Zy i h1 h2 ⟨q,hq,hw⟩
  have anY:=T.len T4 PQ
  have aiB:=T.len (i:=c') (j:=ops.size) PQ (Nat.le_refl _)
  have ahN:∀b l,m' b=some l→m0 b≠none∨∃i,(i=k∨S i)∧i<ops.size∧(st i).2.length≤b∧b<(st (i+1)).2.length:=by
   intro b l hb
   cases hm:m b with
   | some l'=>exact(I.U7 b l' hm).imp id fun⟨i,h1,h2⟩=>⟨i,.inr h1,h2⟩
   | none=>exact .inr ⟨k,.inl rfl,aV,(hT.new b l hb hm).1⟩
  have abO:∀b,(st (k+1)).2.length≤b→b<(st c').2.length→m' b=none:=by
   intro b h1 h2
   cases hm:m' b with
   | none=>rfl
   |
    some l =>
    exfalso
    rcases ahN b l hm with h3 | ⟨i,hiS,dK,hi1,JN⟩
    ·exact h3 (zT b (by omega) (by omega))
    ·rcases Nat.lt_trichotomy i k with h3 | h3 | h3
     ·have:=T.len (i:=i+1) (j:=k) h3 (Nat.le_of_lt aV)
      omega
     ·subst h3;omega
     ·obtain⟨oi,qi,pii,_,OR,_⟩:=T.at dK
      have:=I.late T h3 dK (hiS.resolve_left (by omega)) OR
      rw[T.Sr dK OR this] at JN
      omega
  have hTT:Trans lo m0 (st 0).2 w0 m' (st (k+1)).2 w':=Trans.trans (fun b h1 h2=>zT b h1 (by omega)) (T.Wp (Nat.zero_le _) (Nat.le_of_lt aV)) (T.Wp (Nat.le_succ _) aV) I.tr hT
  refine hK m' c' _ w' ⟨by rw[Eh];exact I.EW,by rw[EX];exact I.defs,I.XP A hr,I.Kv T A hT.ext Rr he,PQ,?_,?_,hR.grow Sd abO,?_,ahN⟩
  ·intro i q hi hq hw
   rcases Nat.lt_trichotomy i k with h | h | h
   ·exact .inr (I.before i q h hq hw)
   ·exact .inl h
   ·exact absurd ⟨q,hq,hw⟩ (Zy i h hi)
  ·intro h
   obtain⟨q,hq,hw⟩:=hc4 h
   refine⟨fun hS => ?_,q,hq,hw⟩
   rcases hS with hS | hS
   ·omega
   ·rcases I.late T (by omega) h hS hq with h4 | h4<;>(rw[hw] at h4;cases h4)
  ·refine⟨hTT.ext,fun b l hb hn => ?_,hTT.size,hTT.bM,hTT.same⟩
   obtain⟨⟨h1,h2⟩,h3⟩:=hTT.new b l hb hn
   refine⟨⟨h1,by omega⟩,?_⟩
   rcases h3 with h3 | h3 | h3
   ·exact .inl h3
   ·exact .inr (.inl fun hl=>h3 ((gT (Sd b h2)).1 hl))
   ·exact .inr (.inr h3)
 |
  quiet =>
  have hkc:k<c:=by
   rcases Nat.lt_or_ge k c with h | h
   ·exact h
   ·exfalso
    rcases Nat.lt_or_ge c k with h' | h'
    ·obtain⟨hcS,pc,Ze,Rb⟩:=I.atc (by omega)
     obtain⟨qi,_,iC⟩:=At.pair T h' aV Ze hp
     unfold Cq at iC
     rw[Rb,mN] at iC
     simp only at iC
     rw[vM h'] at iC
     exact hcS (A.anc c iC)
    ·have:k=c:=by omega
     subst this
     obtain⟨_,pc,Ze,Rb⟩:=I.atc aV
     rw[hp] at Ze
     cases Ze
     rw[mN] at Rb
     cases Rb
  have TE:∀i,k<i→i<c→∀q,ps[i]? = some q→fE E q ≠ .write:=by
   intro i h1 h2 q hq hw
   have dK:i<ops.size:=Nat.lt_of_lt_of_le h2 I.K8
   obtain⟨qi,_,iC⟩:=At.pair T h1 dK hp hq
   unfold Cq at iC
   rw[mN,hw] at iC
   simp only at iC
   rw[vM h1] at iC
   exact A.desc i dK (I.before i q h2 hq hw) iC
  have J5:∀b,b<(st (k+1)).2.length→(st c).2[b]? = (st (k+1)).2[b]? := T.same hkc I.K8 fun i h1 h2 q hq=>TE i h1 h2 q hq
  have hs0:∀b,b<(st k).2.length→(st c).2[b]? = (st k).2[b]? := T.same (Nat.le_of_lt hkc) I.K8 fun i h1 h2 q hq=>by
   rcases Nat.lt_or_ge k i with h | h
   ·exact TE i h h2 q hq
   ·have:i=k:=by omega
    subst this
    rw[hp] at hq
    cases hq
    rw[mN]
    exact fun h=>by cases h
  have auD:=T.len (i:=k+1) (j:=c) hkc I.K8
  refine Mk ho Am (fun _=>mN) hv Rx (I.rel.restrict hs0) eJ (Nat.le_trans wX aiP) hfk lR fun m' rv w' Rr hR hT => ?_
  have hq:pi.quiet=true:=by rw[Um.quiet,mN]
  rw[hq] at hT
  simp only[if_true] at hT
  have xD:∀rb,rb<w.heap.size→w'.heap[rb]? = w.heap[rb]? := fun rb Bz=>hT.bM rb Bz fun b l hb _ hl=>absurd hl (Em hb)
  have pO:∀b l,m' b=some l→m b=none→((st k).2.length≤b∧b<(st (k+1)).2.length)∧(w.heap.size≤l.rb∨¬Live (st (k+1)).2 b):=by
   intro b l h1 h2
   obtain⟨h3,h4⟩:=hT.new b l h1 h2
   refine⟨h3,?_⟩
   rcases h4 with h4 | h4 | ⟨b0,l0,g1,_,g3,_⟩
   ·exact .inl h4
   ·exact .inr h4
   ·exact absurd g3 (Em g1)
  have ajS:∀b l,m b=some l→l.rb<w.heap.size:=by
   intro b l hb
   obtain⟨arr,e,fz,h1,_⟩:=I.rel.valid b l hb
   exact(Array.getElem?_eq_some_iff.1 h1).1
  have agX:∀rb j,rb<w.heap.size→w'.cell? ⟨rb,j,none⟩=w.cell? ⟨rb,j,none⟩:=by
   intro rb j Bz
   unfold World.cell?
   simp only[xD rb Bz]
  have zM:∀b l,m' b=some l→(st (k+1)).2.length≤b→m b=some l:=by
   intro b l hb h
   cases hm:m b with
   | some l'=>have:=hT.ext b l' hm;rw[hb] at this;exact this.symm
   | none=>have:=(pO b l hb hm).1.2;omega
  refine hK m' c _ w' ⟨by rw[Eh];exact I.EW,by rw[EX];exact I.defs,I.XP A hr,I.Kv T A hT.ext Rr he,I.K8,fun i q h1 h2 h3 => .inr (I.before i q h1 h2 h3),?_,⟨hR.valid,?_,?_,?_⟩,?_,?_⟩
  ·intro h
   obtain⟨h1,q,h2,h3⟩:=I.atc h
   exact⟨fun hS=>hS.elim (fun e=>by omega) h1,q,h2,h3⟩
  ·intro b l cs e pp hm hb
   rcases Nat.lt_or_ge b (st (k+1)).2.length with h | h
   ·exact hR.row b l cs e pp hm (by rw[←J5 b h];exact hb)
   ·have hmo:=zM b l hm h
    obtain⟨h1,h2,h3,h4⟩:=I.rel.row b l cs e pp hmo hb
    refine⟨h1,h2,h3,fun i hi => ?_⟩
    obtain⟨rv',g1,g2,g3⟩:=h4 i hi
    exact⟨rv',by rw[agX _ _ (ajS b l hmo)];exact g1,g2.mono hT.ext,g3⟩
  ·intro b1 b2 l1 l2 CI h1 h2 CY Eo Bz
   have fresh:∀b b' l l',m' b=some l→m b=none→m b'=some l'→Live (st c).2 b→l.rb=l'.rb→False:=by
    intro b b' l l' g1 g2 g3 g4 g5
    obtain⟨⟨_,g6⟩,g7⟩:=pO b l g1 g2
    rcases g7 with g7 | g7
    ·have:=ajS b' l' g3;omega
    ·exact g7 ((gT (J5 b g6)).1 g4)
   cases Na:m b1 with
   |
    some l1' =>
    cases Yx:m b2 with
    |
     some l2' =>
     have e1:l1'=l1:=by have:=hT.ext b1 l1' Na;rw[h1] at this;injection this with this;exact this.symm
     have e2:l2'=l2:=by have:=hT.ext b2 l2' Yx;rw[h2] at this;injection this with this;exact this.symm
     subst e1 e2
     exact I.rel.inj b1 b2 _ _ CI Na Yx CY Eo Bz
    |
     none =>
     have e1:l1'=l1:=by have:=hT.ext b1 l1' Na;rw[h1] at this;injection this with this;exact this.symm
     subst e1
     exact(fresh b2 b1 _ _ h2 Yx Na Eo Bz.symm).elim
   |
    none =>
    cases Yx:m b2 with
    |
     some l2' =>
     have e2:l2'=l2:=by have:=hT.ext b2 l2' Yx;rw[h2] at this;injection this with this;exact this.symm
     subst e2
     exact(fresh b1 b2 _ _ h1 Na Yx CY Bz).elim
    |
     none =>
     have g1:=(pO b1 l1 h1 Na).1.2
     have g2:=(pO b2 l2 h2 Yx).1.2
     exact hR.inj b1 b2 l1 l2 CI h1 h2 ((gT (J5 b1 g1)).1 CY) ((gT (J5 b2 g2)).1 Eo) Bz
  ·intro x hx
   refine⟨(hR.A5 x hx).1,fun b l hb hm hl => ?_⟩
   obtain⟨⟨e0,fz0,q1⟩,q2⟩:=I.rel.A5 x hx
   cases Na:m b with
   |
    some l' =>
    have e1:l'=l:=by have:=hT.ext b l' Na;rw[hm] at this;injection this with this;exact this.symm
    subst e1
    exact q2 b l' hb Na hl
   |
    none =>
    obtain⟨⟨_,g6⟩,g7⟩:=pO b l hm Na
    rcases g7 with g7 | g7
    ·have:=(Array.getElem?_eq_some_iff.1 q1).1
     omega
    ·exact(g7 ((gT (J5 b g6)).1 hl)).elim
  ·refine⟨fun b l hb=>hT.ext b l (I.tr.ext b l hb),fun b l hb hn => ?_,Nat.le_trans I.tr.size hT.size,fun rb Bz hk => ?_,hT.same.1.trans I.tr.same.1,hT.same.2.1.trans I.tr.same.2.1,hT.same.2.2.trans I.tr.same.2.2⟩
   ·cases hm:m b with
    |
     some l' =>
     have e1:l'=l:=by have:=hT.ext b l' hm;rw[hb] at this;injection this with this;exact this.symm
     subst e1
     exact I.tr.new b l' hm hn
    |
     none =>
     obtain⟨⟨g1,g2⟩,g3⟩:=pO b l hb hm
     refine⟨⟨by omega,by omega⟩,?_⟩
     rcases g3 with g3 | g3
     ·exact .inl (Nat.le_trans I.tr.size g3)
     ·exact .inr (.inl fun hl=>g3 ((gT (J5 b g2)).1 hl))
   ·rw[xD rb (Nat.lt_of_lt_of_le Bz I.tr.size),I.tr.bM rb Bz hk]
  ·intro b l hb
   cases hm:m b with
   | some l'=>exact(I.U7 b l' hm).imp id fun⟨i,h1,h2⟩=>⟨i,.inr h1,h2⟩
   | none=>exact .inr ⟨k,.inl rfl,aV,(pO b l hb hm).1⟩
 | pure=>exact OG (.inl mN)
 | look=>exact OG (.inr mN)
end
end Go.PM
namespace Go.PM
section
variable {P:Program} {E:xV} {n:Nat} {call:fN} {lo L0:Nat}
theorem Trans.fresh {m m':dH} {H H1 H2:aD} {w w':World} (h:Trans lo m H w m' H1 w') (h1:H.length≤H1.length) (hf:∀b,H.length≤b→b<H2.length→m b=none):∀b,H1.length≤b→b<H2.length→m' b=none:=by
 intro b CI hb2
 cases hm:m' b with
 | none=>rfl
 |
  some l =>
  exfalso
  have hn:=hf b (by omega) hb2
  have:=(h.new b l hm hn).1
  omega
structure FQ (n L0:Nat) (m:dH) (ρ:Env) (H:aD) (a:Act) (w:World):Prop where
 EW:a.tmps.size=n
 defs:a.defers=[]
 env:∀t,RV m (ρ t) (a.tmps.getD t undef)
 rel:Rel m L0 H w
theorem K3 {p q:Nat→Bool}:∀ {l:List Nat} {i:Nat},(∀x∈l,q x=true→p x=true)→i∈l→p i=true→q i=false→l.countP q<l.countP p
 |
  x::l,i,h,hi,hp,hq=>by
  rw[List.countP_cons,List.countP_cons]
  have hle:l.countP q≤l.countP p:=List.countP_mono_left fun x hx=>h x (List.mem_cons_of_mem _ hx)
  rcases List.mem_cons.1 hi with rfl | hi
  ·rw[if_neg (by simp[hq]),if_pos hp];omega
  ·have:=K3 (fun x hx=>h x (List.mem_cons_of_mem _ hx)) hi hp hq
   have:(if q x=true then 1 else 0)≤(if p x=true then 1 else 0):=by
    by_cases hqx:q x=true
    ·rw[if_pos hqx,if_pos (h x List.mem_cons_self hqx)];omega
    ·rw[if_neg hqx];omega
   omega
theorem JG {listed:Array Bool} {k i:Nat} (hk:k<listed.size):(listed.setIfInBounds k true).getD i false=true↔(i=k∨listed.getD i false=true):=by
 rcases Nat.lt_or_ge i listed.size with h | h
 ·by_cases e:i=k
  ·subst e;simp[h]
  ·simp[h,e,Ne.symm e]
 ·have:i≠k:=by omega
  simp[h,this]
theorem YH {ops:Array Oper} {qJ:List PI} {ps:List lL} {M:List Nat} {st:Nat→Env×aD} {m0:dH} {w0:World} (T:Text P E n ops qJ ps M call lo st) (lR:tP P L0 call) (eJ:L0≤lo) (wX:L0≤(st 0).2.length)
  (zT:∀b,(st 0).2.length≤b→b<(st ops.size).2.length→m0 b=none) {Q:Exit→Act→World→Prop}
  (hQ:∀m' a' w',FQ n L0 m' (st ops.size).1 (st ops.size).2 a' w'→Trans lo m0 (st 0).2 w0 m' (st ops.size).2 w'→Q .normal a' w') :
  ∀(fuel:Nat) (listed:Array Bool) (m:dH) (c:Nat) (a:Act) (w:World),listed.size=ops.size→((List.range ops.size).countP fun i => !listed.getD i false)≤fuel →
  pF E n ops ps lo L0 st m0 w0 [] (fun i=>listed.getD i false=true) m c a w→wpAny P .any ops Q fuel listed a w:=by
 have fin:∀(listed:Array Bool) (m:dH) (c:Nat) (a:Act) (w:World),listed.size=ops.size→(Region.ready .any ops listed=[])→pF E n ops ps lo L0 st m0 w0 [] (fun i=>listed.getD i false=true) m c a w→Q .normal a w:=by
  intro listed m c a w hs hr I
  have all:∀i,i<ops.size→listed.getD i false=true:=by
   intro i
   induction i using Nat.strongRecOn with
   |
    _ i ih =>
    intro hi
    cases hl:listed.getD i false with
    | true=>rfl
    |
     false =>
     exfalso
     obtain⟨o,p,pi,ho,_,_,_,Um,_⟩:=T.at hi
     have:i∈Region.ready .any ops listed:=by
      rw[mem_ready]
      refine⟨?_,o,ho,fun e he hb => ?_⟩
      ·have Qk:i<listed.size:=by omega
       simpa[Qk] using hl
      ·have:=Um.back e (by simpa using he) hb
       exact ih e.on this (by omega)
     rw[hr] at this
     cases this
  have hcN:c=ops.size:=by
   rcases Nat.lt_or_ge c ops.size with h | h
   ·exact absurd (all c h) (I.atc h).1
   ·have:=I.K8;omega
  subst hcN
  exact hQ m a w ⟨I.EW,I.defs,fun t=>I.tm t ops.size (Nat.le_refl _) fun i o hi _=>⟨fun _=>DD hi,fun h=>all i h⟩,I.rel⟩ I.tr
 intro fuel
 induction fuel with
 |
  zero =>
  intro listed m c a w hs hc I
  have hr:Region.ready .any ops listed=[]:=by
   rw[List.eq_nil_iff_forall_not_mem]
   intro i hi
   have nF:=mem_ready.1 hi
   obtain⟨h1,o,ho,_⟩:=nF
   have aV:i<ops.size:=(Array.getElem?_eq_some_iff.1 ho).1
   have h0:((List.range ops.size).countP fun i => !listed.getD i false)=0:=by omega
   rw[List.countP_eq_zero] at h0
   have:=h0 i (List.mem_range.2 aV)
   have Qk:i<listed.size:=by omega
   simp[Qk] at this h1
   rw[h1] at this
   cases this
  exact⟨hr,fin listed m c a w hs hr I⟩
 |
  succ fuel ih =>
  intro listed m c a w hs hc I
  refine⟨fun hr=>fin listed m c a w hs hr I,fun k hk => ?_⟩
  obtain⟨h1,o,ho,hb⟩:=mem_ready.1 hk
  have aV:k<ops.size:=(Array.getElem?_eq_some_iff.1 ho).1
  have hkl:k<listed.size:=by omega
  have hkf:listed.getD k false=false:=by simpa[hkl] using h1
  refine Yh T lR eJ wX zT I ho (by rw[hkf];exact fun h=>by cases h) (fun e he YD=>hb e (by simpa using he) YD) fun m' c' a' w' I'=>ih _ m' c' a' w' (by simpa using hs) ?_ ?_
  ·have:((List.range ops.size).countP fun i => !(listed.setIfInBounds k true).getD i false)<((List.range ops.size).countP fun i => !listed.getD i false):=by
    refine K3 (i:=k) (fun x _ hx => ?_) (List.mem_range.2 aV) (by rw[hkf];rfl) ?_
    ·cases hlx:listed.getD x false with
     | false=>rfl
     |
      true =>
      have:=(JG (i:=x) hkl).2 (.inr hlx)
      rw[this] at hx
      cases hx
    ·rw[(JG hkl).2 (.inl rfl)];rfl
   omega
  ·have e:(fun i=>(listed.setIfInBounds k true).getD i false=true)=fun i=>i=k∨listed.getD i false=true:=by
    funext i
    exact propext (JG hkl)
   rw[e]
   exact I'
theorem Rel.drew {m:dH} {H:aD} {w w':World} (h:Rel m L0 H w) (hw:w'.heap=w.heap):Rel m L0 H w':=by
 have hc:∀x,w'.cell? x=w.cell? x:=fun x=>by unfold World.cell?;rw[hw]
 refine⟨fun b l hb=>by rw[hw];exact h.valid b l hb,fun b l cs e p hm hb => ?_,h.inj,fun x hx=>⟨by rw[hw];exact(h.A5 x hx).1,(h.A5 x hx).2⟩⟩
 obtain⟨h1,h2,h3,h4⟩:=h.row b l cs e p hm hb
 refine⟨h1,h2,h3,fun i hi => ?_⟩
 rw[hc]
 exact h4 i hi
theorem Rc {id:Nat} {ops:Array Oper} {draw:Bool} {qJ:List PI} (Br:P.follows .mixedOrders=true) (lR:tP P L0 call) (oI:oV call) (hp:uH P E n ops draw=some qJ) {ρ aU:Env} {H H':aD}
  (hv:gA call lo qJ ρ H=some (aU,H')) {m:dH} {a:Act} {w:World} (h:FQ n L0 m ρ H a w) (eJ:L0≤lo) (hlen:L0≤H.length) (hf:∀b,H.length≤b→b<H'.length→m b=none) {Q:Exit→Act→World→Prop}
  (hQ:∀m' a' w',FQ n L0 m' aU H' a' w'→Trans lo m H w m' H' w'→Q .normal a' w'):(Code.region id ops draw).wp P Q a w:=by
 obtain⟨ps,M,Am⟩:=Hf hp
 obtain⟨st,hs0,hsn,J0⟩:=Ea hv
 have hN:qJ.length=ops.size:=by rw[Am.apY];simp
 rw[hN] at hsn
 cases draw with
 |
  true =>
  have T:Text P E n ops qJ ps M call lo st:=⟨Am,oI,J0⟩
  apply wp_region_any Br
  have e0:(st 0).1=ρ:=by rw[hs0]
  have e1:(st 0).2=H:=by rw[hs0]
  have e2:(st ops.size).1=aU:=by rw[hsn]
  have e3:(st ops.size).2=H':=by rw[hsn]
  obtain⟨c,T4,PQ,Zy,hc4⟩:=De (fun i=>∃q,ps[i]? = some q∧fE E q = .write) _ 0 ops.size rfl (Nat.zero_le _)
  have Sd:=T.same T4 PQ fun i h1 h2 q hq hw=>Zy i h1 h2 ⟨q,hq,hw⟩
  have ajK:=T.len T4 PQ
  have aiB:=T.len (i:=c) (j:=ops.size) PQ (Nat.le_refl _)
  have hgr:=h.rel.grow (by rw[←e1];exact Sd) (fun b h1 h2=>hf b h1 (by rw[←e3];omega))
  have XF:∀i,(Array.replicate ops.size false).getD i false=true→False:=by
   intro i hi
   rcases Nat.lt_or_ge i ops.size with h | h<;>simp[h] at hi
  refine YH (m0:=m) (w0:=w) T lR eJ (by rw[e1];exact hlen) (by rw[e1,e3];exact hf) (by rw[e1,e2,e3];exact hQ) ops.size _ m c a _ (by simp) (Nat.le_trans List.countP_le_length (by simp)) ?_
  refine⟨h.EW,h.defs,fun i o _ hi=>(XF i hi).elim,fun t j hj hw => ?_,PQ,fun i q hi hq hw=>absurd ⟨q,hq,hw⟩ (Zy i (Nat.zero_le _) hi),fun hc=>⟨fun h=>XF _ h,hc4 hc⟩,hgr.drew rfl,?_,fun b l hb => .inl (by rw[hb];exact fun h=>by cases h)⟩
  ·have e:(st j).1 t=ρ t:=by
    rw[←e0]
    refine T.MR (Nat.zero_le _) hj fun i oi _ JN hoi hd => ?_
    have Od:ops.toList[i]? = some oi:=by simpa using hoi
    exact(XF i ((hw i oi Od hd).2 JN)).elim
   rw[e]
   exact h.env t
  ·rw[e1]
   refine⟨fun _ _ h=>h,fun b l hb hn=>(by rw[hb] at hn;cases hn),Nat.le_refl _,fun _ _ _=>rfl,rfl,rfl,rfl⟩
 |
  false =>
  apply wp_region
  have key:∀d i,ops.size-i=d→i≤ops.size→∀m1 a1 w1,FQ n L0 m1 (st i).1 (st i).2 a1 w1→L0≤(st i).2.length→(∀b,(st i).2.length≤b→b<H'.length→m1 b=none) →
    (∀m' a' w',FQ n L0 m' aU H' a' w'→Trans lo m1 (st i).2 w1 m' H' w'→Q .normal a' w')→wpOps P ops Q ((List.range ops.size).drop i) a1 w1:=by
   intro d
   induction d with
   |
    zero =>
    intro i hd hi m1 a1 w1 h1 _ _ hQ1
    have:i=ops.size:=by omega
    subst this
    rw[List.drop_eq_nil_of_le (by simp)]
    rw[hsn] at h1 hQ1
    exact hQ1 m1 a1 w1 h1 (Trans.refl _ _ _ _)
   |
    succ d ih =>
    intro i hd hi m1 a1 w1 h1 CY hf1 hQ1
    have aV:i<ops.size:=by omega
    rw[List.drop_eq_getElem_cons (by simpa using aV),wpOps_cons]
    have ho:ops.toList[i]? = some ops[i]:=by simp[aV]
    obtain⟨p,pi,hp1,RP,acK,_,Um⟩:=Am.each i _ ho
    have aaZ:=J0 i pi RP
    obtain⟨v,hv1,hv2⟩:=vO aaZ
    have hq:pi.quiet=false:=(Um rfl).1
    have hE1:=FL oI aaZ
    have hE2:Ext lo (st (i+1)).2 H':=by
     have:∀d j,ops.size-j=d→j≤ops.size→Ext lo (st j).2 H':=by
      intro d
      induction d with
      | zero =>
        intro j hd hj;have:j=ops.size:=by omega
        subst this;rw[hsn];exact Ext.refl _ _
      |
       succ d ih =>
       intro j hd hj
       have hjl:j<qJ.length:=by omega
       exact(FL oI (J0 j qJ[j] (List.getElem?_eq_getElem hjl))).trans (ih (j+1) (by omega) (by omega))
     exact this _ (i+1) rfl aV
    have CC:(List.range ops.size)[i]'(by simpa using aV)=i:=by simp
    rw[CC]
    refine Mk (by simp[aV]) acK (fun h=>by rw[hq] at h;cases h) hv1 (fun t _=>h1.env t) h1.rel eJ CY (fun b CI hb2=>hf1 b CI (Nat.lt_of_lt_of_le hb2 hE2.len)) lR fun m' rv w' Rr hR hT => ?_
    rw[hq] at hT
    simp only[Bool.false_eq_true,if_false] at hT
    refine ih (i+1) (by omega) aV m' _ w' ⟨by rw[Eh];exact h1.EW,by rw[EX];exact h1.defs,fun t => ?_,hR⟩ (Nat.le_trans CY hE1.len) (hT.fresh hE1.len hf1) fun m2 a2 w2 h2 hT2=>hQ1 m2 a2 w2 h2 (Trans.trans hf1 hE1 hE2 hT hT2)
    rw[hv2,acK.dst]
    cases hd:ops[i].dst with
    | none=>exact(h1.env t).mono hT.ext
    |
     some d =>
     rw[Ol (by rw[h1.EW];exact acK.bound d hd)]
     show RV m' (if t=d then v else (st i).1 t) _
     by_cases e:t=d
     ·rw[if_pos e,if_pos e];exact Rr
     ·rw[if_neg e,if_neg e];exact(h1.env t).mono hT.ext
  have:=key ops.size 0 (by omega) (Nat.zero_le _) m a w (by rw[hs0];exact h) (by rw[hs0];exact hlen) (by rw[hs0];exact hf) (by rw[hs0];exact hQ)
  simpa using this
end
end Go.PM