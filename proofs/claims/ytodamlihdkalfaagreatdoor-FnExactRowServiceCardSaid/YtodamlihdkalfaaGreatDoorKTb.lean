/- Texts of a claim, in one: part 2. -/
import Derived.LoopN
import Derived.Test.YtodamlihdkalfaaGreatDoorKTa
set_option linter.unusedSimpArgs false
set_option linter.unusedVariables false
namespace Go.PM
section
variable {P:Program} {m:dC} {L0:Nat} {H:aD} {w:World}
theorem RL.const {zs:List Value} (h:zs.all jR=true):RL m zs zs :=
 ⟨rfl,fun j hj=>by
  have:=RV.const (m:=m) (List.all_eq_true.1 h _ (List.getElem_mem hj))
  simpa[List.getD_eq_getElem?_getD,List.getElem?_eq_getElem hj] using this⟩
theorem sB (n:Nat) (zs:List Value):(cR n zs).length=n*zs.length:=by simp[cR]
theorem tO (n:Nat) {zs:List Value} (h:zs.all jR=true) (h0:1≤zs.length):RL m (cR n zs) (cR n zs):=by
 refine⟨rfl,fun i hi => ?_⟩
 rw[sB] at hi
 have aU:i % zs.length<zs.length:=Nat.mod_lt _ h0
 have e:(cR n zs).getD i undef=zs.getD (i % zs.length) undef:=by simp[cR,List.getD_eq_getElem?_getD,hi]
 rw[e]
 exact(RL.const h).2 _ aU
theorem O6 (n:Nat) {zs:List Value} (h:zs.all fD=true) (h0:1≤zs.length):(cR n zs).all fD=true:=by
 rw[List.all_eq_true]
 intro x hx
 obtain⟨i,_,rfl⟩:=List.mem_map.1 hx
 have aU:i % zs.length<zs.length:=Nat.mod_lt _ h0
 have:=List.all_eq_true.1 h _ (List.getElem_mem aU)
 simpa[List.getD_eq_getElem?_getD,List.getElem?_eq_getElem aU] using this
theorem Hu (z:Array Value) (n:Nat) (h0:1≤z.size):(madeCells z (n*z.size)).toList=cR n z.toList:=by
 apply List.ext_getElem
 ·simp[madeCells,cR]
 ·intro i h1 h2
  have aU:i % z.size<z.size:=Nat.mod_lt _ h0
  simp[madeCells,cR,aU]
theorem Eu (z:Array Value) (n:Nat) (h0:1≤z.size):(Builtin.zeroCells z n).toList=cR n z.toList:=by
 apply List.ext_getElem
 ·simp[Builtin.zeroCells,cR]
 ·intro i h1 h2
  have aU:i % z.size<z.size:=Nat.mod_lt _ h0
  simp[Builtin.zeroCells,cR,aU]
theorem Za {t:TypeId} {agg:Bool} {size nb lo:Nat} {z:List Value} (ht:kM P t=some (agg,size,z,nb)) (Ga:z.all fD=true) (Qx:z.all jR=true) (hR:Rel m L0 H w) (hf:m H.length=none) :
  cF P (do pure (.value (←Instr.alloc t true (.tuple #[])))) L0 lo m H w (.pointer (some ⟨H.length,0,none⟩)) (H++[.row z z.length false]):=by
 obtain⟨i,d,zz,hi,hd,F4,rfl,rfl,rfl,rfl⟩:=gW ht
 have nC:(Instr.alloc t true (.tuple #[])).run P w = .ok (.pointer (some ⟨w.heap.size,0,none⟩)) (w.alloc (.cells zz.cells t)):=by
  simp[Instr.alloc,zeroValue,typeInfo,hi,F4,newVar,newRow]
 have hA:=tZ hR hf (w':=w.alloc (.cells zz.cells t)) (arr:=zz.cells) (e:=t) (fz:=(0,0)) rfl ⟨rfl,rfl,rfl⟩ (cs:=aK zz) (eY:=(aK zz).length) (OB:=false)
  (by rw[eQ];exact Nat.le_refl _) (fun i hi=>by
   have:=(RL.const (m:=m) Qx).2 i hi
   rwa [←xE,fH]) Ga (fun j _ h=>by simp at h)
 exact cF.value nC (.ptr _ 0 _ (bP m _ _)) hA.1 (hA.2 lo)
theorem Xa {t:TypeId} {v r:Value} {lo:Nat} (hv:RV m v r) (hs:(aK v).all fD=true) (hR:Rel m L0 H w) (hf:m H.length=none) :
  cF P (do pure (.value (←Instr.box t r))) L0 lo m H w (.pointer (some ⟨H.length,0,none⟩)) (H++[.row (aK v) (aK v).length false]):=by
 have nC:(Instr.box t r).run P w = .ok (.pointer (some ⟨w.heap.size,0,none⟩)) (w.alloc (.cells r.cells t)):=by
  simp[Instr.box,newVar,newRow]
 have hA:=tZ hR hf (w':=w.alloc (.cells r.cells t)) (arr:=r.cells) (e:=t) (fz:=(0,0)) rfl ⟨rfl,rfl,rfl⟩ (cs:=aK v) (eY:=(aK v).length) (OB:=false)
  (by rw[eQ,hv.aK.1];exact Nat.le_refl _) (fun i hi=>by
   have:=hv.aK.2 i hi
   rwa [←xE,fH]) hs (fun j _ h=>by simp at h)
 exact cF.value nC (.ptr _ 0 _ (bP m _ _)) hA.1 (hA.2 lo)
theorem T4 {t:TypeId} {agg:Bool} {size nb lo:Nat} {z:List Value} {kl kc:IntKind} {l c:Int} (ht:iP P t=some (agg,size,z,nb)) (Ga:z.all fD=true) (Qx:z.all jR=true) (SA:size=z.length) (DX:1≤size)
  (hl:0≤l) (hlc:l≤c) (hb:c*nb≤281474976710656) (hc:c≤9223372036854775807) (hR:Rel m L0 H w) (hf:m H.length=none) :
  cF P (do pure (.value (←Instr.makeSlice t (.int kl l) (.int kc c)))) L0 lo m H w (.slice (some ⟨H.length,0,none⟩) l.toNat c.toNat) (H++[.row (cR c.toNat z) z.length false]):=by
 obtain⟨e,hu,GJ⟩:=iH ht
 obtain⟨i,d,zz,hi,hd,F4,rfl,rfl,rfl,rfl⟩:=gW GJ
 have nC:=run_make (P:=P) w t e i zz hu hi F4 kl kc l c hl hlc (by rw[Int.mul_comm];exact hb) hc
 have Bf:i.size=zz.cells.size:=by rw[SA,eQ]
 rw[Bf] at nC DX
 have Q8:(madeCells zz.cells (c.toNat*zz.cells.size)).toList=cR c.toNat (aK zz):=by rw[Hu _ _ DX,fH]
 have ajR:(madeCells zz.cells (c.toNat*zz.cells.size)).size=c.toNat*(aK zz).length:=by rw[size_madeCells,eQ]
 have Vo:1≤(aK zz).length:=by rw[←eQ];exact DX
 have hA:=tZ hR hf (w':=w.alloc (.cells (madeCells zz.cells (c.toNat*zz.cells.size)) e)) (arr:=madeCells zz.cells (c.toNat*zz.cells.size)) (e:=e) (fz:=(0,0)) rfl ⟨rfl,rfl,rfl⟩
  (cs:=cR c.toNat (aK zz)) (eY:=(aK zz).length) (OB:=false) (by rw[ajR,sB];exact Nat.le_refl _) (fun j hj=>by
   have:=(tO (m:=m) c.toNat Qx Vo).2 j hj
   rwa [←xE,Q8]) (O6 _ Ga Vo) (fun j _ h=>by simp at h)
 refine cF.value nC ?_ hA.1 (hA.2 lo)
 exact .slice _ 0 _ _ _ _ _ (bP m _ _) (by omega) (Nat.le_refl _) (fun _=>rfl) (.inr ⟨rfl,by simp only[ajR];omega⟩)
theorem WJ {t:TypeId} {agg:Bool} {size nb lo n:Nat} {z cs:List Value} {parts:List (Nat×Operand)} {ρ:Env} {a:Act} (ht:iP P t=some (agg,size,z,nb)) (Ga:z.all fD=true) (Qx:z.all jR=true) (SA:size=z.length) (DX:1≤size) (hn:n*size≤16777216)
  (adK:tH ((List.range n).map fun i=>(i*z.length,z.length)) (cR n z) (parts.map fun(i,x)=>(i,ev ρ x))=some cs) (sT:cs.all fD=true) (hr:∀p∈parts,RV m (ev ρ p.2) (a.eval p.2))
  (hR:Rel m L0 H w) (hf:m H.length=none) :
  cF P (do pure (.value (←Instr.buildSlice t n (parts.toArray.map fun(i,x)=>(i,a.eval x))))) L0 lo m H w (.slice (some ⟨H.length,0,none⟩) n n) (H++[.row cs z.length false]):=by
 obtain⟨e,hu,GJ⟩:=iH ht
 obtain⟨i,d,zz,hi,hd,F4,rfl,rfl,rfl,rfl⟩:=gW GJ
 have Bf:i.size=zz.cells.size:=by rw[SA,eQ]
 have Vo:1≤(aK zz).length:=by rw[←eQ,←Bf];exact DX
 have Kj:∀j q,((List.range n).map fun i=>(i*(aK zz).length,(aK zz).length))[j]? = some q→(fun i'=>some (i'*i.size,i.size):Nat→Option (Nat×Nat)) j=some q:=by
  intro j q hj
  simp only[List.getElem?_map,Option.map_eq_some_iff] at hj
  obtain⟨k,hk,rfl⟩:=hj
  have V4:=(List.getElem?_eq_some_iff.1 hk)
  obtain⟨hk1,ZE⟩:=V4
  simp at ZE
  subst ZE
  rw[←SA]
 have hz:RL m (cR n (aK zz)) ((Array.range (n*i.size)).map (zz.cells[· % zz.cells.size]!)).toList:=by
  have:=tO (m:=m) n Qx Vo
  rw[Bf]
  have e1:=Hu zz.cells n (by rw[←Bf];exact DX)
  rw[fH] at e1
  show RL m _ (madeCells zz.cells (n*zz.cells.size)).toList
  rw[e1]
  exact this
 obtain⟨Kf,h1,h2⟩:=PR (m:=m) _ _ Kj (parts.map fun(i,x)=>(i,ev ρ x)) (parts.map fun(i,x)=>(i,a.eval x)) _ _ cs
  (by simp[Function.comp_def]) (by simpa[Function.comp_def] using RL.map (l:=parts) (f:=fun p=>ev ρ p.2) (g:=fun p=>a.eval p.2) hr) hz adK
 have hlen:cs.length=n*(aK zz).length:=by rw[Ns _ _ _ _ adK,sB]
 have emap:(Array.map (fun x:Nat×Operand=>(x.1,a.eval x.2)) parts.toArray).toList=parts.map fun(i,x)=>(i,a.eval x):=by simp
 have ZC:¬(2^24<n*i.size):=by omega
 have nC:(Instr.buildSlice t n (parts.toArray.map fun(i,x)=>(i,a.eval x))).run P w = .ok (.slice (some ⟨w.heap.size,0,none⟩) n n) (w.alloc (.cells Kf e)):=by
  have UO:Instr.fill (fun i'=>some (i'*i.size,i.size)) ((Array.range (n*i.size)).map (zz.cells[· % zz.cells.size]!)) (Array.map (fun x:Nat×Operand=>(x.1,a.eval x.2)) parts.toArray).toList=some Kf:=by rw[emap];exact h1
  by_cases V9:n*i.size=0
  ·rw[V9] at UO
   simp only[show ∀f:Nat→Value,(Array.range 0).map f = #[] from fun f=>by simp] at UO
   unfold Instr.buildSlice
   simp only[Sem.run_bind,run_underlying hu,Result.andThen_ok,run_sizeOf e i hi,V9,if_true,Sem.run_pure,show ¬(0>2^24) by omega,if_false]
   rw[show ∀f:Nat→Value,(Array.range 0).map f = #[] from fun f=>by simp]
   simp only[UO]
   simp[newRow]
  ·unfold Instr.buildSlice
   simp only[Sem.run_bind,run_underlying hu,Result.andThen_ok,run_sizeOf e i hi,V9,if_false,Sem.run_pure,gt_iff_lt,ZC,zeroValue,typeInfo,run_program,hi,F4]
   simp only[UO]
   simp[newRow]
 have HV:Kf.size=n*(aK zz).length:=by rw[←hlen];simpa using h2.1.symm
 have hA:=tZ hR hf (w':=w.alloc (.cells Kf e)) (arr:=Kf) (e:=e) (fz:=(0,0)) rfl ⟨rfl,rfl,rfl⟩ (cs:=cs) (eY:=(aK zz).length) (OB:=false)
  (by rw[hlen,HV];exact Nat.le_refl _) (fun j hj=>by rw[←xE];exact h2.2 j hj) sT (fun j _ h=>by simp at h)
 refine cF.value nC ?_ hA.1 (hA.2 lo)
 exact .slice _ 0 _ _ _ _ _ (bP m _ _) (Nat.le_refl _) (Nat.le_refl _) (fun _=>rfl) (.inr ⟨rfl,by simp only[HV];omega⟩)
theorem Sn (g:Value→ByteArray→Sem (ForInStep ByteArray)) (hg:∀n s,g (.int .u8 n) s=pure (ForInStep.yield (s.push (UInt8.ofNat n.toNat)))):∀(cs rs:List Value) (bs:List UInt8) (acc:ByteArray),RL m cs rs→rY cs=some bs→∀w,
  (forIn rs acc g).run P w = .ok ⟨(acc.data.toList++bs).toArray⟩ w:=by
 intro cs
 induction cs with
 |
  nil =>
  intro rs bs acc hr hb w
  have e0:rs=[]:=List.eq_nil_of_length_eq_zero hr.1.symm
  subst e0
  cases hb
  simp
 |
  cons c cs ih =>
  intro rs bs acc hr hb w
  cases rs with
  | nil=>exact absurd hr.1 (by simp)
  |
   cons r rs =>
   obtain⟨hc,KS⟩:=hr.iT
   unfold rY at hb
   split at hb
   ·rename_i heq;cases heq
   ·rename_i n rest heq
    cases heq
    cases hc
    cases h2:rY cs with
    | none=>rw[h2] at hb;cases hb
    |
     some bs' =>
     rw[h2] at hb
     cases hb
     simp only[List.forIn_cons,hg,Sem.run_bind,Sem.run_pure,Result.andThen_ok]
     rw[ih rs bs' _ KS h2 w]
     simp[ByteArray.push]
   ·cases hb
theorem Xr {s d e:TypeId} {rp:Value} {lo n b off c:Nat} {cs:List Value} {bs:List UInt8} (hs:P.underlying s=some (.slice e)) (hd:P.underlying d=some .string) (he:P.underlying e=some (.int .u8))
  (Qw:H.read b off n=some cs) (hb:rY cs=some bs) (hR:Rel m L0 H w) (hp:RV m (.slice (some ⟨b,off,none⟩) n c) rp) :
  cF P (do pure (.value (←convert s d rp))) L0 lo m H w (.string ⟨bs.toArray⟩) H:=by
 cases hp with
 |
  slice _ _ _ _ l ra rc hm hn hc hx ha =>
  obtain⟨rs,h1,h2,_,h3⟩:=uM hR hm Qw
  have amN:(loadCells ra n).run P w = .ok rs.toArray w:=by
   rcases ha with ha | ⟨rfl,ha⟩
   ·have h0:n=0:=by omega
    subst h0
    have e0:rs=[]:=List.eq_nil_of_length_eq_zero h2
    subst e0
    rfl
   ·rw[←h2]
    exact run_loadCells_list w _ rs h3
  refine cF.value (rv := .string ⟨bs.toArray⟩) (w':=w) (m':=m) ?_ (.str _) hR (Trans.refl lo m H w)
  simp only[convert,Sem.run_bind,run_underlying hs,run_underlying hd,Result.andThen_ok,run_underlying he,Conv.bytesToString,amN,←Array.forIn_toList]
  rw[Sn (P:=P) (m:=m) _ (fun n s=>rfl) cs rs bs ByteArray.empty h1 hb w]
  simp
theorem Mc {t e:TypeId} {i:TypeInfo} (hu:P.underlying t=some (.slice e)) (hi:P.info? e=some i) {a:Option Addr} {n c:Nat} {lo nO mx:Option Value} {l h k:Nat}
  (hb:(Instr.sliceBounds true n c lo nO mx).run P w = .ok (l,h,k) w) :
  (Instr.sliceAt t (.slice a n c) lo nO mx).run P w = .ok (.slice (if k=l then a else a.map (·.add (l*i.size))) (h-l) (k-l)) w:=by
 have h1:(Instr.sliceAt t (.slice a n c) lo nO mx).run P w=(Instr.slice t (.slice a n c) lo nO mx).run P w:=by
  unfold Instr.sliceAt
  rw[Sem.run_bind,run_underlying hu,Result.andThen_ok]
 rw[h1]
 unfold Instr.slice
 rw[Sem.run_bind,run_underlying hu,Result.andThen_ok]
 simp[hb,run_sizeOf e i hi]
theorem YF {t e:TypeId} {i:TypeInfo} {lo:Nat} {x rx v:Value} {l h mx l' h' mx':Option Value} {H':aD} (hu:P.underlying t=some (.slice e)) (hi:P.info? e=some i)
  (hs:A5 i.size x l h mx H=some (v,H')) (hx:RV m x rx) (hl:RO m l l') (hh:RO m h h') (hm:RO m mx mx') (hR:Rel m L0 H w) (hf:∀b,H.length≤b→b<H'.length→m b=none) :
  cF P (do pure (.value (←Instr.sliceAt t rx l' h' mx'))) L0 lo m H w v H':=by
 unfold A5 at hs
 split at hs
 ·rename_i n c
  split at hs
  ·rename_i h0
   obtain⟨rfl,rfl⟩:=h0
   cases hx
   split at hs
   ·cases hs
   ·rename_i M hM
    split at hs
    ·cases hs
    ·rename_i hb hhb
     split at hs
     ·cases hs
     ·rename_i lb Da
      cases hs
      have key:∃k1 k2 k3,(Instr.sliceBounds true 0 0 l' h' mx').run P w = .ok (k1,k2,k3) w∧k1=0∧k2=0∧k3=0:=by
       rcases mK (P:=P) hM hm with⟨rfl,rfl,e1⟩ | ⟨_,r1,rfl,rfl,q1,e1⟩<;>rcases mK (P:=P) hhb hh with⟨_,rfl,e2⟩ | ⟨_,r2,_,rfl,q2,e2⟩<;>rcases mK (P:=P) Da hl with⟨_,rfl,e3⟩ | ⟨_,r3,_,rfl,q3,e3⟩
       ·cases e1;cases e2;cases e3
        exact⟨0,0,0,rfl,rfl,rfl,rfl⟩
       ·cases e1;cases e2
        exact⟨lb,0,0,by simp[Instr.sliceBounds,e3 0 (Nat.le_refl _)],by omega,rfl,rfl⟩
       ·cases e1;cases e3
        exact⟨0,hb,0,by simp[Instr.sliceBounds,e2 0 (Nat.le_refl _)],rfl,by omega,rfl⟩
       ·cases e1
        exact⟨lb,hb,0,by simp[Instr.sliceBounds,e2 0 (Nat.le_refl _),e3 hb (Nat.le_refl _)],by omega,by omega,rfl⟩
       ·cases e2
       ·cases e2
       ·cases e3
        exact⟨0,hb,M,by simp[Instr.sliceBounds,e1 0 (Nat.le_refl _),e2 M (Nat.le_refl _)],rfl,by omega,by omega⟩
       ·exact⟨lb,hb,M,by simp[Instr.sliceBounds,e1 0 (Nat.le_refl _),e2 M (Nat.le_refl _),e3 hb (Nat.le_refl _)],by omega,by omega,by omega⟩
      obtain⟨k1,k2,k3,hk,rfl,rfl,rfl⟩:=key
      exact cF.value (Mc hu hi hk) (by simpa using RV.Kt) hR (Trans.refl lo m H w)
  ·cases hs
 ·rename_i b o n c
  cases hx with
  |
   slice _ _ _ _ lc ra rc QI VO hcr hxp ha =>
   split at hs
   ·rename_i cells es p Tw
    obtain⟨g1,g2,g3,g4⟩:=hR.row b lc cells es p QI Tw
    split at hs
    ·rename_i KM
     subst KM
     split at hs
     ·cases hs
     ·rename_i M hM
      split at hs
      ·cases hs
      ·rename_i hb hhb
       split at hs
       ·cases hs
       ·rename_i lb Da
        have key:∃k3,(Instr.sliceBounds true n rc l' h' mx').run P w = .ok (lb,hb,k3) w∧lb≤hb∧hb≤M∧M≤c∧((mx=none∧k3=rc∧M=c)∨(mx.isSome=true∧k3=M)):=by
         rcases mK (P:=P) hM hm with⟨rfl,rfl,e1⟩ | ⟨_,r1,rfl,rfl,q1,e1⟩<;>rcases mK (P:=P) hhb hh with⟨_,rfl,e2⟩ | ⟨_,r2,_,rfl,q2,e2⟩<;>rcases mK (P:=P) Da hl with⟨_,rfl,e3⟩ | ⟨_,r3,_,rfl,q3,e3⟩
         ·cases e1;cases e2;cases e3
          exact⟨rc,rfl,Nat.zero_le _,VO,Nat.le_refl _,.inl ⟨rfl,rfl,rfl⟩⟩
         ·cases e1;cases e2
          exact⟨rc,by simp[Instr.sliceBounds,e3 n (Nat.le_refl _)],q3,VO,Nat.le_refl _,.inl ⟨rfl,rfl,rfl⟩⟩
         ·cases e1;cases e3
          exact⟨rc,by simp[Instr.sliceBounds,e2 rc hcr],Nat.zero_le _,q2,Nat.le_refl _,.inl ⟨rfl,rfl,rfl⟩⟩
         ·cases e1
          exact⟨rc,by simp[Instr.sliceBounds,e2 rc hcr,e3 hb (Nat.le_refl _)],q3,q2,Nat.le_refl _,.inl ⟨rfl,rfl,rfl⟩⟩
         ·cases e2
         ·cases e2
         ·cases e3
          exact⟨M,by simp[Instr.sliceBounds,e1 rc hcr,e2 M (Nat.le_refl _)],Nat.zero_le _,q2,q1,.inr ⟨rfl,rfl⟩⟩
         ·exact⟨M,by simp[Instr.sliceBounds,e1 rc hcr,e2 M (Nat.le_refl _),e3 hb (Nat.le_refl _)],q3,q2,q1,.inr ⟨rfl,rfl⟩⟩
        obtain⟨k3,hk,hlh,hhM,hMc,Is⟩:=key
        have nC:=Mc (a:=some ra) hu hi hk
        have place:k3-lb=0∨((if k3=lb then some ra else (some ra).map (·.add (lb*i.size)))=some (⟨lc.rb,lc.base+(o+lb*i.size),none⟩:Addr)∧lc.base+(o+lb*i.size)+(k3-lb)*lc.eY≤lc.Nf):=by
         by_cases hz:k3-lb=0
         ·exact .inl hz
         ·right
          have hk3:k3≤rc:=by rcases Is with⟨_,rfl,_⟩ | ⟨_,rfl⟩<;>omega
          rcases ha with ha | ⟨rfl,ha⟩
          ·omega
          ·rw[if_neg (by omega)]
           refine⟨by simp[Addr.add_lit,Nat.add_assoc],?_⟩
           rw[g1] at ha ⊢
           have e1:(k3-lb)*i.size=k3*i.size-lb*i.size:=Nat.sub_mul _ _ _
           have e2:lb*i.size≤k3*i.size:=Nat.mul_le_mul_right _ (by omega)
           have e3:k3*i.size≤rc*i.size:=Nat.mul_le_mul_right _ hk3
           omega
        obtain⟨ra',ajQ⟩:∃ra',(if k3=lb then some ra else (some ra).map (·.add (lb*i.size)))=some ra':=by split<;>exact⟨_,rfl⟩
        rw[ajQ] at nC
        have ahO:k3-lb=0∨(ra'=⟨lc.rb,lc.base+(o+lb*i.size),none⟩∧lc.base+(o+lb*i.size)+(k3-lb)*lc.eY≤lc.Nf):=by
         rcases place with hp | ⟨hp1,TJ⟩
         ·exact .inl hp
         ·rw[ajQ] at hp1
          exact .inr ⟨by injection hp1,TJ⟩
        split at hs
        ·rename_i asJ
         cases hs
         obtain⟨akH,hMl⟩:=asJ
         rcases Is with⟨rfl,_⟩ | ⟨_,rfl⟩
         ·cases akH
         ·have hA:=Vj hR (hf H.length (Nat.le_refl _) (by simp)) QI i.size
          refine cF.value (rv := .slice (some ra') 0 0) (by rw[nC];congr 2<;>omega) ?_ hA.1 (hA.2 lo)
          exact .slice _ 0 0 0 _ _ 0 (bP m _ _) (Nat.le_refl _) (Nat.le_refl _) (fun _=>rfl) (.inl rfl)
        ·cases hs
         refine cF.value nC ?_ hR (Trans.refl lo m H w)
         refine .slice b _ _ _ lc _ _ QI (by omega) ?_ ?_ ahO
         ·rcases Is with⟨_,rfl,rfl⟩ | ⟨_,rfl⟩<;>omega
         ·intro ho
          have:=hxp ho
          rcases Is with⟨_,rfl,rfl⟩ | ⟨_,rfl⟩<;>omega
    ·cases hs
   ·cases hs
 ·cases hs
end
end Go.PM
namespace Go.PM
section
variable {P:Program} {m:dC} {L0:Nat} {H:aD} {w:World}
theorem Q9 {t:TypeId} {i:TypeInfo} {lo b o:Nat} {v r rp:Value} {H':aD} (hi:P.info? t=some i) (hp:RV m (.pointer (some ⟨b,o,none⟩)) rp) (hv:RV m v r) (hs:(aK v).length=i.size)
  (hw:H.write lo b o (aK v)=some H') (hR:Rel m L0 H w) (eI:L0≤lo) :
  cF P (do Instr.storeAt t rp r;pure .skip) L0 lo m H w undef H':=by
 cases hp with
 |
  ptr _ _ l hm =>
  obtain⟨w',s1,s2,s3⟩:=CD P hR eI hm hw hv.aK
  refine⟨undef,w',m,.inr ⟨?_,rfl⟩,RV.undef m,s2,s3⟩
  have Bf:r.cells.size=i.size:=by rw[eQ,←hv.aK.1,hs]
  have h1:(Instr.storeAt t (.pointer (some ⟨l.rb,l.base+o,none⟩)) r).run P w = .ok () w':=by
   show (storeVar t ⟨l.rb,l.base+o,none⟩ r).run P w=_
   unfold storeVar
   simp only[Sem.run_bind,run_sizeOf t i hi,Result.andThen_ok,Bf,ne_eq,not_true_eq_false,if_false,fH]
   exact s1
  rw[Sem.run_bind,h1]
  rfl
theorem Gt {pv rv:Value} {k:Nat} (h:pU pv=some k) (hr:RV m pv rv):Builtin.lenOf rv=pure k:=by
 unfold pU at h
 split at h
 ·cases h;cases hr<;>rfl
 ·cases h;cases hr;rfl
 ·cases h
theorem AW (a b:Array Value) (xs:List Value) (h:a.toList=xs) (i:Nat) (hi:i<xs.length):(a++b).getD i undef=xs.getD i undef:=by
 subst h
 have:i<a.size:=by simpa using hi
 simp[Array.getD_eq_getD_getElem?,Array.getElem?_append_left this,List.getD_eq_getElem?_getD]
theorem YE {t u ty:TypeId} {agg:Bool} {size bytes lo k:Nat} {z:List Value} {d:TypeDesc} {x y rx ry v:Value} {new:List Value} {H':aD} (ht:iP P t=some (agg,size,z,bytes)) (hu:P.underlying u=some d) (hd:IH d=true)
  (hk:pU y=some k) (zO:iF H size k y=some new) (qW:dX lo size bytes x k new H=some (v,H')) (hx:RV m x rx) (hy:RV m y ry) (SA:size=z.length)
  (hR:Rel m L0 H w) (eI:L0≤lo) (hf:∀b,H.length≤b→b<H'.length→m b=none) :
  cF P (do pure (.value (←Builtin.append_ #[t,u] ty #[rx,ry]))) L0 lo m H w v H':=by
 obtain⟨e,GJ,Mu⟩:=iH ht
 obtain⟨i,de,zz,hi,_,F4,rfl,rfl,rfl,rfl⟩:=gW Mu
 obtain⟨nP,h1,h2,h3⟩:=GO zO hk (Nat.le_refl _) hR hy
 have hl:=Gt hk hy
 have Bv:1≤i.bytes:=by
  unfold dX at qW
  split at qW
  ·rename_i h;exact h.1
  ·cases qW
 have V8:new.length=k*i.size:=by
  unfold dX at qW
  split at qW
  ·rename_i h;exact h.2.2.2
  ·cases qW
 obtain⟨rv,w',m',g1,g2,g3,g4⟩:=GQ (P:=P) (s:=Builtin.append_ #[t,u] ty #[rx,ry]) (e:=e) qW hR eI hx h1 hf
  (fun a n c w' Dy AY Gq=>by
   subst Dy
   exact Nb GJ hu hd hi hl (h3 w rfl) AY Gq)
  (fun Dy hk0=>by
   subst Dy
   subst hk0
   exact PK GJ hu hd hi hl (h3 w rfl))
  (fun base n c Bc Dy Yc jE hg hb=>by
   subst Dy
   refine⟨grownCap w (n+k) c e,_,grownCap_ge w _ _ _,Nk GJ hu hd hi F4 hl Yc (h3 w.drew rfl) hg Bv hb,?_,?_⟩
   ·have Cb:=grownCap_ge w (n+k) c e
    have yE:nP.length=k*i.size:=by rw[←h1.1,V8]
    simp only[Array.size_append,List.size_toArray,size_zeroCells,jE,yE]
    rw[←eQ] at SA
    rw[←SA,←Nat.add_mul,←Nat.add_mul]
    congr 1
    omega
   ·intro j hj
    exact AW _ _ _ (by simp) j hj)
 exact cF.value g1 g2 g3 g4
section
variable {t u ty e:TypeId} {ku:IntKind} {i:TypeInfo} {zz:Value} {k:Nat}
theorem EH {k:Nat} (h:k≤140737488355328):IntKind.i64.wrap (k:Int)=(k:Int):=by rw[IntKind.wrap_i64];omega
theorem Kz (ht:P.underlying t=some (.slice e)) (hu:P.underlying u=some (.int ku)) (hi:P.info? e=some i) (F4:i.zero=some zz) (hk:k≤140737488355328) (hkb:k*i.bytes≤140737488355328)
  {a:Addr} {n c:Nat} {w':World} (AY:n+k≤c) (hz:k*i.size=0→Builtin.zeroCells zz.cells k = #[]) (Gq:(storeCells (a.add (n*i.size)) (Builtin.zeroCells zz.cells k).toList).run P w = .ok () w') :
  (Builtin.append_ #[t,u] ty #[.slice (some a) n c,.int .i64 k]).run P w = .ok (.slice (some a) (n+k) c) w':=by
 have h0:¬((k:Int)<0):=by omega
 have hb:¬(281474976710656<(k:Int)*(i.bytes:Int)):=by rw[←Int.natCast_mul];omega
 by_cases DX:k*i.size=0
 ·rw[hz DX] at Gq
  simp[Builtin.append_,run_underlying ht,run_underlying hu,run_sizeOf e i hi,asInt,asIntOf,EH hk,typeInfo,hi,h0,hb,AY,DX,Gq]
 ·simp[Builtin.append_,run_underlying ht,run_underlying hu,run_sizeOf e i hi,asInt,asIntOf,EH hk,typeInfo,hi,h0,hb,AY,DX,zeroValue,F4,Gq]
theorem MW (ht:P.underlying t=some (.slice e)) (hu:P.underlying u=some (.int ku)) (hi:P.info? e=some i) :
  (Builtin.append_ #[t,u] ty #[.slice none 0 0,.int .i64 (0:Nat)]).run P w = .ok (.slice none 0 0) w:=by
 have hw:IntKind.i64.wrap 0=0:=rfl
 simp[Builtin.append_,run_underlying ht,run_underlying hu,run_sizeOf e i hi,asInt,asIntOf,hw,typeInfo,hi]
theorem KA (ht:P.underlying t=some (.slice e)) (hu:P.underlying u=some (.int ku)) (hi:P.info? e=some i) (F4:i.zero=some zz) (hk:k≤140737488355328) (hkb:k*i.bytes≤140737488355328)
  {base:Option Addr} {n c:Nat} {Bc:List Value} (Yc:(Builtin.firstCells i.size n (.slice base n c)).run P w.drew = .ok Bc.toArray w.drew) (hz:k*i.size=0→Builtin.zeroCells zz.cells k = #[])
  (hg:c<n+k) (Bv:1≤i.bytes) (I9:(n+k)*i.bytes≤140737488355328) :
  (Builtin.append_ #[t,u] ty #[.slice base n c,.int .i64 k]).run P w = .ok (.slice (some ⟨w.heap.size,0,none⟩) (n+k) (grownCap w (n+k) c e))
   (w.drew.alloc (.cells (Bc.toArray++Builtin.zeroCells zz.cells k++Builtin.zeroCells zz.cells (grownCap w (n+k) c e-(n+k))) e)):=by
 have oW:=growslice_fits (bytes:=i.bytes) hg I9
 have h0:¬((k:Int)<0):=by omega
 have hb:¬(281474976710656<(k:Int)*(i.bytes:Int)):=by rw[←Int.natCast_mul];omega
 have h1:¬(n+k≤c):=by omega
 have h2:¬(281474976710656<Builtin.nextslicecap (n+k) c*i.bytes):=by omega
 have h4:n+k≤140737488355328:=Nat.le_trans (Nat.le_mul_of_pos_right _ Bv) I9
 have h3:¬(9223372036854775807<(n:Int)+(k:Int)):=by omega
 by_cases DX:k*i.size=0
 ·have e0:=hz DX
  simp[Builtin.append_,run_underlying ht,run_underlying hu,run_sizeOf e i hi,asInt,asIntOf,EH hk,typeInfo,hi,h0,hb,h1,h2,h3,e0,zeroValue,F4,Question.forced,Yc,newRow,grownCap]
 ·simp[Builtin.append_,run_underlying ht,run_underlying hu,run_sizeOf e i hi,asInt,asIntOf,EH hk,typeInfo,hi,h0,hb,h1,h2,h3,DX,zeroValue,F4,Question.forced,Yc,newRow,grownCap]
end
theorem UC {t u ty:TypeId} {agg:Bool} {size bytes lo:Nat} {z:List Value} {ku:IntKind} {n:Int} {x rx v:Value} {H':aD} (ht:iP P t=some (agg,size,z,bytes)) (hu:P.underlying u=some (.int ku))
  (hn:0≤n∧n*bytes≤140737488355328) (qW:dX lo z.length bytes x n.toNat (cR n.toNat z) H=some (v,H')) (hx:RV m x rx) (SA:size=z.length) (Ga:z.all fD=true) (Qx:z.all jR=true) (DX:1≤z.length)
  (hR:Rel m L0 H w) (eI:L0≤lo) (hf:∀b,H.length≤b→b<H'.length→m b=none) :
  cF P (do pure (.value (←Builtin.append_ #[t,u] ty #[rx,.int .i64 n]))) L0 lo m H w v H':=by
 obtain⟨e,GJ,Mu⟩:=iH ht
 obtain⟨i,de,zz,hi,_,F4,rfl,rfl,rfl,rfl⟩:=gW Mu
 obtain⟨k,rfl⟩:=Int.eq_ofNat_of_zero_le hn.1
 simp only[Int.toNat_natCast] at qW
 have Bv:1≤i.bytes:=by
  unfold dX at qW
  split at qW
  ·rename_i h;exact h.1
  ·cases qW
 have hkb:k*i.bytes≤140737488355328:=by have:=hn.2;omega
 have hk:k≤140737488355328:=Nat.le_trans (Nat.le_mul_of_pos_right _ Bv) hkb
 have Bf:i.size=zz.cells.size:=by rw[SA,eQ]
 have Vo:1≤zz.cells.size:=by rw[eQ];exact DX
 have qN:(Builtin.zeroCells zz.cells k).toList=cR k (aK zz):=by rw[Eu _ _ Vo,fH]
 have amI:k*i.size=0→Builtin.zeroCells zz.cells k = #[]:=by
  intro h0
  apply Array.ext'
  rw[qN]
  exact List.eq_nil_of_length_eq_zero (by rw[sB,←SA];exact h0)
 obtain⟨rv,w',m',g1,g2,g3,g4⟩:=GQ (P:=P) (s:=Builtin.append_ #[t,u] ty #[rx,.int .i64 k]) (e:=e) (nP:=cR k (aK zz)) qW hR eI hx (tO k Qx DX) hf
  (fun a n c w' Dy AY Gq=>by
   subst Dy
   exact Kz GJ hu hi F4 hk hkb AY amI (by rw[qN,SA];exact Gq))
  (fun Dy hk0=>by
   subst Dy
   subst hk0
   exact MW GJ hu hi)
  (fun base n c Bc Dy Yc jE hg hb=>by
   subst Dy
   refine⟨grownCap w (n+k) c e,_,grownCap_ge w _ _ _,KA GJ hu hi F4 hk hkb (by rw[SA];exact Yc) amI hg Bv hb,?_,?_⟩
   ·have Cb:=grownCap_ge w (n+k) c e
    simp only[Array.size_append,List.size_toArray,size_zeroCells,jE,eQ]
    rw[←Nat.add_mul,←Nat.add_mul]
    congr 1
    omega
   ·intro j hj
    exact AW _ _ _ (by simp[qN]) j hj)
 exact cF.value g1 g2 g3 g4
theorem Uo {t ty:TypeId} {ts:List TypeId} {agg:Bool} {size bytes lo b o d c k:Nat} {z new:List Value} {y rx ry:Value} {H':aD} (ht:iP P t=some (agg,size,z,bytes))
  (hk:pU y=some k) (zO:iF H size (Nat.min k d) y=some new) (hw:H.write lo b o new=some H') (hx:RV m (.slice (some ⟨b,o,none⟩) d c) rx) (hy:RV m y ry)
  (hR:Rel m L0 H w) (eI:L0≤lo) :
  cF P (do pure (.value (←Builtin.copy_ (t::ts).toArray ty #[rx,ry]))) L0 lo m H w (.int .i64 (Nat.min k d)) H':=by
 obtain⟨e,GJ,Mu⟩:=iH ht
 obtain⟨i,de,zz,hi,_,F4,rfl,rfl,rfl,rfl⟩:=gW Mu
 obtain⟨nP,h1,h2,h3⟩:=GO (P:=P) zO hk (Nat.min_le_left _ _) hR hy
 have hl:=Gt hk hy
 cases hx with
 |
  slice _ _ _ _ l ra rc hm hn hc hxp ha =>
  rcases ha with ha | ⟨rfl,ha⟩
  ·have BQ:d=0:=by omega
   subst BQ
   have Zw:Nat.min k 0=0:=Nat.min_zero k
   rw[Zw] at zO h3 ⊢
   have qN:new=[]:=by
    have:nP.length=new.length:=h1.1.symm
    unfold iF at zO
    split at zO
    ·obtain⟨_,_,_,_,_,_,hlen⟩:=Ls zO
     exact List.eq_nil_of_length_eq_zero (by simpa using hlen)
    ·split at zO
     ·cases zO;rfl
     ·cases zO
    ·split at zO
     ·cases zO;simp
     ·cases zO
    ·cases zO
   subst qN
   have hrn:nP=[]:=List.eq_nil_of_length_eq_zero h1.1.symm
   subst hrn
   have hHH:H'=H:=by
    obtain⟨cs,e',p',q1,q2,q3,q4,rfl⟩:=Aq hw
    apply List.ext_getElem?
    intro j
    by_cases hj:b=j
    ·subst hj
     rw[List.getElem?_set_self (List.getElem?_eq_some_iff.1 q1).1,q1]
     simp[gZ]
    ·rw[List.getElem?_set_ne hj]
   rw[hHH]
   refine cF.value (rv := .int .i64 0) (w':=w) ?_ (.int _ _) hR (Trans.refl lo m _ w)
   have hf0:=h3 w rfl
   simp[Builtin.copy_,run_underlying GJ,hl,run_sizeOf e i hi,goInt,hf0,storeCells]
  ·obtain⟨w',s1,s2,s3⟩:=CD P hR eI hm hw h1
   refine cF.value (rv := .int .i64 (Nat.min k d)) ?_ (.int _ _) s2 s3
   have hf0:=h3 w rfl
   unfold Builtin.copy_
   simp only[List.getElem?_toArray,List.getElem?_cons_zero,List.getElem?_cons_succ,Sem.run_bind,run_underlying GJ,Result.andThen_ok,hl,Sem.run_pure,run_sizeOf e i hi]
   rw[hf0]
   simp only[Result.andThen_ok,s1,goInt]
theorem Sc {t ty e:TypeId} {ts:List TypeId} {i:TypeInfo} {zz:Value} {lo b o n c:Nat} {rx:Value} {H':aD} (GJ:P.underlying t=some (.slice e)) (hi:P.info? e=some i) (F4:i.zero=some zz)
  (V9:n≠0) (hw:H.write lo b o (cR n (aK zz))=some H') (hx:RV m (.slice (some ⟨b,o,none⟩) n c) rx) (Qx:(aK zz).all jR=true) (DX:1≤(aK zz).length) (hR:Rel m L0 H w) (eI:L0≤lo) :
  cF P (do pure (.value (←Builtin.clear_ (t::ts).toArray ty #[rx]))) L0 lo m H w undef H':=by
 cases hx with
 |
  slice _ _ _ _ l ra rc hm hn hc hxp ha =>
  rcases ha with ha | ⟨rfl,ha⟩
  ·omega
  ·obtain⟨w',s1,s2,s3⟩:=CD P hR eI hm hw (tO n Qx DX)
   have qN:(Builtin.zeroCells zz.cells n).toList=cR n (aK zz):=by rw[Eu _ _ (by rw[eQ];exact DX),fH]
   refine cF.value (rv:=undef) ?_ (RV.undef m) s2 s3
   rw[←qN] at s1
   obtain⟨n',rfl⟩:∃n',n=n'+1:=⟨n-1,by omega⟩
   simp[Builtin.clear_,run_underlying GJ,zeroValue,typeInfo,hi,F4,s1,undef]
theorem GL {t ty e:TypeId} {ts:List TypeId} {lo c:Nat} {a:Option Addr} {rx:Value} (GJ:P.underlying t=some (.slice e)) (hx:RV m (.slice a 0 c) rx) (hR:Rel m L0 H w) :
  cF P (do pure (.value (←Builtin.clear_ (t::ts).toArray ty #[rx]))) L0 lo m H w undef H:=by
 refine cF.value (rv:=undef) (w':=w) ?_ (RV.undef m) hR (Trans.refl lo m _ w)
 cases hx<;>simp[Builtin.clear_,run_underlying GJ,undef]
end
end Go.PM
namespace Go.PM
section
variable {P:Program} {m:dC} {L0:Nat} {H:aD} {w:World}
theorem Bo {po:lM} {ρ:Env} {v:Value} {H':aD} (h:(gU po ρ).map (Out.val · H)=some (.val v H')):gU po ρ=some v∧H'=H:=by
 cases hp:gU po ρ with
 | none=>rw[hp] at h;cases h
 | some u=>rw[hp] at h;cases h;exact⟨rfl,rfl⟩
def rR:lM→Bool
 | .load .. | .sub .. | .b2s _ | .new _ | .box _ | .make .. | .lit .. | .call .. | .store .. | .app .. | .appz .. | .copy .. | .clear .. | .callv .. => false
 | _=>true
theorem vR {lo:Nat} {po:lM} {ρ:Env} (h:rR po=true):pop lo po ρ H=(gU po ρ).map (.val · H):=by
 cases po<;>first | rfl | cases h
theorem OS {pv rv:Value} {k:Nat} (size:Nat) (h:pU pv=some k) (hr:RV m pv rv):(Builtin.firstCells size 0 rv).run P w = .ok #[] w:=by
 unfold pU at h
 split at h
 ·cases hr
  ·rfl
  ·simp only[Builtin.firstCells,Nat.zero_mul]
   rfl
 ·cases hr
  simp[Builtin.firstCells]
 ·cases h
theorem SS {o:Oper} {po:lM} {ρ:Env} {a:Act} {lo:Nat} {v:Value} {H':aD} (hp:nY P o.op=some po) (hv:pop lo po ρ H=some (.val v H')) (hr:∀x∈o.op.operands,RV m (ev ρ x) (a.eval x))
  (hR:Rel m L0 H w) (eI:L0≤lo) (hf:∀b,H.length≤b→b<H'.length→m b=none):cF P (execOp a.eval o) L0 lo m H w v H':=by
 by_cases iC:rR po=true
 ·rw[vR iC] at hv
  obtain⟨h1,rfl⟩:=Bo hv
  obtain⟨rv,h2,h3⟩:=Yo hp h1 hr
  exact⟨rv,w,m,.inl (h3 w),h2,hR,Trans.refl lo m _ w⟩
 obtain⟨dst,op,type,pos,after,guard⟩:=o
 unfold nY at hp
 simp only at hp hr ⊢
 split at hp
 case isFalse=>cases hp
 cases op with
 | move x=>cases hp;exact absurd rfl iC
 | assign x=>cases hp;exact absurd rfl iC
 | pick c x y=>cases hp;exact absurd rfl iC
 |
  binOp op t x y yt =>
  unfold Ab at hp
  simp only at hp
  split at hp
  ·cases hp;exact absurd rfl iC
  ·cases hp;exact absurd rfl iC
  ·split at hp<;>first | (cases hp;done) | (cases hp;exact absurd rfl iC)
  ·split at hp<;>first | (cases hp;done) | (split at hp<;>first | (cases hp;done) | (cases hp;exact absurd rfl iC))
  ·split at hp<;>first | (cases hp;done) | (cases hp;exact absurd rfl iC)
  ·cases hp
 | unOp op t x=>cases hp;exact absurd rfl iC
 | extract x i=>cases hp;exact absurd rfl iC
 |
  convert s d x =>
  have hx:=hr x (by simp[Op.operands])
  simp only at hp
  split at hp
  ·cases hp;exact absurd rfl iC
  ·cases hp;exact absurd rfl iC
  ·rename_i e hs hd
   split at hp
   ·rename_i he
    cases hp
    simp only[pop] at hv
    split at hv
    ·rename_i n c Vu
     cases hv
     rw[Vu] at hx
     show cF P (do pure (.value (←convert s d (a.eval x)))) L0 lo m H w _ H
     generalize a.eval x=rx at hx ⊢
     cases hx
     refine cF.value (rv := .string ByteArray.empty) ?_ (.str _) hR (Trans.refl lo m _ w)
     simp[convert,run_underlying hs,run_underlying hd,run_underlying he,Conv.bytesToString]
    ·rename_i b o n c Vu
     split at hv
     ·rename_i cs KS
      cases hb:rY cs with
      | none=>rw[hb] at hv;cases hv
      |
       some bs =>
       rw[hb] at hv
       cases hv
       rw[Vu] at hx
       exact Xr hs hd he KS hb hR hx
     ·cases hv
    ·cases hv
   ·cases hp
  ·cases hp
 |
  field t x i =>
  simp only at hp
  split at hp
  ·split at hp
   ·rename_i f hf'
    cases ht:kM P f.type with
    | none=>rw[ht] at hp;cases hp
    | some q=>rw[ht] at hp;cases hp;exact absurd rfl iC
   ·cases hp
  ·cases hp
 |
  build t parts =>
  simp only at hp
  split at hp
  ·split at hp
   ·split at hp
    ·cases hp;exact absurd rfl iC
    ·cases hp
   ·cases hp
  ·cases hp
 | nilCheck x=>cases hp;exact absurd rfl iC
 |
  fieldAddr t x i =>
  simp only at hp
  split at hp
  ·split at hp
   ·split at hp
    ·split at hp
     ·cases hp
     ·cases hp;exact absurd rfl iC
    ·cases hp
   ·cases hp
  ·cases hp
 |
  indexAddr t x i =>
  simp only at hp
  cases ht:iP P t with
  | none=>rw[ht] at hp;cases hp
  | some q=>rw[ht] at hp;cases hp;exact absurd rfl iC
 |
  index t x i =>
  simp only at hp
  split at hp
  ·cases hp;exact absurd rfl iC
  ·cases hp
 |
  slice t x jF hi mx =>
  have hx:=hr x (by simp[Op.operands])
  simp only at hp
  split at hp
  ·split at hp
   ·cases hp;exact absurd rfl iC
   ·cases hp
  ·rename_i e hu
   cases ht:kM P e with
   | none=>rw[ht] at hp;cases hp
   |
    some q =>
    obtain⟨agg,size,z,nb⟩:=q
    rw[ht] at hp
    cases hp
    obtain⟨i,d,zz,nO,_,_,rfl,rfl,rfl,rfl⟩:=gW ht
    simp only[pop] at hv
    cases hs:A5 i.size (ev ρ x) (jF.map (ev ρ)) (hi.map (ev ρ)) (mx.map (ev ρ)) H with
    | none=>rw[hs] at hv;cases hv
    |
     some q =>
     obtain⟨u,H1⟩:=q
     rw[hs] at hv
     cases hv
     exact YF hu nO hs hx (RO.map fun y hy=>hr y (by simp[Op.operands,hy])) (RO.map fun y hy=>hr y (by simp[Op.operands,hy])) (RO.map fun y hy=>hr y (by simp[Op.operands,hy])) hR hf
  ·cases hp
 |
  makeFunc fn first fE =>
  cases fn with
  |
   func f =>
   simp only at hp
   split at hp
   ·cases hp;exact absurd rfl iC
   ·cases hp
  | _=>cases hp
 | makeInterface t x=>cases hp;exact absurd rfl iC
 | panic x=>cases hp;exact absurd rfl iC
 |
  load t p =>
  have hx:=hr p (by simp[Op.operands])
  simp only at hp
  cases ht:kM P t with
  | none=>rw[ht] at hp;cases hp
  |
   some q =>
   obtain⟨agg,size,z,nb⟩:=q
   rw[ht] at hp
   cases hp
   simp only[pop] at hv
   cases hl:lW agg size (ev ρ p) H with
   | none=>rw[hl] at hv;cases hv
   |
    some u =>
    rw[hl] at hv
    cases hv
    obtain⟨rv,h1,h2⟩:=Mk ht hl hR hx
    exact cF.value h2 h1 hR (Trans.refl lo m _ w)
 |
  store t p x =>
  have hpp:=hr p (by simp[Op.operands])
  have hx:=hr x (by simp[Op.operands])
  simp only at hp
  cases ht:P.info? t with
  | none=>rw[ht] at hp;cases hp
  |
   some i =>
   rw[ht] at hp
   cases hp
   simp only[pop] at hv
   split at hv
   ·rename_i b o hpo
    split at hv
    ·rename_i hs
     cases hw:H.write lo b o (aK (ev ρ x)) with
     | none=>rw[hw] at hv;cases hv
     |
      some H1 =>
      rw[hw] at hv
      cases hv
      rw[hpo] at hpp
      exact Q9 ht hpp hx hs hw hR eI
    ·cases hv
   ·cases hv
 |
  alloc t =>
  simp only at hp
  split at hp
  ·rename_i agg size z nb ht
   split at hp
   ·rename_i hz
    cases hp
    simp only[Bool.and_eq_true] at hz
    cases hv
    exact Za ht hz.1 hz.2 hR (hf _ (Nat.le_refl _) (by simp))
   ·cases hp
  ·cases hp
 |
  box t x =>
  have hx:=hr x (by simp[Op.operands])
  cases hp
  simp only[pop] at hv
  split at hv
  ·rename_i hs
   cases hv
   exact Xa hx hs hR (hf _ (Nat.le_refl _) (by simp))
  ·cases hv
 |
  makeSlice t l c =>
  have hl:=hr l (by simp[Op.operands])
  have hc:=hr c (by simp[Op.operands])
  simp only at hp
  split at hp
  ·rename_i agg size z nb ht
   split at hp
   ·rename_i hz
    cases hp
    simp only[Bool.and_eq_true,beq_iff_eq,decide_eq_true_eq] at hz
    obtain⟨⟨⟨z1,z2⟩,z3⟩,z4⟩:=hz
    simp only[pop] at hv
    split at hv
    ·rename_i l' c' A7 hc'
     split at hv
     ·rename_i hb
      cases hv
      rw[A7] at hl
      rw[hc'] at hc
      show cF P (do pure (.value (←Instr.makeSlice t (a.eval l) (a.eval c)))) L0 lo m H w _ _
      generalize a.eval l=rl at hl ⊢
      generalize a.eval c=rc at hc ⊢
      cases hl
      cases hc
      exact T4 ht z1 z2 z3 z4 hb.1 hb.2.1 hb.2.2.1 hb.2.2.2 hR (hf _ (Nat.le_refl _) (by simp))
     ·cases hv
    ·cases hv
   ·cases hp
  ·cases hp
 |
  buildSlice t n parts =>
  simp only at hp
  split at hp
  ·rename_i agg size z nb ht
   split at hp
   ·rename_i hz
    cases hp
    simp only[Bool.and_eq_true,beq_iff_eq,decide_eq_true_eq] at hz
    obtain⟨⟨⟨⟨z1,z2⟩,z3⟩,z4⟩,z5⟩:=hz
    simp only[pop] at hv
    split at hv
    ·rename_i cs KS
     split at hv
     ·rename_i sT
      cases hv
      have:=WJ (P:=P) (w:=w) (lo:=lo) (a:=a) ht z1 z2 z3 z4 z5 KS sT (fun p hpm=>hr p.2 (by simp only[Op.operands];simp;exact⟨p.1,by simpa using hpm⟩)) hR (hf _ (Nat.le_refl _) (by simp))
      rw[Array.toArray_toList] at this
      exact this
     ·cases hv
    ·cases hv
   ·cases hp
  ·cases hp
 |
  call c =>
  obtain⟨callee,args,ts⟩:=c
  cases callee with
  |
   builtin b =>
   have Qz:∀x∈args,RV m (ev ρ x) (a.eval x):=fun x hx=>hr x (by simpa[Op.operands,Call.operands] using hx)
   simp only at hp
   unfold mV at hp
   split at hp
   ·split at hp<;>first | (cases hp;done) | (cases hp;exact absurd rfl iC)
   ·split at hp<;>first | (cases hp;done) | (cases hp;exact absurd rfl iC)
   ·cases hp;exact absurd rfl iC
   ·cases hp;exact absurd rfl iC
   ·rename_i x y t u BY vK hts _
    have ea:args = #[x,y]:=Array.toList_inj.1 (by simpa using vK)
    subst ea
    have hx:=Qz x (by simp)
    have hy:=Qz y (by simp)
    have arK:∃tr,ts=(t::u::tr).toArray:=⟨BY,Array.toList_inj.1 (by simpa using hts)⟩
    obtain⟨tr,rfl⟩:=arK
    show cF P (do pure (.value (←Builtin.append_ (t::u::tr).toArray type ((#[x,y]:Array Operand).map a.eval)))) L0 lo m H w v H'
    rw[Il]
    have asF:∀r1 r2,Builtin.append_ (t::u::tr).toArray type #[r1,r2]=Builtin.append_ #[t,u] type #[r1,r2]:=fun r1 r2=>by simp[Builtin.append_]
    rw[asF]
    split at hp
    ·rename_i agg size zero bytes ku ht hu
     split at hp
     ·rename_i hz
      cases hp
      simp only[Bool.and_eq_true,beq_iff_eq,decide_eq_true_eq] at hz
      obtain⟨⟨⟨z1,z2⟩,z3⟩,z4⟩:=hz
      simp only[pop] at hv
      split at hv
      ·rename_i n hn
       split at hv
       ·rename_i hb
        cases qW:dX lo zero.length bytes (ev ρ x) n.toNat (cR n.toNat zero) H with
        | none=>rw[qW] at hv;cases hv
        |
         some q =>
         obtain⟨u',H1⟩:=q
         rw[qW] at hv
         cases hv
         rw[hn] at hy
         generalize a.eval y=ry at hy ⊢
         cases hy
         exact UC ht hu hb qW hx z4 z1 z2 z3 hR eI hf
       ·cases hv
      ·cases hv
     ·cases hp
    ·rename_i agg size zero bytes d _ ht hu
     split at hp
     ·rename_i hd
      split at hp
      ·rename_i SA
       cases hp
       simp only[pop] at hv
       split at hv
       ·rename_i k hk
        split at hv
        ·rename_i new qN
         cases qW:dX lo size bytes (ev ρ x) k new H with
         | none=>rw[qW] at hv;cases hv
         |
          some q =>
          obtain⟨u',H1⟩:=q
          rw[qW] at hv
          cases hv
          exact YE ht hu hd hk qN qW hx hy (by simpa using SA) hR eI hf
        ·cases hv
       ·cases hv
      ·cases hp
     ·cases hp
    ·cases hp
   ·rename_i x y t BY vK hts _
    have ea:args = #[x,y]:=Array.toList_inj.1 (by simpa using vK)
    have et:ts=(t::BY).toArray:=Array.toList_inj.1 (by simpa using hts)
    subst ea;subst et
    have hx:=Qz x (by simp)
    have hy:=Qz y (by simp)
    show cF P (do pure (.value (←Builtin.copy_ (t::BY).toArray type ((#[x,y]:Array Operand).map a.eval)))) L0 lo m H w v H'
    rw[Il]
    split at hp
    ·rename_i agg size zero bytes ht
     cases hp
     simp only[pop] at hv
     split at hv
     ·rename_i n c k Vu hk
      cases hv
      rw[Vu] at hx
      generalize a.eval x=rx at hx ⊢
      cases hx
      obtain⟨e,GJ,Mu⟩:=iH ht
      obtain⟨i,de,zz,hi,_,F4,_,_,_,_⟩:=gW Mu
      refine cF.value (rv := .int .i64 0) (w':=w) ?_ (.int _ _) hR (Trans.refl lo m _ w)
      have hl:=Gt hk hy
      have hf0:=OS (P:=P) (w:=w) i.size hk hy
      simp[Builtin.copy_,run_underlying GJ,hl,run_sizeOf e i hi,goInt,hf0]
     ·rename_i b o d c k Vu hk
      split at hv
      ·rename_i new qN
       cases hw:H.write lo b o new with
       | none=>rw[hw] at hv;cases hv
       |
        some H1 =>
        rw[hw] at hv
        cases hv
        rw[Vu] at hx
        exact Uo ht hk qN hw hx hy hR eI
      ·cases hv
     ·cases hv
    ·cases hp
   ·rename_i x t BY vK hts _
    have ea:args = #[x]:=Array.toList_inj.1 (by simpa using vK)
    have et:ts=(t::BY).toArray:=Array.toList_inj.1 (by simpa using hts)
    subst ea;subst et
    have hx:=Qz x (by simp)
    show cF P (do pure (.value (←Builtin.clear_ (t::BY).toArray type ((#[x]:Array Operand).map a.eval)))) L0 lo m H w v H'
    rw[MA]
    split at hp
    ·rename_i agg size zero bytes ht
     split at hp
     ·rename_i hz
      cases hp
      simp only[Bool.and_eq_true,beq_iff_eq,decide_eq_true_eq] at hz
      obtain⟨⟨⟨z1,z2⟩,z3⟩,z4⟩:=hz
      obtain⟨e,GJ,Mu⟩:=iH ht
      obtain⟨i,de,zz,hi,_,F4,rfl,rfl,rfl,rfl⟩:=gW Mu
      simp only[pop] at hv
      split at hv
      ·rename_i n c Vu
       cases hv
       rw[Vu] at hx
       generalize a.eval x=rx at hx ⊢
       cases hx
       exact GL GJ .Kt hR
      ·rename_i b o n c Vu
       rw[Vu] at hx
       split at hv
       ·rename_i V9
        cases hv
        subst V9
        exact GL GJ hx hR
       ·rename_i V9
        cases hw:H.write lo b o (cR n (aK zz)) with
        | none=>rw[hw] at hv;cases hv
        |
         some H1 =>
         rw[hw] at hv
         cases hv
         exact Sc GJ hi F4 V9 hw hx z2 z4 hR eI
      ·cases hv
     ·cases hp
    ·cases hp
   ·cases hp
  |
   value f =>
   cases f with
   | func g=>cases hp;cases hv
   |
    tmp t =>
    cases hp
    simp only[pop] at hv
    split at hv<;>cases hv
   | const c=>cases hp
   | global g=>cases hp
  | invoke r s=>cases hp
 | _=>cases hp
def Jd (P:Program) (f:Nat):Prop:=∃fn,P.funcs[f]? = some fn∧(fn.name == "runtime.NumGoroutine")=false∧fn.body.isNone=false
theorem ES {f:Nat} {args:Array Value} (h:Jd P f):(callFunc f args).run P w = .ok (.enter f args) w:=by
 obtain⟨fn,h1,h2,h3⟩:=h
 unfold callFunc
 rw[Sem.run_bind,run_program,Result.andThen_ok,h1]
 simp[h2,h3]
theorem map_none {α β:Type} {o:Option α} {f:α→β} {x:β} (h:o.map f=some x) (hf:∀y,f y≠x):False:=by
 cases o with
 | none=>cases h
 | some y=>injection h with h;exact hf y h
theorem Um {op:Op} {g:Nat} {as:List Operand} (h:nY P op=some (.call g as)):∃args ts,op = .call ⟨.value (.func g),args,ts⟩∧as=args.toList:=by
 unfold nY at h
 split at h
 case isFalse=>cases h
 cases op with
 |
  call c =>
  obtain⟨callee,args,ts⟩:=c
  cases callee with
  |
   builtin b =>
   exfalso
   simp only[mV] at h
   repeat' (split at h)
   all_goals cases h
  |
   value f =>
   cases f with
   | func g'=>cases h;exact⟨args,ts,rfl,rfl⟩
   | _=>cases h
  | invoke r s=>cases h
 |
  _ =>
  exfalso
  dsimp only at h
  try unfold Ab at h
  repeat' (split at h)
  all_goals first
   | contradiction
   | (cases h;done)
   | exact map_none h (by intro y h;cases h)
theorem RW {op:Op} {fv:Operand} {as:List Operand} (h:nY P op=some (.callv fv as)):∃args ts,op = .call ⟨.value fv,args,ts⟩∧as=args.toList:=by
 unfold nY at h
 split at h
 case isFalse=>cases h
 cases op with
 |
  call c =>
  obtain⟨callee,args,ts⟩:=c
  cases callee with
  |
   builtin b =>
   exfalso
   simp only[mV] at h
   repeat' (split at h)
   all_goals cases h
  |
   value f =>
   cases f with
   | tmp g'=>cases h;exact⟨args,ts,rfl,rfl⟩
   | _=>cases h
  | invoke r s=>cases h
 |
  _ =>
  exfalso
  dsimp only at h
  try unfold Ab at h
  repeat' (split at h)
  all_goals first
   | contradiction
   | (cases h;done)
   | exact map_none h (by intro y h;cases h)
theorem qH {po:lM} {ρ:Env} {lo f:Nat} {args:List Value} (hv:pop lo po ρ H=some (.call f args)):(∃g as,po = .call g as)∨(∃g as,po = .callv g as):=by
 by_cases iC:rR po=true
 ·rw[vR iC] at hv
  cases hpp:gU po ρ with
  | none=>rw[hpp] at hv;cases hv
  | some u=>rw[hpp] at hv;cases hv
 cases po<;>first | exact absurd rfl iC | exact .inl ⟨_,_,rfl⟩ | exact .inr ⟨_,_,rfl⟩ | skip
 all_goals
  exfalso
  simp only[pop] at hv
  repeat' (split at hv)
  all_goals first
   | (cases hv;done)
   | (revert hv;generalize aD.write _ _ _ _ _=q;cases q<;>intro hv<;>cases hv)
   | (revert hv;generalize lW _ _ _ _=q;cases q<;>intro hv<;>cases hv)
   | (revert hv;generalize A5 _ _ _ _ _ _=q;cases q<;>intro hv<;>cases hv)
   | (revert hv;generalize dX _ _ _ _ _ _ _=q;cases q<;>intro hv<;>cases hv)
   | (revert hv;generalize rY _=q;cases q<;>intro hv<;>cases hv)
theorem U4 {o:Oper} {po:lM} {ρ:Env} {a:Act} {lo f:Nat} {args:List Value} (hp:nY P o.op=some po) (hv:pop lo po ρ H=some (.call f args)) (hr:∀x∈o.op.operands,RV m (ev ρ x) (a.eval x)) :
  ∃fX,RL m args fX∧(Jd P f→∀w,(execOp a.eval o).run P w = .ok (.enter f fX.toArray) w):=by
 have key:=qH hv
 obtain⟨dst,op,type,pos,after,guard⟩:=o
 simp only at hp hr ⊢
 rcases key with⟨g,as,rfl⟩ | ⟨g,as,rfl⟩
 ·obtain⟨AK,ts,rfl,rfl⟩:=Um hp
  cases hv
  refine⟨AK.toList.map a.eval,RL.map fun x hx=>hr x (by simp[Op.operands,Call.operands];right;simpa using hx),fun hc w => ?_⟩
  have e1:(AK.toList.map a.eval).toArray=AK.map a.eval:=Array.toList_inj.1 (by rw[Array.toList_map])
  rw[e1]
  have e2:execOp a.eval ⟨dst,.call ⟨.value (.func f),AK,ts⟩,type,pos,after,guard⟩=callFunc f ((#[]++AK.map a.eval) ++ #[]):=rfl
  rw[e2,ES hc]
  simp
 ·obtain⟨AK,ts,rfl,rfl⟩:=RW hp
  have hg:=hr g (by simp[Op.operands,Call.operands])
  simp only[pop] at hv
  split at hv
  ·rename_i f' first fE hfv
   cases hv
   rw[hfv] at hg
   generalize hrg:a.eval g=rg at hg
   cases hg with
   |
    func fn f1 g1 c1 d1 h1 h2 h3 h4 =>
    refine⟨g1.toList++AK.toList.map a.eval++d1.toList,((RL.arr h1 h2).append (RL.map fun x hx=>hr x (by simp[Op.operands,Call.operands];right;simpa using hx))).append (RL.arr h3 h4),fun hc w => ?_⟩
    have e1:(g1.toList++AK.toList.map a.eval++d1.toList).toArray=(g1++AK.map a.eval)++d1:=by
     apply Array.ext'
     simp
    rw[e1]
    have e2:(execOp a.eval ⟨dst,.call ⟨.value g,AK,ts⟩,type,pos,after,guard⟩)=(do let d ←Deferred.ofValue (a.eval g) (AK.map a.eval);invoke d.target d.args):=rfl
    rw[e2,hrg]
    show (callFunc f ((g1++AK.map a.eval)++d1)).run P w=_
    exact ES hc
  ·cases hv
end
end Go.PM
namespace Go.PM
section
variable {H:aD}
theorem Ua {lo:Nat} {H':aD} (h:Ext H.length H H'):Ext lo H H' :=
 ⟨h.len,fun b _ hl=>h.low b hl hl,h.liv⟩
theorem G9 {lo size bytes add:Nat} {x v:Value} {new:List Value} {H':aD} (h:dX lo size bytes x add new H=some (v,H')):Ext lo H H':=by
 unfold dX at h
 split at h
 case isFalse=>cases h
 split at h
 ·split at h
  ·split at h
   ·cases h;exact Ext.refl _ _
   ·split at h
    ·cases h;exact nK _ _ _
    ·cases h
  ·cases h
 ·split at h
  ·split at h
   ·split at h
    ·split at h
     ·cases h;exact Ext.refl _ _
     ·cases hw:aD.write H lo _ _ new with
      | none=>rw[hw] at h;cases h
      | some H1=>rw[hw] at h;cases h;exact Cv hw
    ·split at h
     ·split at h
      ·split at h
       ·rename_i Da
        cases h
        exact Vg Da
       ·cases h
      ·cases h;exact nK _ _ _
     ·cases h
   ·cases h
  ·cases h
 ·cases h
theorem Ya {lo size:Nat} {x v:Value} {l h' mx:Option Value} {H':aD} (h:A5 size x l h' mx H=some (v,H')):Ext lo H H':=by
 unfold A5 at h
 repeat' (split at h)
 all_goals first
  | (cases h;done)
  | (cases h;exact Ext.refl _ _)
  | (cases h;exact nK _ _ _)
theorem S7 {lo:Nat} {po:lM} {ρ:Env} {v:Value} {H':aD} (h:pop lo po ρ H=some (.val v H')):Ext lo H H':=by
 by_cases iC:rR po=true
 ·rw[vR iC] at h
  obtain⟨_,rfl⟩:=Bo h
  exact Ext.refl _ _
 cases po<;>first | exact absurd rfl iC | skip
 case load agg size p =>
  simp only[pop] at h
  cases hl:lW agg size (ev ρ p) H with
  | none=>rw[hl] at h;cases h
  | some u=>rw[hl] at h;cases h;exact Ext.refl _ _
 case sub size x l hh mx =>
  simp only[pop] at h
  cases hs:A5 size (ev ρ x) (l.map (ev ρ)) (hh.map (ev ρ)) (mx.map (ev ρ)) H with
  | none=>rw[hs] at h;cases h
  |
   some q =>
   obtain⟨u,H1⟩:=q
   rw[hs] at h;cases h;exact Ya hs
 case b2s x =>
  simp only[pop] at h
  split at h
  ·cases h;exact Ext.refl _ _
  ·split at h
   ·rename_i cs _
    cases hb:rY cs with
    | none=>rw[hb] at h;cases h
    | some bs=>rw[hb] at h;cases h;exact Ext.refl _ _
   ·cases h
  ·cases h
 case new z=>cases h;exact nK _ _ _
 case box x =>
  simp only[pop] at h
  split at h
  ·cases h;exact nK _ _ _
  ·cases h
 case make z b l c =>
  simp only[pop] at h
  split at h
  ·split at h
   ·cases h;exact nK _ _ _
   ·cases h
  ·cases h
 case lit z n parts =>
  simp only[pop] at h
  split at h
  ·split at h
   ·cases h;exact nK _ _ _
   ·cases h
  ·cases h
 case call f args=>cases h
 case callv f args =>
  simp only[pop] at h
  split at h<;>cases h
 case store size p x =>
  simp only[pop] at h
  split at h
  ·rename_i b o _
   split at h
   ·cases hw:H.write lo b o (aK (ev ρ x)) with
    | none=>rw[hw] at h;cases h
    | some H1=>rw[hw] at h;cases h;exact Cv hw
   ·cases h
  ·cases h
 case app size bytes x y =>
  simp only[pop] at h
  split at h
  ·rename_i n _
   split at h
   ·rename_i new _
    cases ha:dX lo size bytes (ev ρ x) n new H with
    | none=>rw[ha] at h;cases h
    |
     some q =>
     obtain⟨u,H1⟩:=q
     rw[ha] at h;cases h;exact G9 ha
   ·cases h
  ·cases h
 case appz z bytes x n =>
  simp only[pop] at h
  split at h
  ·rename_i k _
   split at h
   ·cases ha:dX lo z.length bytes (ev ρ x) k.toNat (cR k.toNat z) H with
    | none=>rw[ha] at h;cases h
    |
     some q =>
     obtain⟨u,H1⟩:=q
     rw[ha] at h;cases h;exact G9 ha
   ·cases h
  ·cases h
 case copy size x y =>
  simp only[pop] at h
  split at h
  ·cases h;exact Ext.refl _ _
  ·rename_i b o d _ s _ _
   split at h
   ·rename_i new _
    cases hw:H.write lo b o new with
    | none=>rw[hw] at h;cases h
    | some H1=>rw[hw] at h;cases h;exact Cv hw
   ·cases h
  ·cases h
 case clear z x =>
  simp only[pop] at h
  split at h
  ·cases h;exact Ext.refl _ _
  ·rename_i b o n _ _
   split at h
   ·cases h;exact Ext.refl _ _
   ·cases hw:H.write lo b o (cR n z) with
    | none=>rw[hw] at h;cases h
    | some H1=>rw[hw] at h;cases h;exact Cv hw
  ·cases h
def pM (call:fO):Prop:=∀f args lo H v H',call f args lo H=some (v,H')→Ext lo H H'
theorem J9 {call:fO} (hc:pM call) {lo:Nat} {i:PI} {ρ:Env} {v:Value} {H':aD} (h:wV call lo i ρ H=some (v,H')):Ext lo H H':=by
 unfold wV at h
 split at h
 ·cases h
 ·cases h;exact Ext.refl _ _
 ·split at h
  ·split at h
   ·rename_i hp
    cases h
    exact S7 hp
   ·rename_i f args _
    have:=hc _ _ _ _ _ _ h
    split at this
    ·exact Ua this
    ·exact this
   ·cases h
  ·cases h
theorem vO {call:fO} {lo:Nat} {i:PI} {ρ aS:Env} {H':aD} (h:wC call lo i ρ H=some (aS,H')):∃v,wV call lo i ρ H=some (v,H')∧aS=put ρ i.dst v:=by
 unfold wC at h
 split at h
 ·rename_i v H1 hv
  cases h
  exact⟨v,hv,rfl⟩
 ·cases h
theorem FD {call:fO} (hc:pM call) {lo:Nat} {i:PI} {ρ aS:Env} {H':aD} (h:wC call lo i ρ H=some (aS,H')):Ext lo H H':=by
 obtain⟨v,h1,_⟩:=vO h
 exact J9 hc h1
theorem JV {call:fO} (hc:pM call) {lo:Nat}:∀(is:List PI) {ρ aS:Env} {H H':aD},gH call lo is ρ H=some (aS,H')→Ext lo H H'
 | [],ρ,aS,H,H',h=>by cases h;exact Ext.refl _ _
 |
  i::is,ρ,aS,H,H',h=>by
  rw[gH] at h
  split at h
  ·rename_i h1
   exact(FD hc h1).trans (JV hc is h)
  ·cases h
theorem FQ {lo:Nat} {body:Env→aD→Option (Ex×Env×aD)} (hb:∀ρ H x aS H',body ρ H=some (x,aS,H')→Ext lo H H'):∀(n:Nat) {ρ aS:Env} {H H':aD} {x:Ex},vF body n ρ H=some (x,aS,H')→Ext lo H H'
 | 0,_,_,_,_,_,h=>by cases h
 |
  n+1,ρ,aS,H,H',x,h=>by
  rw[vF] at h
  split at h
  ·rename_i h1
   exact(hb _ _ _ _ _ h1).trans (FQ hb n h)
  ·exact hb _ _ _ _ _ h
theorem iN {call:fO} (hc:pM call) {lo n:Nat}:∀(c:aE) {ρ aS:Env} {H H':aD} {x:Ex},dJ call lo n c ρ H=some (x,aS,H')→Ext lo H H'
 | .skip,_,_,_,_,_,h=>by cases h;exact Ext.refl _ _
 |
  .eG ops,ρ,aS,H,H',x,h=>by
  rw[dJ] at h
  cases hp:gH call lo ops ρ H with
  | none=>rw[hp] at h;cases h
  |
   some q =>
   obtain⟨uA,H1⟩:=q
   rw[hp] at h;cases h
   exact JV hc ops hp
 |
  .seq a b,ρ,aS,H,H',x,h=>by
  rw[dJ] at h
  split at h
  ·rename_i h1
   exact(iN hc a h1).trans (iN hc b h)
  ·exact iN hc a h
 |
  .cond c a b,ρ,aS,H,H',x,h=>by
  rw[dJ] at h
  split at h
  ·split at h
   ·exact iN hc a h
   ·exact iN hc b h
  ·cases h
 |
  .block id a,ρ,aS,H,H',x,h=>by
  rw[dJ] at h
  split at h
  ·rename_i h1
   split at h<;>(cases h;exact iN hc a h1)
  ·exact iN hc a h
 |
  .loop a,ρ,aS,H,H',x,h=>by
  rw[dJ] at h
  exact FQ (fun ρ H x aS H' h=>iN hc a h) n h
 | .exit id,_,_,_,_,_,h=>by cases h;exact Ext.refl _ _
 | .ret,_,_,_,_,_,h=>by cases h;exact Ext.refl _ _
theorem Cy (E:zV) (T:Xs):∀n,pM (kO E T n)
 | 0=>fun _ _ _ _ _ _ h=>by cases h
 |
  n+1=>fun f args lo H v H' h=>by
  rw[kO] at h
  split at h
  ·rename_i p _
   cases hp:p args H with
   | none=>rw[hp] at h;cases h
   | some u=>rw[hp] at h;cases h;exact Ext.refl _ _
  ·split at h
   ·cases h
   ·rename_i pf _
    split at h
    ·split at h
     ·rename_i uA H1 h1
      cases hr:oM pf.res uA H1 with
      | none=>rw[hr] at h;cases h
      | some u=>rw[hr] at h;cases h;exact iN (Cy E T n) _ h1
     ·rename_i uA H1 h1
      cases hr:oM pf.res uA H1 with
      | none=>rw[hr] at h;cases h
      | some u=>rw[hr] at h;cases h;exact iN (Cy E T n) _ h1
     ·cases h
    ·cases h
end
end Go.PM
namespace Go.PM
theorem CJ {α β:Type} {f:α→Option β}:∀ {l:List α} {ys:List β},l.mapM f=some ys→ys.length=l.length∧∀i (h:i<l.length),f l[i]=ys[i]?
 |
  [],ys,h=>by
  simp at h
  subst h
  exact⟨rfl,fun i h=>absurd h (by simp)⟩
 |
  x::l,ys,h=>by
  simp only[List.mapM_cons,Option.pure_def,Option.bind_eq_bind] at h
  cases h1:f x with
  | none=>rw[h1] at h;cases h
  |
   some y =>
   rw[h1] at h
   cases h2:l.mapM f with
   | none=>rw[h2] at h;cases h
   |
    some zs =>
    rw[h2] at h
    cases h
    obtain⟨k1,k2⟩:=CJ h2
    refine⟨by simp[k1],fun i hi => ?_⟩
    cases i with
    | zero=>simpa using h1
    | succ i=>simpa using k2 i (by simpa using hi)
theorem Qj {α β:Type} {f:α→Option β} {l:List α} {ys:List β} (h:l.mapM f=some ys) {i:Nat} {x:α} (hx:l[i]? = some x):∃y,ys[i]? = some y∧f x=some y:=by
 obtain⟨h1,h2⟩:=CJ h
 obtain⟨aU,rfl⟩:=List.getElem?_eq_some_iff.1 hx
 have Iz:i<ys.length:=by omega
 refine⟨ys[i],List.getElem?_eq_getElem Iz,?_⟩
 rw[h2 i aU,List.getElem?_eq_getElem Iz]
def CM (E:zV) (ops:List Oper) (M:List Nat) (i j:Nat) (pi pj:lM) (l:List (Operand×Operand)):Prop :=
 match fF E pi,fF E pj with
 | .look,.write | .write,.look=>ahead M i j=true∨∃a b,Db pi=some a∧Db pj=some b∧Cw ops i j a=true∧(a,b)∈l
 | .write,.write | .quiet,.write | .write,.quiet=>ahead M i j=true
 | _,_=>True
theorem CM.mono {E:zV} {ops:List Oper} {M:List Nat} {i j:Nat} {pi pj:lM} {l l':List (Operand×Operand)} (h:CM E ops M i j pi pj l) (hl:∀x∈l,x∈l'):CM E ops M i j pi pj l':=by
 unfold CM at h ⊢
 split at h
 all_goals first
  | exact h
  | exact h.imp id fun⟨a,b,h1,h2,h3,h4⟩=>⟨a,b,h1,h2,h3,hl _ h4⟩
theorem J3 {E:zV} {ops:List Oper} {ps:List lM} {M:List Nat} {j:Nat} {pj:lM} {l:List (Operand×Operand)} (h:conflicts E ops ps M j pj=some l) :
  ∀i,i<j→∀pi,ps[i]? = some pi→CM E ops M i j pi pj l:=by
 have key:∀(is:List Nat) (l:List (Operand×Operand)),(is.foldr (fun i acc=>match acc,ps[i]? with
  |
   some l,some pi =>
   match fF E pi,fF E pj with
   |
    .look,.write | .write,.look =>
    if ahead M i j then some l
    else match Db pi,Db pj with
     | some a,some b=>if Cw ops i j a then some ((a,b)::l) else none
     | _,_=>none
   | .write,.write | .quiet,.write | .write,.quiet=>if ahead M i j then some l else none
   | _,_=>some l
  | _,_=>none) (some []))=some l→∀i∈is,∀pi,ps[i]? = some pi→CM E ops M i j pi pj l:=by
  intro is
  induction is with
  | nil=>intro l _ i hi;cases hi
  |
   cons i0 is ih =>
   intro l h i hi pi U8
   rw[List.foldr_cons] at h
   revert h
   generalize auC:is.foldr _ (some [])=acc
   intro h
   cases acc with
   | none=>cases h
   |
    some l0 =>
    have ih':=ih l0 auC
    cases hp0:ps[i0]? with
    | none=>rw[hp0] at h;cases h
    |
     some p0 =>
     rw[hp0] at h
     simp only at h
     have step:(∀x∈l0,x∈l)∧CM E ops M i0 j p0 pj l:=by
      unfold CM
      split at h
      ·rename_i c1 c2
       try rw[c1,c2]
       split at h
       ·rename_i ha;cases h;exact⟨fun x hx=>hx,.inl ha⟩
       ·split at h
        ·rename_i a b ta tb
         split at h
         ·rename_i hu;cases h;exact⟨fun x hx=>List.mem_cons_of_mem _ hx,.inr ⟨a,b,ta,tb,hu,List.mem_cons_self⟩⟩
         ·cases h
        ·cases h
      ·rename_i c1 c2
       try rw[c1,c2]
       split at h
       ·rename_i ha;cases h;exact⟨fun x hx=>hx,.inl ha⟩
       ·split at h
        ·rename_i a b ta tb
         split at h
         ·rename_i hu;cases h;exact⟨fun x hx=>List.mem_cons_of_mem _ hx,.inr ⟨a,b,ta,tb,hu,List.mem_cons_self⟩⟩
         ·cases h
        ·cases h
      ·rename_i c1 c2
       try rw[c1,c2]
       split at h
       ·rename_i ha;cases h;exact⟨fun x hx=>hx,ha⟩
       ·cases h
      ·rename_i c1 c2
       try rw[c1,c2]
       split at h
       ·rename_i ha;cases h;exact⟨fun x hx=>hx,ha⟩
       ·cases h
      ·rename_i c1 c2
       try rw[c1,c2]
       split at h
       ·rename_i ha;cases h;exact⟨fun x hx=>hx,ha⟩
       ·cases h
      ·cases h
       refine⟨fun x hx=>hx,?_⟩
       first | trivial | (split<;>first | trivial | (simp_all;done)) | (simp_all;done)
     rcases List.mem_cons.1 hi with rfl | hi
     ·rw[hp0] at U8
      cases U8
      exact step.2
     ·exact(ih' i hi pi U8).mono step.1
 exact fun i hi pi U8=>key _ l h i (List.mem_range.2 hi) pi U8
structure WU (P:Program) (E:zV) (n:Nat) (ops:List Oper) (i:Nat) (o:Oper) (p:lM) (pi:PI):Prop where
 UF:nY P o.op=some p
 dst:pi.dst=o.dst
 op:pi.op=p
 guard:guardOf ops i o=some pi.g
 bound:∀d,o.dst=some d→d<n
structure NA (E:zV) (ops:List Oper) (ps:List lM) (M:List Nat) (i:Nat) (o:Oper) (p:lM) (pi:PI):Prop where
 back:∀e∈o.after.toList,Region.binds .any e=true→e.on<i
 guard:∀j w,o.guard=some (j,w)→(M.getD i 0).testBit j=true
 Lu:∀t∈o.dst.toList++tY ops o,∀k ok,ops[k]? = some ok→ok.dst=some t→k=i∨ahead M i k=true
 mask:M.getD i 0=uH o M
 quiet:pi.quiet=(match fF E p with | .quiet=>true | _=>false)
 akB:∀k,k<i→∀pk,ps[k]? = some pk→CM E ops M k i pk p pi.cf
theorem Oq {P:Program} {E:zV} {n:Nat} {ops:List Oper} {ps:List lM} {M:List Nat} {draw:Bool} {i:Nat} {pi:PI} (h:Rg E ops ps M n draw i=some pi) {o:Oper} {p:lM} (ho:ops[i]? = some o) (hp:ps[i]? = some p)
  (Tx:nY P o.op=some p):WU P E n ops i o p pi∧(draw=true→NA E ops ps M i o p pi)∧(draw=false→pi.quiet=false∧pi.cf=[]):=by
 unfold Rg at h
 rw[ho,hp] at h
 simp only at h
 split at h
 case isFalse=>cases h
 rename_i hb
 have hbound:∀d,o.dst=some d→d<n:=by
  intro d hd
  rw[hd] at hb
  simpa[adG] using hb
 split at h
 ·cases h
 ·rename_i g hg
  cases draw with
  |
   false =>
   simp only[Bool.false_eq_true,if_false] at h
   cases h
   exact⟨⟨Tx,rfl,rfl,hg,hbound⟩,(fun h=>by cases h),fun _=>⟨rfl,rfl⟩⟩
  |
   true =>
   simp only[if_true] at h
   split at h
   case isFalse=>cases h
   rename_i hc
   simp only[Bool.and_eq_true,beq_iff_eq] at hc
   obtain⟨⟨⟨c1,c2⟩,c3⟩,c4⟩:=hc
   cases NO:conflicts E ops ps M i p with
   | none=>rw[NO] at h;cases h
   |
    some cf =>
    rw[NO] at h
    cases h
    refine⟨⟨Tx,rfl,rfl,hg,hbound⟩,fun _=>⟨fun e he Zt => ?_,fun j w hj => ?_,fun t ht k ok hk hkd => ?_,c4,rfl,J3 NO⟩,(fun h=>by cases h)⟩
    ·have:=List.all_eq_true.1 c1 e he
     simpa[Zt] using this
    ·rw[hj] at c2
     exact c2
    ·have h1:=List.all_eq_true.1 c3 t ht
     have V4:k<ops.length:=(List.getElem?_eq_some_iff.1 hk).1
     have h2:=List.all_eq_true.1 h1 k (List.mem_range.2 V4)
     rw[hk] at h2
     simp only[Bool.or_eq_true,bne_iff_ne,ne_eq,beq_iff_eq] at h2
     rcases h2 with(h2 | h2) | h2
     ·exact absurd hkd h2
     ·exact .inl h2
     ·exact .inr h2
structure acS (P:Program) (E:zV) (n:Nat) (ops:List Oper) (draw:Bool) (qY:List PI) (ps:List lM) (M:List Nat):Prop where
 CU:ps.length=ops.length
 arN:qY.length=ops.length
 each:∀i o,ops[i]? = some o→∃p pi,ps[i]? = some p∧qY[i]? = some pi∧WU P E n ops i o p pi∧(draw=true→NA E ops ps M i o p pi)∧(draw=false→pi.quiet=false∧pi.cf=[])
theorem HL {P:Program} {E:zV} {n:Nat} {ops:Array Oper} {draw:Bool} {qY:List PI} (h:vH P E n ops draw=some qY):∃ps M,acS P E n ops.toList draw qY ps M:=by
 unfold vH at h
 split at h
 ·rename_i ps hps
  simp only at h
  generalize (if draw=true then No ops.toList [] else [])=M at h
  obtain⟨h1,h2⟩:=CJ hps
  obtain⟨h3,h4⟩:=CJ h
  refine⟨ps,M,h1,by simpa using h3,fun i o ho => ?_⟩
  have aU:=(List.getElem?_eq_some_iff.1 ho).1
  obtain⟨p,hp,Tx⟩:=Qj hps ho
  have hr:(List.range ops.size)[i]? = some i:=by rw[List.getElem?_range];simpa using aU
  obtain⟨pi,U8,hpp⟩:=Qj h hr
  exact⟨p,pi,hp,U8,Oq hpp ho hp Tx⟩
 ·cases h
theorem KB {o:Oper} {M:List Nat} {i:Nat} (h:(uH o M).testBit i=true):∃e∈o.after.toList,Region.binds .any e=true∧(e.on=i∨(M.getD e.on 0).testBit i=true):=by
 unfold uH at h
 revert h
 generalize o.after.toList=es
 induction es with
 | nil=>intro h;simp at h
 |
  cons e es ih =>
  intro h
  rw[List.foldr_cons] at h
  split at h
  ·rename_i hb
   rw[Nat.testBit_or,Nat.testBit_or,Bool.or_eq_true,Bool.or_eq_true] at h
   rcases h with(h | h) | h
   ·obtain⟨e',h1,h2⟩:=ih h
    exact⟨e',List.mem_cons_of_mem _ h1,h2⟩
   ·refine⟨e,List.mem_cons_self,hb,.inl ?_⟩
    rw[Nat.testBit_two_pow] at h
    simpa using h
   ·exact⟨e,List.mem_cons_self,hb,.inr h⟩
  ·obtain⟨e',h1,h2⟩:=ih h
   exact⟨e',List.mem_cons_of_mem _ h1,h2⟩
theorem Q3 {ops:List Oper} {M:List Nat} {S:Nat→Prop} (hb:∀i o,ops[i]? = some o→∀e∈o.after.toList,Region.binds .any e=true→e.on<i) (hm:∀i o,ops[i]? = some o→M.getD i 0=uH o M)
  (hS:∀i o,ops[i]? = some o→S i→∀e∈o.after.toList,Region.binds .any e=true→S e.on):∀j o,ops[j]? = some o→(∀e∈o.after.toList,Region.binds .any e=true→S e.on)→∀i,(M.getD j 0).testBit i=true→S i:=by
 intro j
 induction j using Nat.strongRecOn with
 |
  _ j ih =>
  intro o ho hj i hi
  rw[hm j o ho] at hi
  obtain⟨e,he,Zt,h1⟩:=KB hi
  rcases h1 with rfl | h1
  ·exact hj e he Zt
  ·have aU:=hb j o ho e he Zt
   have hjl:=(List.getElem?_eq_some_iff.1 ho).1
   have hel:e.on<ops.length:=by omega
   exact ih e.on aU ops[e.on] (List.getElem?_eq_getElem hel) (hS e.on _ (List.getElem?_eq_getElem hel) (hj e he Zt)) i h1
end Go.PM
namespace Go.PM
def uE (P:Program) (L0:Nat) (call:fO):Prop :=
 ∀f args lo H v H',call f args lo H=some (v,H')→∀m w fX,Rel m L0 H w→L0≤lo→L0≤H.length→RL m args fX→(∀b,H.length≤b→b<H'.length→m b=none) →
  Jd P f∧Calls P f fX.toArray w fun e w'=>∃m' rv,e = .returned rv∧RV m' v rv∧Rel m' L0 H' w'∧Trans lo m H w m' H' w'
section
variable {P:Program} {m:dC} {L0:Nat} {H:aD} {w:World}
theorem rU {call:fO} {lo:Nat} {i:PI} {ρ:Env} {v:Value} {H':aD} (h:wV call lo i ρ H=some (v,H')) :
  (xH i.g ρ=some false∧v=undef∧H'=H) ∨
  (xH i.g ρ=some true∧i.cf.all (yM ρ)=true∧(pop lo i.op ρ H=some (.val v H') ∨
   ∃f args,pop lo i.op ρ H=some (.call f args)∧call f args (if i.quiet then H.length else lo) H=some (v,H'))):=by
 unfold wV at h
 split at h
 ·cases h
 ·rename_i hw;cases h;exact .inl ⟨hw,rfl,rfl⟩
 ·rename_i hw
  split at h
  ·rename_i NO
   refine .inr ⟨hw,NO,?_⟩
   split at h
   ·rename_i hp;cases h;exact .inl hp
   ·rename_i f args hp;exact .inr ⟨f,args,hp,h⟩
   ·cases h
  ·cases h
theorem Vq {t:Array Value} {d:Nat} {b:Bool} (h:t.getD d undef = .bool b):t[d]? = some (.bool b):=by
 rcases Nat.lt_or_ge d t.size with hd | hd
 ·simp[hd] at h ⊢
  exact h
 ·simp[Array.getElem?_eq_none hd,undef] at h
theorem DA {ops:Array Oper} {i:Nat} {o:Oper} {g:Option (Nat×Bool)} {ρ:Env} {a:Act} {t:Bool} (hg:guardOf ops.toList i o=some g) (hw:xH g ρ=some t)
  (hr:∀d∈tY ops.toList o,RV m (ρ d) (a.tmps.getD d undef)):Region.wanted o (yielded ops a.tmps)=t:=by
 unfold guardOf at hg
 unfold Region.wanted
 cases hgd:o.guard with
 |
  none =>
  rw[hgd] at hg
  cases hg
  cases hw
  rfl
 |
  some jw =>
  obtain⟨j,want⟩:=jw
  rw[hgd] at hg
  simp only at hg
  split at hg
  ·split at hg
   ·rename_i d hd
    cases hg
    have Iu:d∈tY ops.toList o:=by
     unfold tY
     rw[hgd]
     simp only[List.mem_append]
     right
     rw[hd]
     simp
    have Qw:=hr d Iu
    simp only[xH] at hw
    split at hw
    ·rename_i b hb
     cases hw
     rw[hb] at Qw
     generalize hx:a.tmps.getD d undef=x at Qw
     cases Qw
     have hy:yielded ops a.tmps j=some b:=by
      unfold yielded
      have Zg:(ops[j]?).bind (·.dst)=some d:=by simpa using hd
      rw[Zg,Option.bind_some,Vq hx]
     simp only[hy]
     cases b<;>cases want<;>rfl
    ·rename_i vs hb
     cases hw
     rw[hb] at Qw
     generalize hx:a.tmps.getD d undef=x at Qw
     obtain⟨ws,rfl⟩:∃ws,x = .tuple ws:=by cases Qw;exact⟨_,rfl⟩
     have Zg:(ops[j]?).bind (·.dst)=some d:=by simpa using hd
     have hy:yielded ops a.tmps j=none:=by
      unfold yielded
      rw[Zg,Option.bind_some]
      rcases Nat.lt_or_ge d a.tmps.size with aU | aU
      ·have:a.tmps[d]? = some (.tuple ws):=by rw[←hx];simp[aU]
       rw[this]
      ·rw[Array.getElem?_eq_none aU]
     simp only[hy]
     rfl
    ·cases hw
   ·cases hg
  ·cases hg
theorem Wt {E:zV} {p:lM} {lo jF:Nat} {ρ:Env} (h:fF E p = .quiet):pop lo p ρ H=pop jF p ρ H:=by
 cases p<;>first | rfl | (simp[fF] at h;done)
theorem CX {ops:List Oper} {o:Oper} {t:Nat} (h:Operand.tmp t∈o.op.operands):t∈tY ops o:=by
 unfold tY tmpsOf
 rw[List.mem_append]
 left
 rw[List.mem_filterMap]
 exact⟨.tmp t,by simpa using h,rfl⟩
theorem Jr {op:Op} {p:lM} (h:nY P op=some p):∀x∈op.operands,Na x=true:=by
 intro x hx
 unfold nY at h
 split at h
 ·rename_i nF
  obtain⟨i,hi,rfl⟩:=Array.getElem_of_mem hx
  exact Array.all_eq_true.1 nF i hi
 ·cases h
theorem MT {E:zV} {n lo k:Nat} {ops:Array Oper} {o:Oper} {p:lM} {pi:PI} {call:fO} {ρ:Env} {v:Value} {H':aD} {a:Act} {K:Act→World→Prop} {Q:Exit→Act→World→Prop} (ho:ops[k]? = some o) (AI:WU P E n ops.toList k o p pi)
  (hq:pi.quiet=true→fF E p = .quiet) (hv:wV call lo pi ρ H=some (v,H')) (hr:∀t∈tY ops.toList o,RV m (ρ t) (a.tmps.getD t undef)) (hR:Rel m L0 H w) (eI:L0≤lo) (hlen:L0≤H.length)
  (hf:∀b,H.length≤b→b<H'.length→m b=none) (mA:uE P L0 call)
  (hK:∀m' rv w',RV m' v rv→Rel m' L0 H' w'→Trans (if pi.quiet then H.length else lo) m H w m' H' w'→K (a.put o.dst rv) w'):wpOp P ops Q k K a w:=by
 have hro:∀x∈o.op.operands,RV m (ev ρ x) (a.eval x):=fun x hx=>R2 (Jr AI.UF x hx) fun t ht=>hr t (CX (ht▸hx))
 unfold wpOp
 rw[ho]
 simp only
 rcases rU hv with⟨hw,rfl,rfl⟩ | ⟨hw,_,hp | ⟨f,args,hp,hc⟩⟩
 ·rw[DA AI.guard hw hr]
  simp only[Bool.false_eq_true,if_false]
  exact hK m undef w (RV.undef m) hR (Trans.refl _ m _ w)
 ·rw[DA AI.guard hw hr]
  simp only[if_true]
  left
  rw[AI.op] at hp
  have hs:cF P (execOp a.eval o) L0 (if pi.quiet then H.length else lo) m H w v H':=by
   split
   ·rename_i hqq
    rw[Wt (jF:=H.length) (hq hqq)] at hp
    exact SS AI.UF hp hro hR hlen hf
   ·exact SS AI.UF hp hro hR eI hf
  obtain⟨rv,w',m',nC,h1,h2,h3⟩:=hs
  unfold Oper.wp
  rcases nC with nC | ⟨nC,rfl⟩
  ·rw[nC]
   exact hK m' rv w' h1 h2 h3
  ·rw[nC]
   exact hK m' undef w' h1 h2 h3
 ·rw[DA AI.guard hw hr]
  simp only[if_true]
  left
  rw[AI.op] at hp
  have akE:L0≤(if pi.quiet then H.length else lo):=by split<;>assumption
  obtain⟨fX,Qz,amO⟩:=U4 AI.UF hp hro
  have nC:=amO (mA f args _ H v H' hc m w fX hR akE hlen Qz hf).1
  unfold Oper.wp
  rw[nC w]
  show Calls P f fX.toArray w _
  refine(mA f args _ H v H' hc m w fX hR akE hlen Qz hf).2.mono ?_
  rintro e w' ⟨m',rv,rfl,h1,h2,h3⟩
  exact hK m' rv w' h1 h2 h3
end
end Go.PM
namespace Go.PM
theorem ET {call:fO} {lo:Nat}:∀ {qY:List PI} {ρ aS:Env} {H H':aD},gH call lo qY ρ H=some (aS,H') →
  ∃st:Nat→Env×aD,st 0=(ρ,H)∧st qY.length=(aS,H')∧∀i pi,qY[i]? = some pi→wC call lo pi (st i).1 (st i).2=some (st (i+1))
 |
  [],ρ,aS,H,H',h=>by
  cases h
  exact⟨fun _=>(ρ,H),rfl,rfl,fun i pi hi=>by simp at hi⟩
 |
  x::qY,ρ,aS,H,H',h=>by
  rw[gH] at h
  split at h
  ·rename_i uA H1 h1
   obtain⟨st,h2,h3,h4⟩:=ET h
   refine⟨fun i=>match i with | 0=>(ρ,H) | i+1=>st i,rfl,h3,fun i pi hi => ?_⟩
   cases i with
   |
    zero =>
    simp at hi
    subst hi
    show wC call lo x ρ H=some (st 0)
    rw[h1,h2]
   | succ i=>exact h4 i pi (by simpa using hi)
  ·cases h
theorem gY {H1 H2:aD} {b:Nat} (h:H2[b]? = H1[b]?):Live H2 b↔Live H1 b:=by
 unfold Live
 rw[h]
theorem Rel.restrict {m:dC} {L0:Nat} {H1 H2:aD} {w:World} (h:Rel m L0 H2 w) (hs:∀b,b<H1.length→H2[b]? = H1[b]?):Rel m L0 H1 w:=by
 refine⟨h.valid,fun b l cs e p hm hb=>h.row b l cs e p hm ?_,fun b1 b2 l1 l2 hb h1 h2 Cp EL=>h.inj b1 b2 l1 l2 hb h1 h2 ((gY (hs b1 Cp.lt)).2 Cp) ((gY (hs b2 EL.lt)).2 EL),fun x hx=>⟨(h.BB x hx).1,fun b l hb hm hl=>(h.BB x hx).2 b l hb hm ((gY (hs b hl.lt)).2 hl)⟩⟩
 rw[hs b (List.getElem?_eq_some_iff.1 hb).1]
 exact hb
theorem Rel.grow {m:dC} {L0:Nat} {H1 H2:aD} {w:World} (h:Rel m L0 H1 w) (hs:∀b,b<H1.length→H2[b]? = H1[b]?) (hd:∀b,H1.length≤b→b<H2.length→m b=none):Rel m L0 H2 w:=by
 have lt:∀b l,m b=some l→b<H2.length→b<H1.length:=fun b l hm hb=>by
  rcases Nat.lt_or_ge b H1.length with h | h
  ·exact h
  ·rw[hd b h hb] at hm;cases hm
 refine⟨h.valid,fun b l cs e p hm hb=>h.row b l cs e p hm ?_,fun b1 b2 l1 l2 hb h1 h2 Cp EL=>h.inj b1 b2 l1 l2 hb h1 h2 ((gY (hs b1 (lt b1 l1 h1 Cp.lt))).1 Cp) ((gY (hs b2 (lt b2 l2 h2 EL.lt))).1 EL),fun x hx=>⟨(h.BB x hx).1,fun b l hb hm hl=>(h.BB x hx).2 b l hb hm ((gY (hs b (lt b l hm hl.lt))).1 hl)⟩⟩
 rw[←hs b (lt b l hm (List.getElem?_eq_some_iff.1 hb).1)]
 exact hb
structure Text (P:Program) (E:zV) (n:Nat) (ops:Array Oper) (qY:List PI) (ps:List lM) (M:List Nat) (call:fO) (lo:Nat) (st:Nat→Env×aD):Prop where
 ok:acS P E n ops.toList true qY ps M
 ext:pM call
 step:∀i pi,qY[i]? = some pi→wC call lo pi (st i).1 (st i).2=some (st (i+1))
section
variable {P:Program} {E:zV} {n:Nat} {ops:Array Oper} {qY:List PI} {ps:List lM} {M:List Nat} {call:fO} {lo:Nat} {st:Nat→Env×aD}
theorem Text.at (T:Text P E n ops qY ps M call lo st) {i:Nat} (hi:i<ops.size):∃o p pi,ops[i]? = some o∧ps[i]? = some p∧qY[i]? = some pi∧WU P E n ops.toList i o p pi∧NA E ops.toList ps M i o p pi ∧
  ∃v,wV call lo pi (st i).1 (st i).2=some (v,(st (i+1)).2)∧(st (i+1)).1=put (st i).1 o.dst v:=by
 have ho:ops.toList[i]? = some ops[i]:=by simp[hi]
 obtain⟨p,pi,h1,h2,h3,h4,_⟩:=T.ok.each i _ ho
 obtain⟨v,h5,h6⟩:=vO (T.step i pi h2)
 exact⟨ops[i],p,pi,by simp[hi],h1,h2,h3,h4 rfl,v,h5,by rw[h6,h3.dst]⟩
theorem Text.amP (T:Text P E n ops qY ps M call lo st) {i:Nat} (hi:i<ops.size):(st i).2.length≤(st (i+1)).2.length:=by
 obtain⟨o,p,pi,_,_,_,_,_,v,hv,_⟩:=T.at hi
 exact(J9 T.ext hv).len
theorem Text.len (T:Text P E n ops qY ps M call lo st) {i:Nat}:∀ {j:Nat},i≤j→j≤ops.size→(st i).2.length≤(st j).2.length:=by
 intro j QW
 induction j with
 | zero =>
    intro _;have:i=0:=by omega
    subst this;exact Nat.le_refl _
 |
  succ j ih =>
  intro hj
  rcases Nat.lt_or_ge i (j+1) with h | h
  ·exact Nat.le_trans (ih (by omega) (by omega)) (T.amP (by omega))
  ·have:i=j+1:=by omega
   subst this;exact Nat.le_refl _
theorem Text.ajU (T:Text P E n ops qY ps M call lo st) {i:Nat} {p:lM} (hi:i<ops.size) (hp:ps[i]? = some p) (hw:fF E p ≠ .write):∀b,b<(st i).2.length→(st (i+1)).2[b]? = (st i).2[b]? := by
 intro b hb
 obtain⟨o,p',pi,_,Bs,_,AI,Ub,v,hv,_⟩:=T.at hi
 rw[hp] at Bs
 cases Bs
 rcases rU hv with⟨_,_,h⟩ | ⟨_,_,h | ⟨f,args,h1,h2⟩⟩
 ·rw[h]
 ·rw[AI.op] at h
  by_cases hq:fF E p = .quiet
  ·rw[Wt (jF:=(st i).2.length) hq] at h
   exact(S7 h).low b hb hb
  ·
   have:(st (i+1)).2=(st i).2:=by
    cases p<;>first
     | (exact absurd rfl hw)
     | (exact absurd rfl hq)
     | (rw[vR rfl] at h;exact(Bo h).2)
     | skip
    case load agg size q =>
     simp only[pop] at h
     cases hl:lW agg size (ev (st i).1 q) (st i).2 with
     | none=>rw[hl] at h;cases h
     | some u=>rw[hl] at h;injection h with h;injection h with _ h;exact h.symm
    case b2s x =>
     simp only[pop] at h
     split at h
     ·injection h with h;injection h with _ h;exact h.symm
     ·split at h
      ·rename_i cs _
       cases hb:rY cs with
       | none=>rw[hb] at h;cases h
       | some bs=>rw[hb] at h;injection h with h;injection h with _ h;exact h.symm
      ·cases h
     ·cases h
    case sub size x l hh mx =>
     simp only[pop] at h
     cases mx with
     | some mx=>exact absurd rfl hq
     |
      none =>
      cases hs:A5 size (ev (st i).1 x) (l.map (ev (st i).1)) (hh.map (ev (st i).1)) ((none:Option Operand).map (ev (st i).1)) (st i).2 with
      | none=>rw[hs] at h;cases h
      |
       some q =>
       obtain⟨u,H1⟩:=q
       rw[hs] at h
       injection h with h;injection h with _ h
       subst h
       unfold A5 at hs
       simp only[Option.map_none,Option.isSome_none,Bool.false_eq_true,false_and,if_false] at hs
       repeat' (split at hs)
       all_goals first
        | (cases hs;done)
        | (injection hs with hs;injection hs with _ hs;exact hs.symm)
    case call f args=>cases h
   rw[this]
 ·rw[AI.op] at h1
  have hq:pi.quiet=true:=by
   rw[Ub.quiet]
   rcases qH h1 with⟨g,as,rfl⟩ | ⟨g,as,rfl⟩
   ·simp only[fF] at hw ⊢
    split at hw
    ·exact absurd rfl hw
    ·rename_i h;rw[if_neg h]
   ·exact absurd rfl hw
  rw[hq] at h2
  exact(T.ext _ _ _ _ _ _ h2).low b hb hb
end
end Go.PM
namespace Go.PM
theorem CI {H H':aD} {lo b o:Nat} {new:List Value} (h:H.write lo b o new=some H') {b':Nat} (hb:b'≠b):H'[b']? = H[b']? := by
 obtain⟨cs,e,p,h1,h2,h3,h4,rfl⟩:=Aq h
 exact List.getElem?_set_ne (Ne.symm hb)
theorem Hr {H H':aD} {lo size bytes add:Nat} {x v:Value} {new:List Value} (h:dX lo size bytes x add new H=some (v,H')) {b':Nat} (hb:iA x≠some b') (aU:b'<H.length):H'[b']? = H[b']? := by
 unfold dX at h
 split at h
 case isFalse=>cases h
 split at h
 ·split at h
  ·split at h
   ·cases h;rfl
   ·split at h
    ·cases h;exact List.getElem?_append_left aU
    ·cases h
  ·cases h
 ·rename_i b o n c
  have eV:b'≠b:=fun e=>hb (by rw[e];rfl)
  split at h
  ·split at h
   ·split at h
    ·split at h
     ·cases h;rfl
     ·cases hw:aD.write H lo b (o+n*size) new with
      | none=>rw[hw] at h;cases h
      | some H1=>rw[hw] at h;cases h;exact CI hw eV
    ·split at h
     ·split at h
      ·split at h
       ·cases h
        rw[List.getElem?_append_left (by simpa using aU)]
        exact List.getElem?_set_ne (Ne.symm eV)
       ·cases h
      ·cases h;exact List.getElem?_append_left aU
     ·cases h
   ·cases h
  ·cases h
 ·cases h
theorem ZQ {E:zV} {lo:Nat} {p:lM} {ρ:Env} {H H':aD} {v:Value} {x:Operand} (h:pop lo p ρ H=some (.val v H')) (hw:fF E p = .write) (ht:Db p=some x) {b':Nat} (hb:iA (ev ρ x)≠some b') (aU:b'<H.length):H'[b']? = H[b']? := by
 cases p<;>first | (cases ht;done) | (cases hw;done) | skip
 case sub size y l hh mx=>cases mx<;>cases hw
 case store size q y =>
  cases ht
  simp only[pop] at h
  split at h
  ·rename_i b o he
   rw[he] at hb
   have eV:b'≠b:=fun e=>hb (by rw[e];rfl)
   split at h
   ·cases hw:H.write lo b o (aK (ev ρ y)) with
    | none=>rw[hw] at h;cases h
    | some H1=>rw[hw] at h;cases h;exact CI hw eV
   ·cases h
  ·cases h
 case app size bytes y z =>
  cases ht
  simp only[pop] at h
  split at h
  ·rename_i n _
   split at h
   ·rename_i new _
    cases ha:dX lo size bytes (ev ρ x) n new H with
    | none=>rw[ha] at h;cases h
    |
     some q =>
     obtain⟨u,H1⟩:=q
     rw[ha] at h;cases h;exact Hr ha hb aU
   ·cases h
  ·cases h
 case appz z bytes y n =>
  cases ht
  simp only[pop] at h
  split at h
  ·rename_i k _
   split at h
   ·cases ha:dX lo z.length bytes (ev ρ x) k.toNat (cR k.toNat z) H with
    | none=>rw[ha] at h;cases h
    |
     some q =>
     obtain⟨u,H1⟩:=q
     rw[ha] at h;cases h;exact Hr ha hb aU
   ·cases h
  ·cases h
 case copy size y z =>
  cases ht
  simp only[pop] at h
  split at h
  ·cases h;rfl
  ·rename_i b o d _ s he _
   rw[he] at hb
   have eV:b'≠b:=fun e=>hb (by rw[e];rfl)
   split at h
   ·rename_i new _
    cases hw:H.write lo b o new with
    | none=>rw[hw] at h;cases h
    | some H1=>rw[hw] at h;cases h;exact CI hw eV
   ·cases h
  ·cases h
 case clear z y =>
  cases ht
  simp only[pop] at h
  split at h
  ·cases h;rfl
  ·rename_i b o n _ he
   rw[he] at hb
   have eV:b'≠b:=fun e=>hb (by rw[e];rfl)
   split at h
   ·cases h;rfl
   ·cases hw:H.write lo b o (cR n z) with
    | none=>rw[hw] at h;cases h
    | some H1=>rw[hw] at h;cases h;exact CI hw eV
  ·cases h
theorem MC {H:aD} {b o n:Nat} {cs:List Value} (h:H.read b o n=some cs):b<H.length:=by
 unfold aD.read at h
 split at h
 ·rename_i hb;exact(List.getElem?_eq_some_iff.1 hb).1
 ·cases h
theorem DV {H H2:aD} {b o n:Nat} (h:H2[b]? = H[b]?):H2.read b o n=H.read b o n:=by
 unfold aD.read
 rw[h]
theorem Sg {agg:Bool} {size:Nat} {x v:Value} {H H2:aD} (h:lW agg size x H=some v) (hb:∀b,iA x=some b→b<H.length→H2[b]? = H[b]?):lW agg size x H2=some v:=by
 unfold lW at h ⊢
 split at h
 ·rename_i b o
  have aU:b<H.length:=by
   split at h
   ·cases hr:H.read b o size with
    | none=>rw[hr] at h;cases h
    | some cs=>exact MC hr
   ·cases hr:H.read b o 1 with
    | none=>rw[hr] at h;cases h
    | some cs=>exact MC hr
  have e:=hb b rfl aU
  simp only[DV e]
  exact h
 ·cases h
theorem NZ {E:zV} {lo:Nat} {p:lM} {ρ:Env} {H H' H2:aD} {v:Value} (h:pop lo p ρ H=some (.val v H')) (hc:fF E p = .look) (hb:∀x,Db p=some x→∀b,iA (ev ρ x)=some b→b<H.length→H2[b]? = H[b]?) :
  H'=H∧pop lo p ρ H2=some (.val v H2):=by
 cases p<;>first | (cases hc;done) | skip
 case call f args=>simp only[fF] at hc;split at hc<;>cases hc
 case load agg size q =>
  simp only[pop] at h ⊢
  cases hl:lW agg size (ev ρ q) H with
  | none=>rw[hl] at h;cases h
  |
   some u =>
   rw[hl] at h
   cases h
   refine⟨rfl,?_⟩
   rw[Sg hl (hb q rfl)]
   rfl
 case b2s x =>
  simp only[pop] at h ⊢
  split at h
  ·cases h;exact⟨rfl,rfl⟩
  ·rename_i b o n _ he
   split at h
   ·rename_i cs hr
    cases hbs:rY cs with
    | none=>rw[hbs] at h;cases h
    |
     some bs =>
     rw[hbs] at h
     cases h
     refine⟨rfl,?_⟩
     have e:=hb x rfl b (by rw[he];rfl) (MC hr)
     rw[DV e,hr]
     simp only[hbs]
     rfl
   ·cases h
  ·cases h
 case sub size x l hh mx =>
  cases mx with
  | some mx=>cases hc
  |
   none =>
   simp only[pop] at h ⊢
   cases hs:A5 size (ev ρ x) (l.map (ev ρ)) (hh.map (ev ρ)) ((none:Option Operand).map (ev ρ)) H with
   | none=>rw[hs] at h;cases h
   |
    some q =>
    obtain⟨u,H1⟩:=q
    rw[hs] at h
    cases h
    have oC:=hb x rfl
    generalize ev ρ x=xv at hs oC
    have key:H1=H∧A5 size xv (l.map (ev ρ)) (hh.map (ev ρ)) ((none:Option Operand).map (ev ρ)) H2=some (u,H2):=by
     unfold A5 at hs ⊢
     simp only[Option.map_none,Option.isSome_none,Bool.false_eq_true,false_and,if_false] at hs ⊢
     split at hs
     ·repeat' (split at hs)
      all_goals first | (cases hs;done) | skip
      cases hs
      simp_all
     ·rename_i b o n c
      split at hs
      ·rename_i cs e p mU
       have e1:=oC b rfl (List.getElem?_eq_some_iff.1 mU).1
       rw[e1,mU]
       simp only
       repeat' (split at hs)
       all_goals first | (cases hs;done) | skip
       cases hs
       simp_all
      ·cases hs
     ·cases hs
    rw[key.2]
    exact⟨key.1,rfl⟩
section
variable {P:Program} {E:zV} {n:Nat} {ops:Array Oper} {qY:List PI} {ps:List lM} {M:List Nat} {call:fO} {lo:Nat} {st:Nat→Env×aD}
theorem Text.YC (T:Text P E n ops qY ps M call lo st) {i:Nat}:∀ {j:Nat},i≤j→j≤ops.size→Ext lo (st i).2 (st j).2:=by
 intro j QW
 induction j with
 | zero =>
    intro _;have:i=0:=by omega
    subst this;exact Ext.refl _ _
 |
  succ j ih =>
  intro hj
  rcases Nat.lt_or_ge i (j+1) with h | h
  ·obtain⟨o,p,pi,_,_,_,_,_,v,hv,_⟩:=T.at (i:=j) (by omega)
   exact(ih (by omega) (by omega)).trans (J9 T.ext hv)
  ·have:i=j+1:=by omega
   subst this;exact Ext.refl _ _
theorem Text.Wm (T:Text P E n ops qY ps M call lo st) {i:Nat}:∀ {j:Nat},i≤j→j≤ops.size→∀b,b<(st i).2.length →
  (∀k,i≤k→k<j→∀p pi,ps[k]? = some p→qY[k]? = some pi→fF E p = .write→xH pi.g (st k).1=some true→∃x,Db p=some x∧iA (ev (st k).1 x)≠some b) →
  (st j).2[b]? = (st i).2[b]? := by
 intro j QW
 induction j with
 | zero =>
      intro _ b _ _;have:i=0:=by omega
      subst this;rfl
 |
  succ j ih =>
  intro hj b hb hk
  rcases Nat.lt_or_ge i (j+1) with h | h
  ·have aU:b<(st j).2.length:=Nat.lt_of_lt_of_le hb (T.len (by omega) (by omega))
   have h1:(st (j+1)).2[b]? = (st j).2[b]? := by
    obtain⟨o,p,pi,_,hp,U8,AI,_,v,hv,_⟩:=T.at (i:=j) (by omega)
    by_cases hw:fF E p = .write
    ·rcases rU hv with⟨_,_,h⟩ | ⟨hwt,_,h | ⟨f,args,h1,h2⟩⟩
     ·rw[h]
     ·rw[AI.op] at h
      obtain⟨x,hx,eV⟩:=hk j (by omega) (by omega) p pi hp U8 hw hwt
      exact ZQ h hw hx eV aU
     ·rw[AI.op] at h1
      obtain⟨x,hx,eV⟩:=hk j (by omega) (by omega) p pi hp U8 hw hwt
      rcases qH h1 with⟨g,as,rfl⟩ | ⟨g,as,rfl⟩<;>cases hx
    ·exact T.ajU (by omega) hp hw b aU
   rw[h1]
   exact ih (by omega) (by omega) b hb fun k hk1 ZE=>hk k hk1 (by omega)
  ·have:i=j+1:=by omega
   subst this;rfl
theorem Text.same (T:Text P E n ops qY ps M call lo st) {i j:Nat} (QW:i≤j) (hj:j≤ops.size) (hk:∀k,i≤k→k<j→∀p,ps[k]? = some p→fF E p ≠ .write):∀b,b<(st i).2.length→(st j).2[b]? = (st i).2[b]? :=
 fun b hb=>T.Wm QW hj b hb fun k h1 h2 p _ hp _ hw _=>absurd hw (hk k h1 h2 p hp)
theorem Text.Nw (T:Text P E n ops qY ps M call lo st) {i t:Nat}:∀ {j:Nat},i≤j→j≤ops.size→(∀k o,i≤k→k<j→ops[k]? = some o→o.dst≠some t)→(st j).1 t=(st i).1 t:=by
 intro j QW
 induction j with
 | zero =>
      intro _ _;have:i=0:=by omega
      subst this;rfl
 |
  succ j ih =>
  intro hj hk
  rcases Nat.lt_or_ge i (j+1) with h | h
  ·obtain⟨o,p,pi,ho,hp,U8,AI,_,v,hv,he⟩:=T.at (i:=j) (by omega)
   rw[he]
   have eV:=hk j o (by omega) (by omega) ho
   have h1:put (st j).1 o.dst v t=(st j).1 t:=by
    cases hd:o.dst with
    | none=>rfl
    |
     some d =>
     rw[hd] at eV
     show (if t=d then v else _)=_
     rw[if_neg (fun e=>eV (by rw[e]))]
   rw[h1]
   exact ih (by omega) (by omega) fun k o hk1 ZE=>hk k o hk1 (by omega)
  ·have:i=j+1:=by omega
   subst this;rfl
end
end Go.PM
namespace Go.PM
theorem uP {M:List Nat} {i j:Nat} (h:i<j):ahead M i j=(M.getD j 0).testBit i:=by
 unfold ahead
 have e1:Nat.max i j=j:=Nat.max_eq_right (by omega)
 have e2:Nat.min i j=i:=Nat.min_eq_left (by omega)
 rw[e1,e2]
theorem XX {M:List Nat} {i j:Nat} (h:j<i):ahead M i j=(M.getD i 0).testBit j:=by
 unfold ahead
 have e1:Nat.max i j=i:=Nat.max_eq_left (by omega)
 have e2:Nat.min i j=j:=Nat.min_eq_right (by omega)
 rw[e1,e2]
theorem PE {a:Act} {d t:Nat} {v:Value} (hd:d<a.tmps.size):(a.put (some d) v).tmps.getD t undef=if t=d then v else a.tmps.getD t undef:=by
 show (a.tmps.setIfInBounds d v).getD t undef=_
 rcases Nat.lt_or_ge t a.tmps.size with h | h
 ·by_cases e:t=d
  ·subst e;simp[h]
  ·simp[h,e,Ne.symm e]
 ·have:t≠d:=by omega
  simp[h,this]
theorem Fg (a:Act) (d:Option Nat) (v:Value):(a.put d v).tmps.size=a.tmps.size:=by
 cases d<;>simp[Act.put]
theorem EZ (a:Act) (d:Option Nat) (v:Value):(a.put d v).defers=a.defers:=by
 cases d<;>rfl
section
variable {P:Program} {E:zV} {n:Nat} {ops:Array Oper} {qY:List PI} {ps:List lM} {M:List Nat} {call:fO} {lo L0:Nat} {st:Nat→Env×aD}
structure qO (E:zV) (n:Nat) (ops:Array Oper) (ps:List lM) (lo L0:Nat) (st:Nat→Env×aD) (m0:dC) (w0:World) (ds:List Deferred) (S:Nat→Prop) (m:dC) (c:Nat) (a:Act) (w:World):Prop where
 Er:a.tmps.size=n
 defs:a.defers=ds
 back:∀i o,ops.toList[i]? = some o→S i→∀e∈o.after.toList,Region.binds .any e=true→S e.on
 tm:∀t j,j≤ops.size→(∀i o,ops.toList[i]? = some o→o.dst=some t→(S i↔i<j))→RV m ((st j).1 t) (a.tmps.getD t undef)
 Mg:c≤ops.size
 before:∀i p,i<c→ps[i]? = some p→fF E p = .write→S i
 atc:c<ops.size→¬S c∧∃p,ps[c]? = some p∧fF E p = .write
 rel:Rel m L0 (st c).2 w
 tr:Trans lo m0 (st 0).2 w0 m (st c).2 w
 Wa:∀b l,m b=some l→m0 b≠none∨∃i,S i∧i<ops.size∧(st i).2.length≤b∧b<(st (i+1)).2.length
theorem Text.anc (T:Text P E n ops qY ps M call lo st) {S:Nat→Prop} (hS:∀i o,ops.toList[i]? = some o→S i→∀e∈o.after.toList,Region.binds .any e=true→S e.on) {k:Nat} {o:Oper} (ho:ops.toList[k]? = some o)
  (hk:∀e∈o.after.toList,Region.binds .any e=true→S e.on) {i:Nat} (hi:(M.getD k 0).testBit i=true):S i :=
 Q3 (fun i o hio=>by
   obtain⟨p,pi,_,_,_,hd,_⟩:=T.ok.each i o hio
   exact(hd rfl).back) (fun i o hio=>by
   obtain⟨p,pi,_,_,_,hd,_⟩:=T.ok.each i o hio
   exact(hd rfl).mask) hS k o ho hk i hi
theorem Text.TL (T:Text P E n ops qY ps M call lo st) {i:Nat} {p:lM} (hi:i<ops.size) (hp:ps[i]? = some p) (h:fF E p = .pure∨fF E p = .look):(st (i+1)).2=(st i).2:=by
 obtain⟨o,p',pi,_,Bs,_,AI,Ub,v,hv,_⟩:=T.at hi
 rw[hp] at Bs
 cases Bs
 rcases rU hv with⟨_,_,h'⟩ | ⟨_,_,h' | ⟨f,args,h1,h2⟩⟩
 ·exact h'
 ·rw[AI.op] at h'
  rcases h with h | h
  ·have:rR p=true:=by
    cases p<;>first | rfl | (cases h;done) | skip
    case sub s x l hh mx=>cases mx<;>cases h
    case call f as=>simp only[fF] at h;split at h<;>cases h
   rw[vR this] at h'
   exact(Bo h').2
  ·exact(NZ h' h (fun _ _ _ _ _=>rfl)).1
 ·exfalso
  rw[AI.op] at h1
  rcases qH h1 with⟨g,as,rfl⟩ | ⟨g,as,rfl⟩
  ·simp only[fF] at h
   split at h<;>rcases h with h | h<;>cases h
  ·rcases h with h | h<;>cases h
theorem Vl {op:Op} {p:lM} {x:Operand} (h:nY P op=some p) (ht:Db p=some x):x∈op.operands:=by
 unfold nY at h
 split at h
 case isFalse=>cases h
 cases op with
 |
  load t q =>
  dsimp only at h
  cases hi:kM P t with
  | none=>rw[hi] at h;cases h
  | some u=>rw[hi] at h;cases h;cases ht;simp[Op.operands]
 |
  store t q v =>
  dsimp only at h
  cases hi:P.info? t with
  | none=>rw[hi] at h;cases h
  | some u=>rw[hi] at h;cases h;cases ht;simp[Op.operands]
 |
  slice t y l hh mx =>
  dsimp only at h
  split at h
  ·split at h
   ·cases h;cases ht
   ·cases h
  ·rename_i e _
   cases hi:kM P e with
   | none=>rw[hi] at h;cases h
   | some u=>rw[hi] at h;cases h;cases ht;simp[Op.operands]
  ·cases h
 |
  convert s d y =>
  dsimp only at h
  repeat' (split at h)
  all_goals first
   | (cases h;done)
   | (cases h;cases ht;done)
   | (cases h;cases ht;simp[Op.operands])
 |
  call c =>
  obtain⟨callee,args,ts⟩:=c
  cases callee with
  |
   builtin b =>
   simp only[mV] at h
   repeat' (split at h)
   all_goals first
    | (cases h;done)
    | (cases h;cases ht;done)
    | skip
   all_goals
    cases h
    cases ht
    have hm:x∈args.toList:=by simp_all
    simpa[Op.operands,Call.operands] using hm
  |
   value f =>
   cases f with
   | tmp g'=>cases h;cases ht
   | func g'=>cases h;cases ht
   | _=>cases h
  | invoke r s=>cases h
 |
  _ =>
  exfalso
  dsimp only at h
  try unfold Ab at h
  repeat' (split at h)
  all_goals first
   | contradiction
   | (cases h;done)
   | (cases h;cases ht;done)
   | exact map_none h (by intro y h;cases h;cases ht)
end
end Go.PM
namespace Go.PM
theorem DO (p:Nat→Prop):∀(d c N:Nat),N-c=d→c≤N→∃c',c≤c'∧c'≤N∧(∀i,c≤i→i<c'→¬p i)∧(c'<N→p c')
 | 0,c,N,hd,hc=>⟨c,Nat.le_refl _,hc,fun i h1 h2=>by omega,fun h=>by omega⟩
 |
  d+1,c,N,hd,hc=>by
  by_cases hp:p c
  ·exact⟨c,Nat.le_refl _,hc,fun i h1 h2=>by omega,fun _=>hp⟩
  ·obtain⟨c',h1,h2,h3,h4⟩:=DO p d (c+1) N (by omega) (by omega)
   refine⟨c',by omega,h2,fun i hi1 Kh => ?_,h4⟩
   rcases Nat.lt_or_ge c i with h | h
   ·exact h3 i h Kh
   ·have:i=c:=by omega
    subst this;exact hp
theorem XL {m:dC} {v r:Value} {b:Nat} (h:RV m v r) (hb:iA v=some b):∃l,m b=some l:=by
 cases h<;>first | (cases hb;done) | (cases hb;exact⟨_,by assumption⟩)
section
variable {P:Program} {E:zV} {n:Nat} {ops:Array Oper} {qY:List PI} {ps:List lM} {M:List Nat} {call:fO} {lo L0:Nat} {st:Nat→Env×aD}
 {m0:dC} {w0:World} {ds:List Deferred} {S:Nat→Prop} {m:dC} {c:Nat} {a:Act} {w:World} {k:Nat} {o:Oper} {p:lM} {pi:PI}
structure At (P:Program) (E:zV) (n:Nat) (ops:Array Oper) (qY:List PI) (ps:List lM) (M:List Nat) (S:Nat→Prop) (k:Nat) (o:Oper) (p:lM) (pi:PI):Prop where
 lt:k<ops.size
 eo:ops[k]? = some o
 ep:ps[k]? = some p
 epi:qY[k]? = some pi
 ok:WU P E n ops.toList k o p pi
 dr:NA E ops.toList ps M k o p pi
 aqM:¬S k
 anc:∀i,(M.getD k 0).testBit i=true→S i
 desc:∀i,i<ops.size→S i→(M.getD i 0).testBit k=true→False
theorem At.ah (A:At P E n ops qY ps M S k o p pi) {i:Nat} (hi:i<ops.size) (h:i=k∨ahead M k i=true):S i↔i<k:=by
 rcases Nat.lt_trichotomy i k with h1 | h1 | h1
 ·refine⟨fun _=>h1,fun _ => ?_⟩
  rcases h with h | h
  ·omega
  ·rw[XX h1] at h;exact A.anc i h
 ·subst h1
  exact⟨fun h=>absurd h A.aqM,fun h=>by omega⟩
 ·refine⟨fun hs => ?_,fun h=>by omega⟩
  rcases h with h | h
  ·omega
  ·rw[uP h1] at h;exact absurd h (fun h=>A.desc i hi hs h)
theorem DK {i:Nat} {oi:Oper} (h:ops.toList[i]? = some oi):i<ops.size:=by
 have:=(List.getElem?_eq_some_iff.1 h).1
 simpa using this
theorem At.reads (A:At P E n ops qY ps M S k o p pi) (I:qO E n ops ps lo L0 st m0 w0 ds S m c a w):∀t∈tY ops.toList o,RV m ((st k).1 t) (a.tmps.getD t undef):=by
 intro t ht
 refine I.tm t k (Nat.le_of_lt A.lt) fun i oi hi hd => ?_
 exact A.ah (DK hi) (A.dr.Lu t (List.mem_append_right _ ht) i oi hi hd)
theorem At.operand (A:At P E n ops qY ps M S k o p pi) (I:qO E n ops ps lo L0 st m0 w0 ds S m c a w) {x:Operand} (hx:x∈o.op.operands):RV m (ev (st k).1 x) (a.eval x) :=
 R2 (Jr A.ok.UF x hx) fun t ht=>A.reads I t (CX (ht▸hx))
theorem At.pair (T:Text P E n ops qY ps M call lo st) {i j:Nat} {p q:lM} (QW:i<j) (hj:j<ops.size) (hp:ps[i]? = some p) (hq:ps[j]? = some q):∃qi,qY[j]? = some qi∧CM E ops.toList M i j p q qi.cf:=by
 obtain⟨o,q',qi,_,KF,Oh,_,hd,_⟩:=T.at hj
 rw[hq] at KF
 cases KF
 exact⟨qi,Oh,hd.akB i QW p hp⟩
theorem qO.late (T:Text P E n ops qY ps M call lo st) (I:qO E n ops ps lo L0 st m0 w0 ds S m c a w) {i:Nat} {q:lM} (hi:c<i) (hn:i<ops.size) (hS:S i) (hq:ps[i]? = some q):fF E q = .pure∨fF E q = .look:=by
 obtain⟨hcS,pc,hpc,NG⟩:=I.atc (by omega)
 obtain⟨qi,_,iJ⟩:=At.pair T hi hn hpc hq
 unfold CM at iJ
 rw[NG] at iJ
 obtain⟨oi,_,_,hoi,_⟩:=T.at hn
 have Pp:ops.toList[i]? = some oi:=by simpa using hoi
 have fin:ahead M c i=true→False:=fun h=>by
  rw[uP hi] at h
  exact hcS (T.anc I.back Pp (I.back i oi Pp hS) h)
 cases lO:fF E q with
 | pure=>exact .inl rfl
 | look=>exact .inr rfl
 | quiet=>rw[lO] at iJ;exact absurd iJ fin
 | write=>rw[lO] at iJ;exact absurd iJ fin
theorem qO.Lu (T:Text P E n ops qY ps M call lo st) (I:qO E n ops ps lo L0 st m0 w0 ds S m c a w) (A:At P E n ops qY ps M S k o p pi) {m':dC} {v rv:Value} (hm:∀b l,m b=some l→m' b=some l) (hv:RV m' v rv)
  (he:(st (k+1)).1=put (st k).1 o.dst v):∀t j,j≤ops.size→(∀i o,ops.toList[i]? = some o→o.dst=some t→((i=k∨S i)↔i<j))→RV m' ((st j).1 t) ((a.put o.dst rv).tmps.getD t undef):=by
 intro t j hj hw
 have AI:ops.toList[k]? = some o:=by simpa using A.eo
 cases hd:o.dst with
 |
  none =>
  show RV m' _ (a.tmps.getD t undef)
  refine(I.tm t j hj fun i oi hi YX => ?_).mono hm
  have eV:i≠k:=fun e=>by subst e;rw[AI] at hi;cases hi;rw[hd] at YX;cases YX
  rw[←hw i oi hi YX]
  simp[eV]
 |
  some d =>
  rw[PE (by rw[I.Er];exact A.ok.bound d hd)]
  by_cases htd:t=d
  ·subst htd
   rw[if_pos rfl]
   have hkj:k<j:=(hw k o AI hd).1 (.inl rfl)
   have e1:(st j).1 t=(st (k+1)).1 t:=by
    refine T.Nw hkj hj fun i oi hi1 Kh hoi YX => ?_
    have Pp:ops.toList[i]? = some oi:=by simpa using hoi
    have hS:=(hw i oi Pp YX).2 Kh
    have hik:i≠k:=by omega
    have:=(A.ah (DK Pp) (A.dr.Lu t (List.mem_append_left _ (by rw[hd];simp)) i oi Pp YX)).1 (hS.resolve_left hik)
    omega
   rw[e1,he,hd]
   show RV m' (if t=t then v else _) rv
   rw[if_pos rfl]
   exact hv
  ·rw[if_neg htd]
   refine(I.tm t j hj fun i oi hi YX => ?_).mono hm
   have eV:i≠k:=fun e=>by subst e;rw[AI] at hi;cases hi;rw[hd] at YX;cases YX;exact htd rfl
   rw[←hw i oi hi YX]
   simp[eV]
theorem qO.XU (I:qO E n ops ps lo L0 st m0 w0 ds S m c a w) (A:At P E n ops qY ps M S k o p pi) (hr:∀e∈o.after.toList,Region.binds .any e=true→S e.on) :
  ∀i oi,ops.toList[i]? = some oi→(i=k∨S i)→∀e∈oi.after.toList,Region.binds .any e=true→(e.on=k∨S e.on):=by
 intro i oi hi hS e he hb
 rcases hS with rfl | hS
 ·have:ops.toList[i]? = some o:=by simpa using A.eo
  rw[this] at hi
  cases hi
  exact .inr (hr e he hb)
 ·exact .inr (I.back i oi hi hS e he hb)
theorem En (T:Text P E n ops qY ps M call lo st) {i j:Nat} {x:Operand} (QW:i≤j) (hj:j≤ops.size) (h:Cw ops.toList i j x=true):ev (st j).1 x=ev (st i).1 x:=by
 cases x with
 |
  tmp t =>
  refine T.Nw QW hj fun q oq h1 h2 hoq hd => ?_
  have nF:=List.all_eq_true.1 h oq (by
   have aqR:ops.toList[q]? = some oq:=by simpa using hoq
   rw[List.mem_iff_getElem?]
   refine⟨q-i,?_⟩
   rw[List.getElem?_drop,List.getElem?_take,show i+(q-i)=q by omega,if_pos h2,aqR])
  simp[hd] at nF
 | const v=>rfl
 | global g=>rfl
 | func f=>rfl
theorem qO.look (T:Text P E n ops qY ps M call lo st) (I:qO E n ops ps lo L0 st m0 w0 ds S m c a w) (A:At P E n ops qY ps M S k o p pi) (Av:∀b,(st 0).2.length≤b→b<(st ops.size).2.length→m0 b=none)
  (lO:fF E p = .pure∨fF E p = .look) {v:Value} (hv:wV call lo pi (st k).1 (st k).2=some (v,(st (k+1)).2)):wV call lo pi (st k).1 (st c).2=some (v,(st c).2):=by
 rcases rU hv with⟨hw,rfl,_⟩ | ⟨hw,NO,hp | ⟨f,args,hp,_⟩⟩
 ·unfold wV
  rw[hw]
 ·unfold wV
  rw[hw]
  simp only[NO,if_true]
  have key:pop lo pi.op (st k).1 (st c).2=some (.val v (st c).2):=by
   rw[A.ok.op] at hp ⊢
   rcases lO with lO | lO
   ·have hlp:rR p=true:=by
     cases p<;>first | rfl | (cases lO;done) | skip
     case sub s x l hh mx=>cases mx<;>cases lO
     case call f as=>simp only[fF] at lO;split at lO<;>cases lO
    rw[vR hlp] at hp ⊢
    rw[(Bo hp).1]
    rfl
   ·refine(NZ hp lO fun x hx b hb aU => ?_).2
    rcases Nat.lt_or_ge c k with hck | hck
    ·obtain⟨hcS,pc,hpc,NG⟩:=I.atc (Nat.lt_trans hck A.lt)
     have Iz:b<(st c).2.length:=by
      rcases Nat.lt_or_ge b (st c).2.length with h | h
      ·exact h
      ·exfalso
       obtain⟨l,hl⟩:=XL (A.operand I (Vl A.ok.UF hx)) hb
       have h0:=T.len (i:=0) (j:=c) (Nat.zero_le _) I.Mg
       have h1:=T.len (i:=k) (j:=ops.size) (Nat.le_of_lt A.lt) (Nat.le_refl _)
       rcases I.Wa b l hl with h2 | ⟨i,hiS,dD,hi1,Kh⟩
       ·exact h2 (Av b (by omega) (by omega))
       ·rcases Nat.lt_trichotomy i c with h3 | h3 | h3
        ·have:=T.len (i:=i+1) (j:=c) h3 I.Mg
         omega
        ·subst h3;exact hcS hiS
        ·obtain⟨oi,qi,pii,_,Oh,_⟩:=T.at dD
         have:=I.late T h3 dD hiS Oh
         rw[T.TL dD Oh this] at Kh
         omega
     refine(T.Wm (Nat.le_of_lt hck) (Nat.le_of_lt A.lt) b Iz fun j hj1 Zq q qi hq Oh hqw adL => ?_).symm
     obtain⟨pi',ajI,iJ⟩:=At.pair T Zq A.lt hq A.ep
     rw[A.epi] at ajI
     cases ajI
     unfold CM at iJ
     rw[hqw,lO] at iJ
     rcases iJ with h | ⟨xa,xb,ha,oC,hun,Iu⟩
     ·exfalso
      rw[uP Zq] at h
      have hjS:=A.anc j h
      rcases Nat.lt_or_ge c j with h3 | h3
      ·rcases I.late T h3 (Nat.lt_trans Zq A.lt) hjS hq with h4 | h4<;>(rw[hqw] at h4;cases h4)
      ·have:j=c:=by omega
       subst this;exact hcS hjS
     ·rw[hx] at oC
      cases oC
      refine⟨xa,ha,fun e => ?_⟩
      have hk:=List.all_eq_true.1 NO _ Iu
      unfold yM at hk
      rw[En T (Nat.le_of_lt Zq) (Nat.le_of_lt A.lt) hun,e,hb] at hk
      simp at hk
    ·refine T.Wm hck I.Mg b aU fun j hj1 Zq q qi hq Oh hqw adL => ?_
     have hjk:k<j:=by
      rcases Nat.lt_or_ge k j with h | h
      ·exact h
      ·have:j=k:=by omega
       subst this
       rw[A.ep] at hq
       cases hq
       rw[hqw] at lO
       cases lO
     have hjn:j<ops.size:=Nat.lt_of_lt_of_le Zq I.Mg
     obtain⟨oj,q',qi',hoj,KF,WD,azV,_,vj,hvj,_⟩:=T.at hjn
     rw[hq] at KF
     cases KF
     rw[Oh] at WD
     cases WD
     obtain⟨qi',WD,iJ⟩:=At.pair T hjk hjn A.ep hq
     rw[Oh] at WD
     cases WD
     unfold CM at iJ
     rw[hqw,lO] at iJ
     rcases iJ with h | ⟨xa,xb,ha,oC,hun,Iu⟩
     ·exfalso
      rw[uP hjk] at h
      exact A.desc j hjn (I.before j q Zq hq hqw) h
     ·rw[hx] at ha
      cases ha
      refine⟨xb,oC,fun e => ?_⟩
      have asR:qi.cf.all (yM (st j).1)=true:=by
       rcases rU hvj with⟨h,_⟩ | ⟨_,h,_⟩
       ·rw[adL] at h;cases h
       ·exact h
      have hk:=List.all_eq_true.1 asR _ Iu
      unfold yM at hk
      rw[En T (Nat.le_of_lt hjk) (Nat.le_of_lt hjn) hun,e,hb] at hk
      simp at hk
  rw[key]
 ·exfalso
  rw[A.ok.op] at hp
  rcases qH hp with⟨g,as,rfl⟩ | ⟨g,as,rfl⟩
  ·simp only[fF] at lO
   split at lO<;>rcases lO with h | h<;>cases h
  ·rcases lO with h | h<;>cases h
end
end Go.PM
namespace Go.PM
section
variable {P:Program} {E:zV} {n:Nat} {ops:Array Oper} {qY:List PI} {ps:List lM} {M:List Nat} {call:fO} {lo L0:Nat} {st:Nat→Env×aD}
 {m0:dC} {w0:World} {ds:List Deferred}
theorem Fo {H:aD} {b:Nat} (h:H.length≤b):¬Live H b:=fun hl=>by have:=hl.lt;omega
theorem YJ {S:Nat→Prop} {m:dC} {c:Nat} {a:Act} {w:World} {k:Nat} {o:Oper} (T:Text P E n ops qY ps M call lo st) (mA:uE P L0 call) (eI:L0≤lo) (wR:L0≤(st 0).2.length)
  (Av:∀b,(st 0).2.length≤b→b<(st ops.size).2.length→m0 b=none) (I:qO E n ops ps lo L0 st m0 w0 ds S m c a w) (ho:ops[k]? = some o) (hkS:¬S k)
  (hr:∀e∈o.after.toList,Region.binds .any e=true→S e.on) {K:Act→World→Prop} {Q:Exit→Act→World→Prop}
  (hK:∀m' c' a' w',qO E n ops ps lo L0 st m0 w0 ds (fun i=>i=k∨S i) m' c' a' w'→K a' w'):wpOp P ops Q k K a w:=by
 have aU:k<ops.size:=(Array.getElem?_eq_some_iff.1 ho).1
 obtain⟨o',p,pi,ho',hp,U8,AI,Ub,v,hv,he⟩:=T.at aU
 rw[ho] at ho'
 cases ho'
 have ho2:ops.toList[k]? = some o:=by simpa using ho
 have A:At P E n ops qY ps M S k o p pi:=⟨aU,ho,hp,U8,AI,Ub,hkS,fun i hi=>T.anc I.back ho2 hr hi,fun i hi hS hb=>by
  have hio:ops.toList[i]? = some ops[i]:=by simp[hi]
  exact hkS (T.anc I.back hio (I.back i _ hio hS) hb)⟩
 have Ra:=A.reads I
 have adJ:=T.len (i:=0) (j:=c) (Nat.zero_le _) I.Mg
 have ajX:=T.len (i:=c) (j:=ops.size) I.Mg (Nat.le_refl _)
 have amK:=T.len (i:=0) (j:=k) (Nat.zero_le _) (Nat.le_of_lt aU)
 have apL:=T.len (i:=k+1) (j:=ops.size) aU (Nat.le_refl _)
 have aqJ:=T.amP aU
 have hfk:∀b,(st k).2.length≤b→b<(st (k+1)).2.length→m b=none:=by
  intro b h1 h2
  cases hm:m b with
  | none=>rfl
  |
   some l =>
   exfalso
   rcases I.Wa b l hm with h3 | ⟨i,hiS,dD,hi1,Kh⟩
   ·exact h3 (Av b (by omega) (by omega))
   ·rcases Nat.lt_trichotomy i k with h3 | h3 | h3
    ·have:=T.len (i:=i+1) (j:=k) h3 (Nat.le_of_lt aU)
     omega
    ·subst h3;exact hkS hiS
    ·have:=T.len (i:=k+1) (j:=i) h3 (Nat.le_of_lt dD)
     omega
 have Ov:(fF E p = .pure∨fF E p = .look)→wpOp P ops Q k K a w:=by
  intro lO
  have hq:pi.quiet=false:=by
   rw[Ub.quiet]
   rcases lO with h | h<;>rw[h]
  have hw:fF E p ≠ .write:=by rcases lO with h | h<;>(rw[h];exact fun h=>by cases h)
  refine MT ho AI (fun h=>by rw[hq] at h;cases h) (I.look T A Av lO hv) Ra I.rel eI (Nat.le_trans wR adJ) (fun b h1 h2=>by omega) mA fun m' rv w' QK hR hT => ?_
  rw[hq] at hT
  simp only[Bool.false_eq_true,if_false] at hT
  have hmm:m'=m:=by
   funext b
   cases hm:m b with
   | some l=>exact hT.ext b l hm
   |
    none =>
    cases hm':m' b with
    | none=>rfl
    | some l=>have:=(hT.new b l hm' hm).1;omega
  subst hmm
  refine hK m' c _ w' ⟨by rw[Fg];exact I.Er,by rw[EZ];exact I.defs,I.XU A hr,I.Lu T A (fun _ _ h=>h) QK he,I.Mg,fun i q h1 h2 h3 => .inr (I.before i q h1 h2 h3),?_,hR,?_,?_⟩
  ·intro h
   obtain⟨h1,q,h2,h3⟩:=I.atc h
   refine⟨fun hS=>hS.elim (fun e => ?_) h1,q,h2,h3⟩
   subst e
   rw[hp] at h2
   cases h2
   exact hw h3
  ·exact Trans.trans (fun b h1 h2=>Av b h1 (by omega)) (T.YC (Nat.zero_le _) I.Mg) (Ext.refl _ _) I.tr hT
  ·intro b l hb
   exact(I.Wa b l hb).imp id fun⟨i,h1,h2⟩=>⟨i,.inr h1,h2⟩
 cases lO:fF E p with
 |
  write =>
  have hkc:k=c:=by
   rcases Nat.lt_trichotomy k c with h | h | h
   ·exact absurd (I.before k p h hp lO) hkS
   ·exact h
   ·exfalso
    obtain⟨hcS,pc,hpc,NG⟩:=I.atc (by omega)
    obtain⟨qi,_,iJ⟩:=At.pair T h aU hpc hp
    unfold CM at iJ
    rw[NG,lO] at iJ
    simp only at iJ
    rw[uP h] at iJ
    exact hcS (A.anc c iJ)
  subst hkc
  refine MT ho AI (fun hq=>by rw[Ub.quiet,lO] at hq;cases hq) hv Ra I.rel eI (Nat.le_trans wR adJ) hfk mA fun m' rv w' QK hR hT => ?_
  have hq:pi.quiet=false:=by rw[Ub.quiet,lO]
  rw[hq] at hT
  simp only[Bool.false_eq_true,if_false] at hT
  obtain⟨c',Uu,Qv,Zx,hc4⟩:=DO (fun i=>∃q,ps[i]? = some q∧fF E q = .write) _ (k+1) ops.size rfl aU
  have SZ:∀b,b<(st (k+1)).2.length→(st c').2[b]? = (st (k+1)).2[b]? := T.same Uu Qv fun i h1 h2 q hq hw=>Zx i h1 h2 ⟨q,hq,hw⟩
  have aqY:=T.len Uu Qv
  have alL:=T.len (i:=c') (j:=ops.size) Qv (Nat.le_refl _)
  have amG:∀b l,m' b=some l→m0 b≠none∨∃i,(i=k∨S i)∧i<ops.size∧(st i).2.length≤b∧b<(st (i+1)).2.length:=by
   intro b l hb
   cases hm:m b with
   | some l'=>exact(I.Wa b l' hm).imp id fun⟨i,h1,h2⟩=>⟨i,.inr h1,h2⟩
   | none=>exact .inr ⟨k,.inl rfl,aU,(hT.new b l hb hm).1⟩
  have afO:∀b,(st (k+1)).2.length≤b→b<(st c').2.length→m' b=none:=by
   intro b h1 h2
   cases hm:m' b with
   | none=>rfl
   |
    some l =>
    exfalso
    rcases amG b l hm with h3 | ⟨i,hiS,dD,hi1,Kh⟩
    ·exact h3 (Av b (by omega) (by omega))
    ·rcases Nat.lt_trichotomy i k with h3 | h3 | h3
     ·have:=T.len (i:=i+1) (j:=k) h3 (Nat.le_of_lt aU)
      omega
     ·subst h3;omega
     ·obtain⟨oi,qi,pii,_,Oh,_⟩:=T.at dD
      have:=I.late T h3 dD (hiS.resolve_left (by omega)) Oh
      rw[T.TL dD Oh this] at Kh
      omega
  have hTT:Trans lo m0 (st 0).2 w0 m' (st (k+1)).2 w':=Trans.trans (fun b h1 h2=>Av b h1 (by omega)) (T.YC (Nat.zero_le _) (Nat.le_of_lt aU)) (T.YC (Nat.le_succ _) aU) I.tr hT
  refine hK m' c' _ w' ⟨by rw[Fg];exact I.Er,by rw[EZ];exact I.defs,I.XU A hr,I.Lu T A hT.ext QK he,Qv,?_,?_,hR.grow SZ afO,?_,amG⟩
  ·intro i q hi hq hw
   rcases Nat.lt_trichotomy i k with h | h | h
   ·exact .inr (I.before i q h hq hw)
   ·exact .inl h
   ·exact absurd ⟨q,hq,hw⟩ (Zx i h hi)
  ·intro h
   obtain⟨q,hq,hw⟩:=hc4 h
   refine⟨fun hS => ?_,q,hq,hw⟩
   rcases hS with hS | hS
   ·omega
   ·rcases I.late T (by omega) h hS hq with h4 | h4<;>(rw[hw] at h4;cases h4)
  ·refine⟨hTT.ext,fun b l hb hn => ?_,hTT.size,hTT.bO,hTT.same⟩
   obtain⟨⟨h1,h2⟩,h3⟩:=hTT.new b l hb hn
   refine⟨⟨h1,by omega⟩,?_⟩
   rcases h3 with h3 | h3 | h3
   ·exact .inl h3
   ·exact .inr (.inl fun hl=>h3 ((gY (SZ b h2)).1 hl))
   ·exact .inr (.inr h3)
 |
  quiet =>
  have hkc:k<c:=by
   rcases Nat.lt_or_ge k c with h | h
   ·exact h
   ·exfalso
    rcases Nat.lt_or_ge c k with h' | h'
    ·obtain⟨hcS,pc,hpc,NG⟩:=I.atc (by omega)
     obtain⟨qi,_,iJ⟩:=At.pair T h' aU hpc hp
     unfold CM at iJ
     rw[NG,lO] at iJ
     simp only at iJ
     rw[uP h'] at iJ
     exact hcS (A.anc c iJ)
    ·have:k=c:=by omega
     subst this
     obtain⟨_,pc,hpc,NG⟩:=I.atc aU
     rw[hp] at hpc
     cases hpc
     rw[lO] at NG
     cases NG
  have Ul:∀i,k<i→i<c→∀q,ps[i]? = some q→fF E q ≠ .write:=by
   intro i h1 h2 q hq hw
   have dD:i<ops.size:=Nat.lt_of_lt_of_le h2 I.Mg
   obtain⟨qi,_,iJ⟩:=At.pair T h1 dD hp hq
   unfold CM at iJ
   rw[lO,hw] at iJ
   simp only at iJ
   rw[uP h1] at iJ
   exact A.desc i dD (I.before i q h2 hq hw) iJ
  have Ky:∀b,b<(st (k+1)).2.length→(st c).2[b]? = (st (k+1)).2[b]? := T.same hkc I.Mg fun i h1 h2 q hq=>Ul i h1 h2 q hq
  have Zl:∀b,b<(st k).2.length→(st c).2[b]? = (st k).2[b]? := T.same (Nat.le_of_lt hkc) I.Mg fun i h1 h2 q hq=>by
   rcases Nat.lt_or_ge k i with h | h
   ·exact Ul i h h2 q hq
   ·have:i=k:=by omega
    subst this
    rw[hp] at hq
    cases hq
    rw[lO]
    exact fun h=>by cases h
  have auV:=T.len (i:=k+1) (j:=c) hkc I.Mg
  refine MT ho AI (fun _=>lO) hv Ra (I.rel.restrict Zl) eI (Nat.le_trans wR amK) hfk mA fun m' rv w' QK hR hT => ?_
  have hq:pi.quiet=true:=by rw[Ub.quiet,lO]
  rw[hq] at hT
  simp only[if_true] at hT
  have wW:∀rb,rb<w.heap.size→w'.heap[rb]? = w.heap[rb]? := fun rb BV=>hT.bO rb BV fun b l hb _ hl=>absurd hl (Fo hb)
  have qN:∀b l,m' b=some l→m b=none→((st k).2.length≤b∧b<(st (k+1)).2.length)∧(w.heap.size≤l.rb∨¬Live (st (k+1)).2 b):=by
   intro b l h1 h2
   obtain⟨h3,h4⟩:=hT.new b l h1 h2
   refine⟨h3,?_⟩
   rcases h4 with h4 | h4 | ⟨b0,l0,g1,_,g3,_⟩
   ·exact .inl h4
   ·exact .inr h4
   ·exact absurd g3 (Fo g1)
  have amE:∀b l,m b=some l→l.rb<w.heap.size:=by
   intro b l hb
   obtain⟨arr,e,fz,h1,_⟩:=I.rel.valid b l hb
   exact(Array.getElem?_eq_some_iff.1 h1).1
  have Tr:∀rb j,rb<w.heap.size→w'.cell? ⟨rb,j,none⟩=w.cell? ⟨rb,j,none⟩:=by
   intro rb j BV
   unfold World.cell?
   simp only[wW rb BV]
  have Ah:∀b l,m' b=some l→(st (k+1)).2.length≤b→m b=some l:=by
   intro b l hb h
   cases hm:m b with
   | some l'=>have:=hT.ext b l' hm;rw[hb] at this;exact this.symm
   | none=>have:=(qN b l hb hm).1.2;omega
  refine hK m' c _ w' ⟨by rw[Fg];exact I.Er,by rw[EZ];exact I.defs,I.XU A hr,I.Lu T A hT.ext QK he,I.Mg,fun i q h1 h2 h3 => .inr (I.before i q h1 h2 h3),?_,⟨hR.valid,?_,?_,?_⟩,?_,?_⟩
  ·intro h
   obtain⟨h1,q,h2,h3⟩:=I.atc h
   exact⟨fun hS=>hS.elim (fun e=>by omega) h1,q,h2,h3⟩
  ·intro b l cs e pp hm hb
   rcases Nat.lt_or_ge b (st (k+1)).2.length with h | h
   ·exact hR.row b l cs e pp hm (by rw[←Ky b h];exact hb)
   ·have hmo:=Ah b l hm h
    obtain⟨h1,h2,h3,h4⟩:=I.rel.row b l cs e pp hmo hb
    refine⟨h1,h2,h3,fun i hi => ?_⟩
    obtain⟨rv',g1,g2,g3⟩:=h4 i hi
    exact⟨rv',by rw[Tr _ _ (amE b l hmo)];exact g1,g2.mono hT.ext,g3⟩
  ·intro b1 b2 l1 l2 Bv h1 h2 Cp EL BV
   have fresh:∀b b' l l',m' b=some l→m b=none→m b'=some l'→Live (st c).2 b→l.rb=l'.rb→False:=by
    intro b b' l l' g1 g2 g3 g4 g5
    obtain⟨⟨_,g6⟩,g7⟩:=qN b l g1 g2
    rcases g7 with g7 | g7
    ·have:=amE b' l' g3;omega
    ·exact g7 ((gY (Ky b g6)).1 g4)
   cases Mw:m b1 with
   |
    some l1' =>
    cases Zn:m b2 with
    |
     some l2' =>
     have e1:l1'=l1:=by have:=hT.ext b1 l1' Mw;rw[h1] at this;injection this with this;exact this.symm
     have e2:l2'=l2:=by have:=hT.ext b2 l2' Zn;rw[h2] at this;injection this with this;exact this.symm
     subst e1 e2
     exact I.rel.inj b1 b2 _ _ Bv Mw Zn Cp EL BV
    |
     none =>
     have e1:l1'=l1:=by have:=hT.ext b1 l1' Mw;rw[h1] at this;injection this with this;exact this.symm
     subst e1
     exact(fresh b2 b1 _ _ h2 Zn Mw EL BV.symm).elim
   |
    none =>
    cases Zn:m b2 with
    |
     some l2' =>
     have e2:l2'=l2:=by have:=hT.ext b2 l2' Zn;rw[h2] at this;injection this with this;exact this.symm
     subst e2
     exact(fresh b1 b2 _ _ h1 Mw Zn Cp BV).elim
    |
     none =>
     have g1:=(qN b1 l1 h1 Mw).1.2
     have g2:=(qN b2 l2 h2 Zn).1.2
     exact hR.inj b1 b2 l1 l2 Bv h1 h2 ((gY (Ky b1 g1)).1 Cp) ((gY (Ky b2 g2)).1 EL) BV
  ·intro x hx
   refine⟨(hR.BB x hx).1,fun b l hb hm hl => ?_⟩
   obtain⟨⟨e0,fz0,q1⟩,q2⟩:=I.rel.BB x hx
   cases Mw:m b with
   |
    some l' =>
    have e1:l'=l:=by have:=hT.ext b l' Mw;rw[hm] at this;injection this with this;exact this.symm
    subst e1
    exact q2 b l' hb Mw hl
   |
    none =>
    obtain⟨⟨_,g6⟩,g7⟩:=qN b l hm Mw
    rcases g7 with g7 | g7
    ·have:=(Array.getElem?_eq_some_iff.1 q1).1
     omega
    ·exact(g7 ((gY (Ky b g6)).1 hl)).elim
  ·refine⟨fun b l hb=>hT.ext b l (I.tr.ext b l hb),fun b l hb hn => ?_,Nat.le_trans I.tr.size hT.size,fun rb BV hk => ?_,hT.same.1.trans I.tr.same.1,hT.same.2.1.trans I.tr.same.2.1,hT.same.2.2.trans I.tr.same.2.2⟩
   ·cases hm:m b with
    |
     some l' =>
     have e1:l'=l:=by have:=hT.ext b l' hm;rw[hb] at this;injection this with this;exact this.symm
     subst e1
     exact I.tr.new b l' hm hn
    |
     none =>
     obtain⟨⟨g1,g2⟩,g3⟩:=qN b l hb hm
     refine⟨⟨by omega,by omega⟩,?_⟩
     rcases g3 with g3 | g3
     ·exact .inl (Nat.le_trans I.tr.size g3)
     ·exact .inr (.inl fun hl=>g3 ((gY (Ky b g2)).1 hl))
   ·rw[wW rb (Nat.lt_of_lt_of_le BV I.tr.size),I.tr.bO rb BV hk]
  ·intro b l hb
   cases hm:m b with
   | some l'=>exact(I.Wa b l' hm).imp id fun⟨i,h1,h2⟩=>⟨i,.inr h1,h2⟩
   | none=>exact .inr ⟨k,.inl rfl,aU,(qN b l hb hm).1⟩
 | pure=>exact Ov (.inl lO)
 | look=>exact Ov (.inr lO)
end
end Go.PM
namespace Go.PM
section
variable {P:Program} {E:zV} {n:Nat} {call:fO} {lo L0:Nat}
theorem Trans.fresh {m m':dC} {H H1 H2:aD} {w w':World} (h:Trans lo m H w m' H1 w') (h1:H.length≤H1.length) (hf:∀b,H.length≤b→b<H2.length→m b=none):∀b,H1.length≤b→b<H2.length→m' b=none:=by
 intro b Bv hb2
 cases hm:m' b with
 | none=>rfl
 |
  some l =>
  exfalso
  have hn:=hf b (by omega) hb2
  have:=(h.new b l hm hn).1
  omega
structure Gp (n L0:Nat) (m:dC) (ρ:Env) (H:aD) (a:Act) (w:World):Prop where
 Er:a.tmps.size=n
 defs:a.defers=[]
 env:∀t,RV m (ρ t) (a.tmps.getD t undef)
 rel:Rel m L0 H w
theorem Mi {p q:Nat→Bool}:∀ {l:List Nat} {i:Nat},(∀x∈l,q x=true→p x=true)→i∈l→p i=true→q i=false→l.countP q<l.countP p
 |
  x::l,i,h,hi,hp,hq=>by
  rw[List.countP_cons,List.countP_cons]
  have hle:l.countP q≤l.countP p:=List.countP_mono_left fun x hx=>h x (List.mem_cons_of_mem _ hx)
  rcases List.mem_cons.1 hi with rfl | hi
  ·rw[if_neg (by simp[hq]),if_pos hp];omega
  ·have:=Mi (fun x hx=>h x (List.mem_cons_of_mem _ hx)) hi hp hq
   have:(if q x=true then 1 else 0)≤(if p x=true then 1 else 0):=by
    by_cases hqx:q x=true
    ·rw[if_pos hqx,if_pos (h x List.mem_cons_self hqx)];omega
    ·rw[if_neg hqx];omega
   omega
theorem JT {listed:Array Bool} {k i:Nat} (hk:k<listed.size):(listed.setIfInBounds k true).getD i false=true↔(i=k∨listed.getD i false=true):=by
 rcases Nat.lt_or_ge i listed.size with h | h
 ·by_cases e:i=k
  ·subst e;simp[h]
  ·simp[h,e,Ne.symm e]
 ·have:i≠k:=by omega
  simp[h,this]
theorem ZL {ops:Array Oper} {qY:List PI} {ps:List lM} {M:List Nat} {st:Nat→Env×aD} {m0:dC} {w0:World} (T:Text P E n ops qY ps M call lo st) (mA:uE P L0 call) (eI:L0≤lo) (wR:L0≤(st 0).2.length)
  (Av:∀b,(st 0).2.length≤b→b<(st ops.size).2.length→m0 b=none) {Q:Exit→Act→World→Prop}
  (hQ:∀m' a' w',Gp n L0 m' (st ops.size).1 (st ops.size).2 a' w'→Trans lo m0 (st 0).2 w0 m' (st ops.size).2 w'→Q .normal a' w') :
  ∀(fuel:Nat) (listed:Array Bool) (m:dC) (c:Nat) (a:Act) (w:World),listed.size=ops.size→((List.range ops.size).countP fun i => !listed.getD i false)≤fuel →
  qO E n ops ps lo L0 st m0 w0 [] (fun i=>listed.getD i false=true) m c a w→wpAny P .any ops Q fuel listed a w:=by
 have fin:∀(listed:Array Bool) (m:dC) (c:Nat) (a:Act) (w:World),listed.size=ops.size→(Region.ready .any ops listed=[])→qO E n ops ps lo L0 st m0 w0 [] (fun i=>listed.getD i false=true) m c a w→Q .normal a w:=by
  intro listed m c a w hs hr I
  have all:∀i,i<ops.size→listed.getD i false=true:=by
   intro i
   induction i using Nat.strongRecOn with
   |
    _ i ih =>
    intro hi
    cases hl:listed.getD i false with
    | true=>rfl
    |
     false =>
     exfalso
     obtain⟨o,p,pi,ho,_,_,_,Ub,_⟩:=T.at hi
     have:i∈Region.ready .any ops listed:=by
      rw[mem_ready]
      refine⟨?_,o,ho,fun e he hb => ?_⟩
      ·have Rn:i<listed.size:=by omega
       simpa[Rn] using hl
      ·have:=Ub.back e (by simpa using he) hb
       exact ih e.on this (by omega)
     rw[hr] at this
     cases this
  have hcN:c=ops.size:=by
   rcases Nat.lt_or_ge c ops.size with h | h
   ·exact absurd (all c h) (I.atc h).1
   ·have:=I.Mg;omega
  subst hcN
  exact hQ m a w ⟨I.Er,I.defs,fun t=>I.tm t ops.size (Nat.le_refl _) fun i o hi _=>⟨fun _=>DK hi,fun h=>all i h⟩,I.rel⟩ I.tr
 intro fuel
 induction fuel with
 |
  zero =>
  intro listed m c a w hs hc I
  have hr:Region.ready .any ops listed=[]:=by
   rw[List.eq_nil_iff_forall_not_mem]
   intro i hi
   have nO:=mem_ready.1 hi
   obtain⟨h1,o,ho,_⟩:=nO
   have aU:i<ops.size:=(Array.getElem?_eq_some_iff.1 ho).1
   have h0:((List.range ops.size).countP fun i => !listed.getD i false)=0:=by omega
   rw[List.countP_eq_zero] at h0
   have:=h0 i (List.mem_range.2 aU)
   have Rn:i<listed.size:=by omega
   simp[Rn] at this h1
   rw[h1] at this
   cases this
  exact⟨hr,fin listed m c a w hs hr I⟩
 |
  succ fuel ih =>
  intro listed m c a w hs hc I
  refine⟨fun hr=>fin listed m c a w hs hr I,fun k hk => ?_⟩
  obtain⟨h1,o,ho,hb⟩:=mem_ready.1 hk
  have aU:k<ops.size:=(Array.getElem?_eq_some_iff.1 ho).1
  have hkl:k<listed.size:=by omega
  have hkf:listed.getD k false=false:=by simpa[hkl] using h1
  refine YJ T mA eI wR Av I ho (by rw[hkf];exact fun h=>by cases h) (fun e he Zt=>hb e (by simpa using he) Zt) fun m' c' a' w' I'=>ih _ m' c' a' w' (by simpa using hs) ?_ ?_
  ·have:((List.range ops.size).countP fun i => !(listed.setIfInBounds k true).getD i false)<((List.range ops.size).countP fun i => !listed.getD i false):=by
    refine Mi (i:=k) (fun x _ hx => ?_) (List.mem_range.2 aU) (by rw[hkf];rfl) ?_
    ·cases hlx:listed.getD x false with
     | false=>rfl
     |
      true =>
      have:=(JT (i:=x) hkl).2 (.inr hlx)
      rw[this] at hx
      cases hx
    ·rw[(JT hkl).2 (.inl rfl)];rfl
   omega
  ·have e:(fun i=>(listed.setIfInBounds k true).getD i false=true)=fun i=>i=k∨listed.getD i false=true:=by
    funext i
    exact propext (JT hkl)
   rw[e]
   exact I'
theorem Rel.drew {m:dC} {H:aD} {w w':World} (h:Rel m L0 H w) (hw:w'.heap=w.heap):Rel m L0 H w':=by
 have hc:∀x,w'.cell? x=w.cell? x:=fun x=>by unfold World.cell?;rw[hw]
 refine⟨fun b l hb=>by rw[hw];exact h.valid b l hb,fun b l cs e p hm hb => ?_,h.inj,fun x hx=>⟨by rw[hw];exact(h.BB x hx).1,(h.BB x hx).2⟩⟩
 obtain⟨h1,h2,h3,h4⟩:=h.row b l cs e p hm hb
 refine⟨h1,h2,h3,fun i hi => ?_⟩
 rw[hc]
 exact h4 i hi
theorem Q6 {id:Nat} {ops:Array Oper} {draw:Bool} {qY:List PI} (Bp:P.follows .mixedOrders=true) (mA:uE P L0 call) (oR:pM call) (hp:vH P E n ops draw=some qY) {ρ aS:Env} {H H':aD}
  (hv:gH call lo qY ρ H=some (aS,H')) {m:dC} {a:Act} {w:World} (h:Gp n L0 m ρ H a w) (eI:L0≤lo) (hlen:L0≤H.length) (hf:∀b,H.length≤b→b<H'.length→m b=none) {Q:Exit→Act→World→Prop}
  (hQ:∀m' a' w',Gp n L0 m' aS H' a' w'→Trans lo m H w m' H' w'→Q .normal a' w'):(Code.region id ops draw).wp P Q a w:=by
 obtain⟨ps,M,AI⟩:=HL hp
 obtain⟨st,Zl,hsn,Gq⟩:=ET hv
 have hN:qY.length=ops.size:=by rw[AI.arN];simp
 rw[hN] at hsn
 cases draw with
 |
  true =>
  have T:Text P E n ops qY ps M call lo st:=⟨AI,oR,Gq⟩
  apply wp_region_any Bp
  have e0:(st 0).1=ρ:=by rw[Zl]
  have e1:(st 0).2=H:=by rw[Zl]
  have e2:(st ops.size).1=aS:=by rw[hsn]
  have e3:(st ops.size).2=H':=by rw[hsn]
  obtain⟨c,Uu,Qv,Zx,hc4⟩:=DO (fun i=>∃q,ps[i]? = some q∧fF E q = .write) _ 0 ops.size rfl (Nat.zero_le _)
  have SZ:=T.same Uu Qv fun i h1 h2 q hq hw=>Zx i h1 h2 ⟨q,hq,hw⟩
  have ajX:=T.len Uu Qv
  have alL:=T.len (i:=c) (j:=ops.size) Qv (Nat.le_refl _)
  have hgr:=h.rel.grow (by rw[←e1];exact SZ) (fun b h1 h2=>hf b h1 (by rw[←e3];omega))
  have Wv:∀i,(Array.replicate ops.size false).getD i false=true→False:=by
   intro i hi
   rcases Nat.lt_or_ge i ops.size with h | h<;>simp[h] at hi
  refine ZL (m0:=m) (w0:=w) T mA eI (by rw[e1];exact hlen) (by rw[e1,e3];exact hf) (by rw[e1,e2,e3];exact hQ) ops.size _ m c a _ (by simp) (Nat.le_trans List.countP_le_length (by simp)) ?_
  refine⟨h.Er,h.defs,fun i o _ hi=>(Wv i hi).elim,fun t j hj hw => ?_,Qv,fun i q hi hq hw=>absurd ⟨q,hq,hw⟩ (Zx i (Nat.zero_le _) hi),fun hc=>⟨fun h=>Wv _ h,hc4 hc⟩,hgr.drew rfl,?_,fun b l hb => .inl (by rw[hb];exact fun h=>by cases h)⟩
  ·have e:(st j).1 t=ρ t:=by
    rw[←e0]
    refine T.Nw (Nat.zero_le _) hj fun i oi _ Kh hoi hd => ?_
    have Pp:ops.toList[i]? = some oi:=by simpa using hoi
    exact(Wv i ((hw i oi Pp hd).2 Kh)).elim
   rw[e]
   exact h.env t
  ·rw[e1]
   refine⟨fun _ _ h=>h,fun b l hb hn=>(by rw[hb] at hn;cases hn),Nat.le_refl _,fun _ _ _=>rfl,rfl,rfl,rfl⟩
 |
  false =>
  apply wp_region
  have key:∀d i,ops.size-i=d→i≤ops.size→∀m1 a1 w1,Gp n L0 m1 (st i).1 (st i).2 a1 w1→L0≤(st i).2.length→(∀b,(st i).2.length≤b→b<H'.length→m1 b=none) →
    (∀m' a' w',Gp n L0 m' aS H' a' w'→Trans lo m1 (st i).2 w1 m' H' w'→Q .normal a' w')→wpOps P ops Q ((List.range ops.size).drop i) a1 w1:=by
   intro d
   induction d with
   |
    zero =>
    intro i hd hi m1 a1 w1 h1 _ _ hQ1
    have:i=ops.size:=by omega
    subst this
    rw[List.drop_eq_nil_of_le (by simp)]
    rw[hsn] at h1 hQ1
    exact hQ1 m1 a1 w1 h1 (Trans.refl _ _ _ _)
   |
    succ d ih =>
    intro i hd hi m1 a1 w1 h1 Cp hf1 hQ1
    have aU:i<ops.size:=by omega
    rw[List.drop_eq_getElem_cons (by simpa using aU),wpOps_cons]
    have ho:ops.toList[i]? = some ops[i]:=by simp[aU]
    obtain⟨p,pi,hp1,TJ,aeG,_,Ub⟩:=AI.each i _ ho
    have acX:=Gq i pi TJ
    obtain⟨v,hv1,hv2⟩:=vO acX
    have hq:pi.quiet=false:=(Ub rfl).1
    have hE1:=FD oR acX
    have hE2:Ext lo (st (i+1)).2 H':=by
     have:∀d j,ops.size-j=d→j≤ops.size→Ext lo (st j).2 H':=by
      intro d
      induction d with
      | zero =>
        intro j hd hj;have:j=ops.size:=by omega
        subst this;rw[hsn];exact Ext.refl _ _
      |
       succ d ih =>
       intro j hd hj
       have hjl:j<qY.length:=by omega
       exact(FD oR (Gq j qY[j] (List.getElem?_eq_getElem hjl))).trans (ih (j+1) (by omega) (by omega))
     exact this _ (i+1) rfl aU
    have Cb:(List.range ops.size)[i]'(by simpa using aU)=i:=by simp
    rw[Cb]
    refine MT (by simp[aU]) aeG (fun h=>by rw[hq] at h;cases h) hv1 (fun t _=>h1.env t) h1.rel eI Cp (fun b Bv hb2=>hf1 b Bv (Nat.lt_of_lt_of_le hb2 hE2.len)) mA fun m' rv w' QK hR hT => ?_
    rw[hq] at hT
    simp only[Bool.false_eq_true,if_false] at hT
    refine ih (i+1) (by omega) aU m' _ w' ⟨by rw[Fg];exact h1.Er,by rw[EZ];exact h1.defs,fun t => ?_,hR⟩ (Nat.le_trans Cp hE1.len) (hT.fresh hE1.len hf1) fun m2 a2 w2 h2 hT2=>hQ1 m2 a2 w2 h2 (Trans.trans hf1 hE1 hE2 hT hT2)
    rw[hv2,aeG.dst]
    cases hd:ops[i].dst with
    | none=>exact(h1.env t).mono hT.ext
    |
     some d =>
     rw[PE (by rw[h1.Er];exact aeG.bound d hd)]
     show RV m' (if t=d then v else (st i).1 t) _
     by_cases e:t=d
     ·rw[if_pos e,if_pos e];exact QK
     ·rw[if_neg e,if_neg e];exact(h1.env t).mono hT.ext
  have:=key ops.size 0 (by omega) (Nat.zero_le _) m a w (by rw[Zl];exact h) (by rw[Zl];exact hlen) (by rw[Zl];exact hf) (by rw[Zl];exact hQ)
  simpa using this
end
end Go.PM